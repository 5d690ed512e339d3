/- A part of the proof: the walk of functions of the program, or the rules of the walk. -/
import Derived.Test.YthilnfccfjcgfaaGreatAmUse
set_option linter.unusedSimpArgs false
set_option linter.unusedVariables false
namespace Go.Proofs.AM
open Go

/-! ### forgetting -/
def cutTm (k : Nat → Bool) (keep : List Nat) : Nat → List AV → List AV
  | _, [] => []
  | i, x :: l => (if isIn keep i then sw2 k x else .un) :: cutTm k keep (i + 1) l
def cutHp (k : Nat → Bool) : List (Nat × Row) → List (Nat × Row)
  | [] => []
  | (i, r) :: h => if k i then cutHp k h else (i, if r.bx then { r with xs := r.xs.map (sws k) } else r) :: cutHp k h
def geB (n i : Nat) : Bool := decide (n ≤ i)
/-- what is not kept is forgotten, and so are the rows from 'n' on -/
def St.cut (st : St) (keep : List Nat) (n : Nat) : St := { st with tm := cutTm (geB n) keep 0 st.tm, hp := cutHp (geB n) st.hp, nx := n }

section
variable {c : Cx} {st st' : St} {a : Act} {w w' : World} {φ φ' : Nat → Option Hd} {fp : Nat → List Nat}

theorem hget_cutHp {k : Nat → Bool} {hp : List (Nat × Row)} {i : Nat} : hget (cutHp k hp) i = if k i then none else (hget hp i).map (swRow k) := by
  induction hp with
  | nil => simp [cutHp, hget]
  | cons p hp ih =>
    obtain ⟨j, r⟩ := p
    unfold cutHp
    by_cases hj : k j = true
    · rw [if_pos hj, ih, hget_cons]
      by_cases e : i = j
      · subst e; simp [hj]
      · simp [e]
    · rw [if_neg hj, hget_cons, hget_cons, ih]
      by_cases e : i = j
      · subst e; simp [hj, swRow]
      · simp [e]

theorem cutTm_rep {Z : SzF} {Sf : Fl → Nat → Prop} {k : Nat → Bool} (hk : ∀ id h, φ id = some h → k id = false → φ' id = some h) {keep : List Nat} {xs : List AV} {vs : List Value} (i : Nat) (h : RepXs Z w Sf φ xs vs []) : RepXs Z w Sf φ' (cutTm k keep i xs) vs [] := by
  induction xs generalizing vs i with
  | nil => cases h; exact .nil
  | cons x xs ih =>
    cases vs with
    | nil => have := h.length; simp at this
    | cons v vs =>
      obtain ⟨h1, h2⟩ := h.uncons
      simp only [cutTm]
      split
      · exact .cons0 (repX_sw2 hk h1) (ih _ h2)
      · exact .cons0 .un (ih _ h2)

theorem RelX.cut (hG : c.Good) (h : RelX c st a w φ fp) (keep : List Nat) (n : Nat) (hn : st.kp ≤ n) :
    RelX c (st.cut keep n) a w (fun i => if n ≤ i then none else φ i) (fun i => if n ≤ i then [] else fp i) := by
  have hφ : ∀ id hd, φ id = some hd → geB n id = false → (fun i => if n ≤ i then none else φ i) id = some hd := by
    intro id hd h1 h2
    simp only [geB, decide_eq_false_iff_not] at h2
    simp only [if_neg h2, h1]
  have hle : ∀ id hd, (fun i => if n ≤ i then none else φ i) id = some hd → φ id = some hd := by
    intro id hd h1
    simp only at h1
    split at h1
    · cases h1
    · exact h1
  have hS : ∀ fl b, c.Sf w φ fl b → c.Sf w (fun i => if n ≤ i then none else φ i) fl b ∧ w.heap[b]? = w.heap[b]? := fun fl b hb =>
    ⟨Cx.Sf_mono (Nat.le_refl _) (fun id hd b h1 h2 => .inl ⟨id, hd, hle id hd h1, h2⟩) hb, rfl⟩
  exact {
    dz := h.dz
    tm := (cutTm_rep (φ' := fun i => if n ≤ i then none else φ i) hφ 0 h.tm).mono (fun _ _ h => h) hS (by simp)
    rows := fun id r hr => by
      simp only [St.cut, hget_cutHp, geB, decide_eq_true_eq] at hr
      split at hr
      · cases hr
      · rename_i hni
        cases e : hget st.hp id with
        | none => rw [e] at hr; cases hr
        | some r0 =>
          rw [e] at hr; cases hr
          obtain ⟨hd, h1, h2⟩ := h.rows id r0 e
          refine ⟨hd, by simp only [if_neg hni, h1], ?_⟩
          rw [if_neg hni]
          obtain ⟨hE, hn', h3⟩ := h2
          unfold swRow
          split
          · rename_i hbx
            refine ⟨hE, by simpa using hn', ?_⟩
            split at h3
            · refine ⟨?_, h3.2⟩; simp [h3.1]
            · obtain ⟨cur, F', hb, k1, k2, k3, k4, k5, k6, k7⟩ := h3
              have hz : ∀ l : List AV, (sws (geB n) l).length = l.length := by
                intro l; induction l with
                | nil => rfl
                | cons x l ih => simp [sws, ih]
              have hfl : ∀ l : List (List AV), (l.map (sws (geB n))).flatten = sws (geB n) l.flatten := by
                have happ : ∀ a b : List AV, sws (geB n) (a ++ b) = sws (geB n) a ++ sws (geB n) b := by
                  intro a b; induction a with
                  | nil => rfl
                  | cons x a ih => simp [sws, ih]
                intro l; induction l with
                | nil => rfl
                | cons x l ih => simp [ih, happ]
              refine ⟨cur, F', hb, by simpa using k1, k2, ?_, k4, k5, ?_, k7⟩
              · intro cc hcc
                obtain ⟨cc', hc1, rfl⟩ := List.mem_map.1 hcc
                rw [hz]; exact k3 cc' hc1
              · simp only [List.length_map, hfl]
                rw [show rφ r0 φ = φ by unfold rφ; rw [if_pos hbx]] at k6
                have k8 := repXs_sws (φ' := fun i => if n ≤ i then none else φ i) hφ k6 (fun v hv => k5 v (List.mem_of_mem_drop (List.mem_of_mem_take hv)))
                rw [show ∀ ψ, rφ { r0 with xs := r0.xs.map (sws (geB n)) } ψ = ψ from fun ψ => by unfold rφ; exact if_pos hbx]
                exact k8.mono (fun _ _ h => h) hS (fun _ _ => rfl)
          · rename_i hbx
            have h2' : RowRep c.T.Z w (c.Sf w φ) (rφ r0 φ) r0 hd (fp id) := ⟨hE, hn', h3⟩
            rw [show rφ r0 φ = noφ by unfold rφ; rw [if_neg hbx]] at h2'
            rw [show rφ r0 (fun i => if n ≤ i then none else φ i) = noφ by unfold rφ; rw [if_neg hbx]]
            exact h2'.mono (fun _ _ h => h) hS (fun _ _ => rfl)
    dead := fun id hr => by
      simp only [St.cut, hget_cutHp, geB, decide_eq_true_eq] at hr
      show (if n ≤ id then none else φ id) = none ∧ (if n ≤ id then [] else fp id) = []
      split
      · exact ⟨rfl, rfl⟩
      · rename_i hni
        rw [if_neg hni] at hr
        refine h.dead id ?_
        cases e : hget st.hp id with
        | none => rfl
        | some r => rw [e] at hr; cases hr
    fresh := fun id hn' => by
      have hn'' : n ≤ id := hn'
      simp only [St.cut, hget_cutHp, geB, decide_eq_true_eq]; rw [if_pos hn'']
    kept := fun id hlt hne => by
      have hlt' : id < st.kp := hlt
      show (if n ≤ id then none else φ id) = c.ψ id
      rw [if_neg (by omega)]
      refine h.kept id hlt' (fun e => hne ?_)
      simp [St.cut, hget_cutHp, e]
    kpn := hn
    disj := fun i j b hi hj => by
      change b ∈ (if n ≤ i then [] else fp i) at hi
      change b ∈ (if n ≤ j then [] else fp j) at hj
      split at hi
      · cases hi
      · split at hj
        · cases hj
        · exact h.disj i j b hi hj
    nod := fun i => by
      show (if n ≤ i then [] else fp i).Nodup
      split
      · exact .nil
      · exact h.nod i
    rng := fun i b hi => by
      change b ∈ (if n ≤ i then [] else fp i) at hi
      split at hi
      · cases hi
      · exact h.rng i b hi
    os := h.os
    tape := h.tape
    out := h.out
    grow := h.grow
    same := h.same
    obs := fun p hp => ⟨(h.obs p hp).1, (fun i hi => by
      change p.1 ∈ (if n ≤ i then [] else fp i) at hi
      split at hi
      · cases hi
      · exact (h.obs p hp).2.1 i hi), (h.obs p hp).2.2⟩ }

/-- an empty slice as a row -/
theorem RelX.promote (hG : c.Good) (h : RelX c st a w φ fp) (d : Nat) (E : TypeId) (hd : tmGet st.tm d = .nl ∨ ∃ E', tmGet st.tm d = .ls .o E' []) :
    RelX c { st with tm := st.tm.set d (.rf st.nx 0 0), hp := (st.nx, ⟨E, false, []⟩) :: st.hp, nx := st.nx + 1 } a w (upd φ st.nx (some ⟨E, 0, none⟩)) fp := by
  have hnx := h.dead st.nx (h.fresh st.nx (Nat.le_refl _))
  have hφ : ∀ id hd, φ id = some hd → upd φ st.nx (some ⟨E, 0, none⟩) id = some hd := by
    intro id hd hh
    unfold upd
    rw [if_neg (fun e => by rw [e, hnx.1] at hh; cases hh), hh]
  have hS : ∀ fl b, c.Sf w φ fl b → c.Sf w (upd φ st.nx (some ⟨E, 0, none⟩)) fl b ∧ w.heap[b]? = w.heap[b]? := fun fl b hb =>
    ⟨Cx.Sf_mono (Nat.le_refl _) (fun id hd b h1 h2 => by
      unfold upd at h1
      split at h1
      · cases h1; simp [Hd.blk] at h2
      · exact .inl ⟨id, hd, h1, h2⟩) hb, rfl⟩
  refine { h with tm := ?_, rows := ?_, dead := ?_, fresh := ?_, kept := ?_, kpn := ?_ }
  · have h1 := h.tm.mono hφ hS (by simp)
    have hv := h.ev (.tmp d)
    have hval : RepX c.T.Z w (c.Sf w (upd φ st.nx (some ⟨E, 0, none⟩))) (upd φ st.nx (some ⟨E, 0, none⟩)) (.rf st.nx 0 0) (a.eval (.tmp d)) [] := by
      refine .rf (h := ⟨E, 0, none⟩) (by simp [upd]) ?_
      rcases hd with hd | ⟨E', hd⟩
      · have hd' : evo st (.tmp d) = .nl := hd
        rw [hd'] at hv
        generalize a.eval (.tmp d) = vv at hv ⊢
        cases hv
        exact ⟨rfl, rfl, none, rfl⟩
      · have hd' : evo st (.tmp d) = .ls .o E' [] := hd
        rw [hd'] at hv
        generalize a.eval (.tmp d) = vv at hv ⊢
        generalize hF : ([] : List Nat) = F at hv
        cases hv with
        | own0 => exact ⟨rfl, rfl, _, rfl⟩
        | own => cases hF
    have h2 := h1.set d hval
    have e : a.tmps.toList.set d (a.eval (.tmp d)) = a.tmps.toList := by
      apply List.ext_getElem
      · simp
      · intro i h1 h2
        rw [List.getElem_set]
        split
        · rename_i e; subst e
          simp only [Act.eval]
          rw [List.length_set, Array.length_toList] at h1
          simp [h1]
        · rfl
    rwa [e] at h2
  · intro id r hr
    rw [hget_cons] at hr
    split at hr
    · rename_i e; subst e; cases hr
      exact ⟨⟨E, 0, none⟩, by simp [upd], rfl, rfl, rfl, hnx.2⟩
    · obtain ⟨hd, h1, h2⟩ := h.rows id r hr
      refine ⟨hd, hφ id hd h1, h2.mono ?_ hS (fun _ _ => rfl)⟩
      intro i2 h3 h4
      unfold rφ at h4 ⊢
      split
      · rename_i e; rw [if_pos e] at h4; exact hφ i2 h3 h4
      · rename_i e; rw [if_neg e] at h4; exact h4
  · intro id hr
    rw [hget_cons] at hr
    split at hr
    · cases hr
    · rename_i e
      obtain ⟨q1, q2⟩ := h.dead id hr
      exact ⟨by simp [upd, e, q1], q2⟩
  · intro id hn
    have hn' : st.nx + 1 ≤ id := hn
    rw [hget_cons, if_neg (by omega)]
    exact h.fresh id (by omega)
  · intro id hlt hne
    have hk := h.kpn
    have hlt' : id < st.kp := hlt
    rw [hget_cons, if_neg (by omega)] at hne
    simp only [upd]
    rw [if_neg (by omega)]
    exact h.kept id hlt' hne
  · have := h.kpn; show st.kp ≤ st.nx + 1; omega
end

section
variable {P : Program} {T : TT} {Q : Exit → St → Prop} {k : List K} {st st' : St} {x : Ctl}
theorem Go.cut (keep : List Nat) (n : Nat) (hn : st.kp ≤ n) (h : Go P T Q x k (st.cut keep n)) : Go P T Q x k st := by
  intro c e1 e2 hT hG a w hr
  obtain ⟨φ, fp, hx⟩ := hr
  exact h c e1 e2 hT hG a w ⟨_, _, hx.cut hG keep n hn⟩
theorem Go.promote (d : Nat) (E : TypeId) (hd : tmGet st.tm d = .nl ∨ ∃ E', tmGet st.tm d = .ls .o E' []) (h : Go P T Q x k { st with tm := st.tm.set d (.rf st.nx 0 0), hp := (st.nx, ⟨E, false, []⟩) :: st.hp, nx := st.nx + 1 }) : Go P T Q x k st := by
  intro c e1 e2 hT hG a w hr
  obtain ⟨φ, fp, hx⟩ := hr
  exact h c e1 e2 hT hG a w ⟨_, _, hx.promote hG d E hd⟩
def ev0 (T : TT) (all : Array Oper) (st : St) (o : Oper) : Option St :=
  match wantedA all st o with
  | some true => opEval T st o
  | some false => some (st.put o.dst .ud)
  | none => none
theorem Go.one {all : Array Oper} {o : Oper} {os : List Oper} (h : ev0 T all st o = some st') (hg : Go P T Q (.ops all os) k st') : Go P T Q (.ops all (o :: os)) k st := by
  unfold ev0 at h
  split at h
  · rename_i hw; exact Go.op hw h hg
  · rename_i hw; cases h; exact Go.op0 hw hg
  · cases h
theorem Go.eq (e : st = st') (h : Go P T Q x k st') : Go P T Q x k st := e ▸ h
/-- a loop that counts -/
theorem Go.iter {body : Code} (I : Nat → St) (N : Nat) (hs : ∀ i, i ≤ N → (i < N → Go P T Q (.lw body) k (I (i + 1))) → Go P T Q (.code body) (.lp body :: k) (I i)) (i : Nat) (hi : i ≤ N) : Go P T Q (.lw body) k (I i) := by
  have : ∀ m i, i + m = N → Go P T Q (.lw body) k (I i) := by
    intro m
    induction m with
    | zero => intro i hi; exact .lw (hs i (by omega) (fun h => by omega))
    | succ m ih => intro i hi; exact .lw (hs i (by omega) (fun h => ih (i + 1) (by omega)))
  exact this (N - i) i (by omega)
/-- a loop that counts, and what holds at its head -/
theorem Go.iterH {body : Code} (I : Nat → St) (H : Nat → Prop) (N : Nat) (hs : ∀ i, i ≤ N → H i → (i < N → H (i + 1) → Go P T Q (.lw body) k (I (i + 1))) → Go P T Q (.code body) (.lp body :: k) (I i)) (i : Nat) (hi : i ≤ N) (h0 : H i) : Go P T Q (.lw body) k (I i) := by
  have : ∀ m i, i + m = N → H i → Go P T Q (.lw body) k (I i) := by
    intro m
    induction m with
    | zero => intro i hi h; exact .lw (hs i (by omega) h (fun h => by omega))
    | succ m ih => intro i hi h; exact .lw (hs i (by omega) h (fun h h2 => ih (i + 1) (by omega) h2))
  exact this (N - i) i (by omega) h0
/-- a loop with a state of its own -/
theorem Go.loopW {α : Type} {body : Code} (I : α → St) (H : α → Prop) (m : α → Nat) (hs : ∀ a, H a → (∀ b, m b < m a → H b → Go P T Q (.lw body) k (I b)) → Go P T Q (.code body) (.lp body :: k) (I a)) (a : α) (h0 : H a) : Go P T Q (.lw body) k (I a) := by
  have : ∀ n a, m a ≤ n → H a → Go P T Q (.lw body) k (I a) := by
    intro n
    induction n with
    | zero => intro a ha h; exact .lw (hs a h (fun b hb => by omega))
    | succ n ih => intro a ha h; exact .lw (hs a h (fun b hb h2 => ih b (by omega) h2))
  exact this (m a) a (Nat.le_refl _) h0
theorem drop_cons {α : Type} {l : List α} {i : Nat} (h : i < l.length) : ∃ x, l[i]? = some x ∧ l.drop i = x :: l.drop (i + 1) :=
  ⟨l[i], List.getElem?_eq_getElem h, List.drop_eq_getElem_cons h⟩
theorem RetQ.mk0 {rs : List ResultVar} {res y : AV} {ks : List Nat} {e : Exit} (he : e = .normal ∨ e = .ret) (hk : st.kp = 0) (h : retA T st rs = some (y, ks)) (hd : dup ks = false) (hl : Le y res) (hn : noA false y = true) : RetQ T rs false 0 res [] e st :=
  ⟨he, hk, y, ks, h, hd, hl, hn, fun i hi => by omega⟩
end
theorem RetQ.mk1 {T : TT} {st : St} {rs : List ResultVar} {res y : AV} {ks : List Nat} {e : Exit} (he : e = .normal ∨ e = .ret) (hk : st.kp = 0) (h : retA T st rs = some (y, ks)) (hd : dup ks = false) (hn : noA false res = true) (hl : y = res) : RetQ T rs false 0 res [] e st :=
  ⟨he, hk, y, ks, h, hd, .of hl, by rw [hl]; exact hn, fun i hi => by omega⟩
theorem noAss_map {α : Type} {f : α → List AV} {b : Bool} (h : ∀ x, noAs b (f x) = true) (l : List α) : noAss b (l.map f) = true := by
  induction l with
  | nil => rfl
  | cons x l ih => simp [noAss, h x, ih]
/-- a row that is filled from the front -/
def fillTo {α : Type} (f : α → List AV) (z : List AV) (xs : List α) (i : Nat) : List (List AV) := (xs.take i).map f ++ List.replicate (xs.length - i) z
theorem fillTo_len {α : Type} {f : α → List AV} {z : List AV} {xs : List α} {i : Nat} (h : i ≤ xs.length) : (fillTo f z xs i).length = xs.length := by simp [fillTo]; omega
theorem fillTo_get {α : Type} {f : α → List AV} {z : List AV} {xs : List α} {i : Nat} (h : i < xs.length) : (fillTo f z xs i)[i]? = some z := by
  unfold fillTo
  rw [List.getElem?_append_right (by simp; omega), List.getElem?_replicate, if_pos (by simp; omega)]
theorem fillTo_set {α : Type} {f : α → List AV} {z : List AV} {xs : List α} {i : Nat} {x : α} (h : xs[i]? = some x) : (fillTo f z xs i).set i (f x) = fillTo f z xs (i + 1) := by
  have hlt : i < xs.length := (List.getElem?_eq_some_iff.1 h).1
  have hx : xs[i] = x := (List.getElem?_eq_some_iff.1 h).2
  unfold fillTo
  rw [List.set_append_right _ _ (by simp; omega), List.take_succ_eq_append_getElem hlt, hx]
  have e : xs.length - i = (xs.length - (i + 1)) + 1 := by omega
  rw [e, List.replicate_succ]
  simp [Nat.min_eq_left (Nat.le_of_lt hlt)]
theorem fillTo_0 {α : Type} {f : α → List AV} {z : List AV} {xs : List α} : fillTo f z xs 0 = List.replicate xs.length z := by simp [fillTo]
theorem fillTo_all {α : Type} {f : α → List AV} {z : List AV} {xs : List α} {i : Nat} (h : xs.length ≤ i) : (fillTo f z xs i).take xs.length = xs.map f := by
  have e : xs.length - i = 0 := by omega
  rw [fillTo, e, List.take_of_length_le h]
  simp only [List.replicate_zero, List.append_nil]
  exact List.take_of_length_le (by simp)
theorem take_map_len {α β : Type} {f : α → β} {l : List α} : (l.map f).take l.length = l.map f := List.take_of_length_le (by simp)
attribute [go_sem] take_map_len
attribute [go_sem] ev0 cutTm cutHp geB St.cut numRows
end Go.Proofs.AM
