/- A part of the proof: the walk of functions of the program, or the rules of the walk. -/
import Derived.Test.YthilnfccfjcgfaaGreatAmDraw
set_option linter.unusedSimpArgs false
set_option linter.unusedVariables false
namespace Go.Proofs.AM
open Go

theorem getD_tf {l : Array Bool} {i : Nat} (h : i < l.size) : l.getD i true = l.getD i false := by simp [h]
theorem direct_of {all : Array Oper} {i : Nat} {o : Oper} (ho : all[i]? = some o) {e : Edge} (he : e ∈ o.after) (hb : Region.binds .any e = true) : direct all i e.on = true := by
  unfold direct
  rw [ho]
  simp only [Array.any_eq_true']
  exact ⟨e, he, by simp [hb]⟩
theorem of_direct {all : Array Oper} {i j : Nat} (h : direct all i j = true) : ∃ o, all[i]? = some o ∧ ∃ e ∈ o.after, Region.binds .any e = true ∧ e.on = j := by
  unfold direct at h
  split at h
  · rename_i o ho
    simp only [Array.any_eq_true'] at h
    obtain ⟨e, he, hb⟩ := h
    simp only [Bool.and_eq_true, beq_iff_eq] at hb
    exact ⟨o, ho, e, he, hb.1, hb.2⟩
  · cases h

theorem tailOk_spec {all : Array Oper} {m i : Nat} (h : tailOk all m = true) (hm : m ≤ i) (hi : i < all.size) : (∀ k, k < i → direct all i k = true ∨ (k < m ∧ star all all.size i k = true)) ∧ ∀ k, direct all i k = true → k < i := by
  unfold tailOk at h
  rw [List.all_eq_true] at h
  have h1 := h i (by simp [hi])
  simp only [Bool.or_eq_true, decide_eq_true_eq, Bool.and_eq_true, List.all_eq_true, List.mem_range] at h1
  rcases h1 with h1 | ⟨h1, h2⟩
  · omega
  · refine ⟨h1, fun k hk => ?_⟩
    obtain ⟨o, ho, e, he, hb, rfl⟩ := of_direct hk
    rw [ho] at h2
    simp only [Array.all_eq_true_iff_forall_mem] at h2
    have := h2 e he
    simp only [hb, Bool.not_true, Bool.false_or, decide_eq_true_eq] at this
    exact this

theorem star_un {all : Array Oper} {listed : Array Bool} (hcl : ∀ i j, listed.getD i true = true → i < all.size → direct all i j = true → listed.getD j false = true) :
    ∀ (f i k : Nat), star all f i k = true → listed.getD k false = false → ∃ j, direct all i j = true ∧ listed.getD j false = false
  | 0, _, _, h, _ => by simp [star] at h
  | f + 1, i, k, h, hk => by
    unfold star at h
    split at h
    · rename_i hd; exact ⟨k, hd, hk⟩
    · split at h
      · rename_i o ho
        simp only [Array.any_eq_true'] at h
        obtain ⟨e, he, hb⟩ := h
        simp only [Bool.and_eq_true] at hb
        obtain ⟨j', h1, h2⟩ := star_un hcl f e.on k hb.2 hk
        refine ⟨e.on, direct_of ho he hb.1, ?_⟩
        cases hl : listed.getD e.on false with
        | false => rfl
        | true =>
          obtain ⟨o2, ho2, _⟩ := of_direct h1
          have hlt := (Array.getElem?_eq_some_iff.1 ho2).1
          have hl2 : listed.getD e.on true = true := by
            rw [Array.getD_eq_getD_getElem?] at hl ⊢
            cases hg : listed[e.on]? with
            | none => rw [hg] at hl; simp at hl
            | some b => rw [hg] at hl; simpa using hl
          rw [hcl e.on j' hl2 hlt h1] at h2; cases h2
      · cases h
section
variable {P : Program} {T : TT} {all : Array Oper} {Q : Exit → Act → World → Prop}

theorem tail_any {m : Nat} (ht : tailOk all m = true) : ∀ (fuel : Nat) (listed : Array Bool) (j : Nat) (a : Act) (w : World), listed.size = all.size → m ≤ j → (∀ i, i < j → i < all.size → listed.getD i true = true) → (∀ i, j ≤ i → i < all.size → listed.getD i true = false) →
    all.size - j ≤ fuel → wpList P all Q (all.toList.drop j) a w → wpAny P .any all Q fuel listed a w := by
  intro fuel
  induction fuel with
  | zero =>
    intro listed j a w hsz hmj h1 h2 hf hw
    refine wpAny_done ?_ ?_ 0
    · rw [List.eq_nil_iff_forall_not_mem]
      intro i hi
      obtain ⟨k1, o, ho, k2⟩ := mem_ready.1 hi
      have hlt := (Array.getElem?_eq_some_iff.1 ho).1
      rw [h1 i (by omega) hlt] at k1; cases k1
    · rw [List.drop_of_length_le (by simp; omega)] at hw; exact hw
  | succ f ih =>
    intro listed j a w hsz hmj h1 h2 hf hw
    by_cases hj : j < all.size
    · have hoj : all[j]? = some all[j] := by simp [hj]
      have hdrop : all.toList.drop j = all[j] :: all.toList.drop (j + 1) := by
        rw [List.drop_eq_getElem_cons (by simpa using hj)]; simp
      rw [hdrop] at hw
      have hready : j ∈ Region.ready .any all listed := by
        rw [mem_ready]
        refine ⟨h2 j (Nat.le_refl _) hj, _, hoj, fun e he hb => ?_⟩
        have hk := (tailOk_spec ht hmj hj).2 e.on (direct_of hoj he hb)
        rw [← getD_tf (by omega)]
        exact h1 e.on hk (by omega)
      refine ⟨fun h => (by rw [h] at hready; cases hready), fun i hi => ?_⟩
      have hij : i = j := by
        obtain ⟨k1, o, ho, k2⟩ := mem_ready.1 hi
        have hlt := (Array.getElem?_eq_some_iff.1 ho).1
        rcases Nat.lt_trichotomy i j with hh | hh | hh
        · rw [h1 i hh hlt] at k1; cases k1
        · exact hh
        · have hd : direct all i j = true := by
            rcases (tailOk_spec ht (by omega) hlt).1 j hh with hd | hd
            · exact hd
            · omega
          obtain ⟨o', ho', e, he, hb, rfl⟩ := of_direct hd
          rw [ho] at ho'; cases ho'
          have := k2 e he hb
          rw [← getD_tf (by omega), h2 e.on (Nat.le_refl _) hj] at this
          cases this
      subst hij
      have hw' : wpOp P all Q i (wpList P all Q (all.toList.drop (i + 1))) a w := by
        unfold wpOp
        rw [hoj]
        exact hw
      refine wpOp_mono (fun a' w' h' => ih (listed.setIfInBounds i true) (i + 1) a' w' (by simp [hsz]) (by omega) ?_ ?_ (by omega) h') hw'
      · intro k hk hks
        by_cases e : k = i
        · subst e; simp [hsz, hj]
        · rw [getD_set_ne true (fun e' => e e'.symm)]; exact h1 k (by omega) hks
      · intro k hk hks
        rw [getD_set_ne true (by omega)]; exact h2 k (by omega) hks
    · refine wpAny_done ?_ ?_ (f + 1)
      · rw [List.eq_nil_iff_forall_not_mem]
        intro i hi
        obtain ⟨k1, o, ho, k2⟩ := mem_ready.1 hi
        have hlt := (Array.getElem?_eq_some_iff.1 ho).1
        rw [h1 i (by omega) hlt] at k1; cases k1
      · rw [List.drop_of_length_le (by simp; omega)] at hw; exact hw

theorem star_listed {listed : Array Bool} (hc : ∀ i j, listed.getD i true = true → i < all.size → direct all i j = true → listed.getD j false = true) :
    ∀ (f i j : Nat), (∀ k, direct all i k = true → listed.getD k false = true) → star all f i j = true → listed.getD j false = true := by
  intro f
  induction f with
  | zero => intro i j _ h; cases h
  | succ f ih =>
    intro i j h0 h
    unfold star at h
    split at h
    · rename_i hd; exact h0 j hd
    · split at h
      · rename_i o ho
        simp only [Array.any_eq_true'] at h
        obtain ⟨e, he, hb⟩ := h
        simp only [Bool.and_eq_true] at hb
        have hk := h0 e.on (direct_of ho he hb.1)
        have hlt : e.on < listed.size := by
          rcases Nat.lt_or_ge e.on listed.size with hh | hh
          · exact hh
          · simp [Array.getElem?_eq_none hh] at hk
        refine ih e.on j (fun k hk2 => ?_) hb.2
        obtain ⟨o2, ho2, _⟩ := of_direct hk2
        exact hc e.on k (by rw [getD_tf hlt]; exact hk) (Array.getElem?_eq_some_iff.1 ho2).1 hk2
      · cases h

theorem drawn_any {st' : St} {m : Nat} (ht : tailOk all m = true) (hm : m ≤ all.size) (c : Cx) (e1 : c.P = P) (e2 : c.T = T) (hT : TOk P T) (hG : c.Good) (hK : ∀ a w, Rel c st' a w → wpList P all Q (all.toList.drop m) a w) :
    ∀ (fuel : Nat) (listed : Array Bool) (l : List (Nat × Bool)) (st : St), Dl P T all st l st' → l.Pairwise (fun a b => pw all a b = true) → predsOk all m l = true → st.WF → listed.size = all.size →
    (∀ i, (∃ b, (i, b) ∈ l) ↔ (i < m ∧ listed.getD i true = false)) → (∀ i j, listed.getD i true = true → i < all.size → direct all i j = true → listed.getD j false = true) → (∀ i, m ≤ i → i < all.size → listed.getD i true = false) →
    l.length + (all.size - m) ≤ fuel → ∀ a w, Rel c st a w → wpAny P .any all Q fuel listed a w := by
  intro fuel
  induction fuel with
  | zero =>
    intro listed l st hd hpw hpr hwf hsz hmem hcl htl hf a w hr
    have hl : l = [] := List.eq_nil_of_length_eq_zero (by omega)
    subst hl
    cases hd
    refine tail_any ht 0 listed m a w hsz (Nat.le_refl _) ?_ htl (by omega) (hK a w hr)
    intro i hi his
    cases e : listed.getD i true with
    | true => rfl
    | false => obtain ⟨b, hb⟩ := (hmem i).2 ⟨hi, e⟩; cases hb
  | succ f ih =>
    intro listed l st hd hpw hpr hwf hsz hmem hcl htl hf a w hr
    cases hl : l with
    | nil =>
      subst hl
      cases hd
      refine tail_any ht (f + 1) listed m a w hsz (Nat.le_refl _) ?_ htl (by simp at hf; omega) (hK a w hr)
      intro i hi his
      cases e : listed.getD i true with
      | true => rfl
      | false => obtain ⟨b, hb⟩ := (hmem i).2 ⟨hi, e⟩; cases hb
    | cons p l' =>
      obtain ⟨h0, hb0⟩ := p
      have hp0 : (h0, hb0) ∈ l := by rw [hl]; simp
      have hun := (hmem h0).1 ⟨hb0, hp0⟩
      have hpreds : ∀ i b, (i, b) ∈ l → ∀ k, direct all i k = true → k < m ∧ k ≠ i := by
        intro i b hi k hk
        obtain ⟨o, ho, e, he, hbd, rfl⟩ := of_direct hk
        have h1 := List.all_eq_true.1 hpr (i, b) hi
        simp only [Bool.and_eq_true, decide_eq_true_eq, ho, Array.all_eq_true_iff_forall_mem, Bool.or_eq_true, Bool.not_eq_true', bne_iff_ne] at h1
        rcases h1.2 e he with q | q
        · rw [hbd] at q; cases q
        · exact q
      have hready : h0 ∈ Region.ready .any all listed := by
        obtain ⟨o, st1, ho, _⟩ : ∃ o st1, all[h0]? = some o ∧ StepR P T all st o hb0 st1 := by
          rw [hl] at hd
          cases hd with
          | r ho h hr => exact ⟨_, _, ho, .inl ⟨rfl, _, h, rfl⟩⟩
          | c ho h hr => exact ⟨_, _, ho, .inr ⟨rfl, _, _, _, h, rfl⟩⟩
        rw [mem_ready]
        refine ⟨hun.2, o, ho, fun e he hbd => ?_⟩
        have hdir := direct_of ho he hbd
        obtain ⟨k1, k2⟩ := hpreds h0 hb0 hp0 e.on hdir
        rw [← getD_tf (by omega)]
        cases hg : listed.getD e.on true with
        | true => rfl
        | false =>
          obtain ⟨b', hb'⟩ := (hmem e.on).2 ⟨k1, hg⟩
          rw [hl] at hb' hpw
          rcases List.mem_cons.1 hb' with q | q
          · cases q; exact absurd rfl k2
          · obtain ⟨_, _, _, _, _, _, _, h6, _⟩ := pw_spec ((List.pairwise_cons.1 hpw).1 _ q)
            rw [hdir] at h6; cases h6
      refine ⟨fun h => (by rw [h] at hready; cases hready), fun i hi => ?_⟩
      obtain ⟨k1, oi, hoi, k2⟩ := mem_ready.1 hi
      have hlt := (Array.getElem?_eq_some_iff.1 hoi).1
      have him : i < m := by
        rcases Nat.lt_or_ge i m with hh | hh
        · exact hh
        · have hun2 : listed.getD h0 false = false := by rw [← getD_tf (by omega)]; exact hun.2
          obtain ⟨j, hdir, hju⟩ : ∃ j, direct all i j = true ∧ listed.getD j false = false := by
            rcases (tailOk_spec ht hh hlt).1 h0 (by omega) with q | q
            · exact ⟨h0, q, hun2⟩
            · exact star_un hcl _ _ _ q.2 hun2
          obtain ⟨o', ho', e, he, hbd, rfl⟩ := of_direct hdir
          rw [hoi] at ho'; cases ho'
          have := k2 e he hbd
          rw [hju] at this
          cases this
      obtain ⟨b, hib⟩ := (hmem i).2 ⟨him, k1⟩
      have hdl : ∀ k, direct all i k = true → listed.getD k false = true := by
        intro k hk
        obtain ⟨o', ho', e, he, hbd, rfl⟩ := of_direct hk
        rw [hoi] at ho'; cases ho'
        exact k2 e he hbd
      have hfree : ∀ p ∈ l, p.1 ≠ i → star all all.size i p.1 = false := by
        intro p hp hne
        cases hs : star all all.size i p.1 with
        | false => rfl
        | true =>
          have h1 := star_listed hcl all.size i p.1 hdl hs
          have h2 := ((hmem p.1).1 ⟨p.2, hp⟩)
          rw [getD_tf (by omega), h1] at h2
          cases h2.2
      obtain ⟨o, st1, ho, hstep, hwf1, hrest⟩ := hd.take hwf hpw hib hfree
      have hlen : (l.filter fun p => p.1 != i).length < l.length := List.length_filter_lt_length_iff_exists.2 ⟨(i, b), hib, by simp⟩
      have hIH := ih (listed.setIfInBounds i true) (l.filter fun p => p.1 != i) st1 hrest (hpw.filter _) (List.all_eq_true.2 fun p hp => List.all_eq_true.1 hpr p (List.mem_filter.1 hp).1) hwf1 (by simp [hsz]) ?_ ?_ ?_ (by omega)
      · have hs1 := hstep.step
        obtain ⟨φ, fp, hx⟩ := hr
        unfold wpOp
        rw [ho]
        simp only []
        subst e1 e2
        rcases hs1 with ⟨hw1, hok⟩ | ⟨hw1, rfl⟩
        · rw [if_pos (wanted_of hx hw1)]
          exact .inl (hok c rfl rfl hT hG a w _ _ ⟨φ, fp, hx⟩ fun a' w' h' => hIH a' w' h')
        · rw [if_neg (by rw [wanted_of hx hw1]; simp)]
          exact hIH _ w ⟨φ, fp, hx.put o.dst .ud⟩
      · intro k
        by_cases e : k = i
        · subst e
          constructor
          · rintro ⟨b', hb'⟩
            have := (List.mem_filter.1 hb').2
            simp at this
          · rintro ⟨_, h2⟩
            simp [hsz, hlt] at h2
        · rw [getD_set_ne true (fun e' => e e'.symm), ← hmem k]
          constructor
          · rintro ⟨b', hb'⟩; exact ⟨b', (List.mem_filter.1 hb').1⟩
          · rintro ⟨b', hb'⟩; exact ⟨b', List.mem_filter.2 ⟨hb', by simpa using e⟩⟩
      · intro k j hk hks hkj
        by_cases e : k = i
        · subst e; exact getD_set_true (hdl j hkj)
        · rw [getD_set_ne true (fun e' => e e'.symm)] at hk
          exact getD_set_true (hcl k j hk hks hkj)
      · intro k hk hks
        rw [getD_set_ne true (by omega)]; exact htl k hk hks
end

theorem Go.drawn {P : Program} {T : TT} {Q : Exit → St → Prop} {k : List K} {st stm : St} {id : Nat} {all : Array Oper} (m : Nat) (l : List (Nat × Bool)) (hm : P.follows .mixedOrders = true) (hc : drawOk all m l = true)
    (hd : Dl P T all st l stm) (h : Go P T Q (.ops all (all.toList.drop m)) k stm) : Go P T Q (.code (.region id all true)) k st := by
  intro c e1 e2 hT hG a w hr
  unfold drawOk at hc
  simp only [Bool.and_eq_true, decide_eq_true_eq] at hc
  obtain ⟨⟨⟨⟨⟨hc0, hc1⟩, hc2⟩, hc3⟩, hc4⟩, hc5⟩ := hc
  have hrep : ∀ i, i < all.size → (Array.replicate all.size false).getD i true = false := by intro i hi; simp [hi]
  refine wp_region_any hm ?_
  have hr' : Rel c st a w.drew := by obtain ⟨φ, fp, hx⟩ := hr; exact ⟨φ, fp, hx.drew⟩
  have hwf : st.WF := by
    obtain ⟨φ, fp, hx⟩ := hr
    intro id r hid
    rcases Nat.lt_or_ge id st.nx with hh | hh
    · exact hh
    · rw [hx.fresh id hh] at hid; cases hid
  have hpwl := pwAll_spec hc3
  have hall : ∀ i, (∃ b, (i, b) ∈ l) ↔ i < m := by
    intro i
    constructor
    · rintro ⟨b, hb⟩
      have := List.all_eq_true.1 hc4 _ hb
      simp only [Bool.and_eq_true, decide_eq_true_eq] at this
      exact this.1
    · intro hi
      have := List.all_eq_true.1 hc2 i (by simp [hi])
      simp only [List.any_eq_true, beq_iff_eq] at this
      obtain ⟨p, hp, rfl⟩ := this
      exact ⟨p.2, hp⟩
  have hlen : l.length ≤ m := hc0
  refine drawn_any (Q := KQ P (post c Q) k) hc5 hc1 (st' := stm) (T := T) c e1 e2 hT hG (fun a' w' hr2 => h c e1 e2 hT hG a' w' hr2) all.size (Array.replicate all.size false) l st hd hpwl hc4 hwf (by simp) ?_ ?_ ?_ (by omega) a w.drew hr'
  · intro i
    rw [hall i]
    constructor
    · intro hi; exact ⟨hi, hrep i (by omega)⟩
    · exact fun hi => hi.1
  · intro i j hi his
    rw [hrep i his] at hi; cases hi
  · intro i hi his; exact hrep i his

/-! ### the steps -/
def evalD (T : TT) (all : Array Oper) : St → List (Nat × Bool) → St × List (Nat × Bool)
  | st, [] => (st, [])
  | st, (i, b) :: l => if b then (st, (i, b) :: l) else match all[i]? with
    | none => (st, (i, b) :: l)
    | some o => match wantedA all st o with
      | some true => if pureOp o.op then match opEval T st o with
          | some st' => evalD T all st' l
          | none => (st, (i, b) :: l)
        else (st, (i, b) :: l)
      | some false => evalD T all (st.put o.dst .ud) l
      | none => (st, (i, b) :: l)

section
variable {P : Program} {T : TT} {all : Array Oper}
theorem Dl.run {st st1 st' : St} {l l1 : List (Nat × Bool)} (h : evalD T all st l = (st1, l1)) (hr : Dl P T all st1 l1 st') : Dl P T all st l st' := by
  induction l generalizing st with
  | nil => simp only [evalD, Prod.mk.injEq] at h; obtain ⟨rfl, rfl⟩ := h; exact hr
  | cons p l ih =>
    obtain ⟨i, b⟩ := p
    unfold evalD at h
    cases b with
    | true => simp only [if_true, Prod.mk.injEq] at h; obtain ⟨rfl, rfl⟩ := h; exact hr
    | false =>
      simp only [Bool.false_eq_true, if_false] at h
      split at h
      · obtain ⟨rfl, rfl⟩ := Prod.mk.inj h; exact hr
      · rename_i o ho
        split at h
        · rename_i hw
          split at h
          · rename_i hp
            split at h
            · rename_i st2 he
              obtain ⟨v, rfl, hv⟩ := opEval_local hp he
              exact .r ho (fun st3 k1 k2 _ => .inl ⟨by rw [k1.wanted]; exact hw, .ev (hv st3 k1.ev k2)⟩) (ih h)
            · obtain ⟨rfl, rfl⟩ := Prod.mk.inj h; exact hr
          · obtain ⟨rfl, rfl⟩ := Prod.mk.inj h; exact hr
        · rename_i hw
          exact .r ho (fun st3 k1 k2 _ => .inr ⟨by rw [k1.wanted]; exact hw, rfl⟩) (ih h)
        · obtain ⟨rfl, rfl⟩ := Prod.mk.inj h; exact hr

def ev1 (T : TT) (all : Array Oper) (st : St) (o : Oper) : Option St :=
  match wantedA all st o with
  | some true => if pureOp o.op then opEval T st o else none
  | some false => some (st.put o.dst .ud)
  | none => none
def pickL : List Oper → Nat → Option Oper
  | [], _ => none
  | o :: _, 0 => some o
  | _ :: l, n + 1 => pickL l n
theorem pickL_eq (l : List Oper) (i : Nat) : pickL l i = l[i]? := by
  induction l generalizing i with
  | nil => rfl
  | cons o l ih => cases i with
    | zero => rfl
    | succ i => simpa [pickL] using ih i
theorem picked {i : Nat} {o : Oper} (h : pickL all.toList i = some o) : all[i]? = some o := by rw [pickL_eq] at h; simpa using h
theorem Dl.op {st st1 st' : St} {i : Nat} {o : Oper} {l : List (Nat × Bool)} (ho : pickL all.toList i = some o) (h : ev1 T all st o = some st1) (hr : Dl P T all st1 l st') : Dl P T all st ((i, false) :: l) st' := by
  unfold ev1 at h
  split at h
  · rename_i hw
    split at h
    · rename_i hp
      obtain ⟨v, rfl, hv⟩ := opEval_local hp h
      exact .r (picked ho) (fun st3 k1 k2 _ => .inl ⟨by rw [k1.wanted]; exact hw, .ev (hv st3 k1.ev k2)⟩) hr
    · cases h
  · rename_i hw
    obtain rfl := Option.some.inj h
    exact .r (picked ho) (fun st3 k1 k2 _ => .inr ⟨by rw [k1.wanted]; exact hw, rfl⟩) hr
  · cases h

/-! what is handed over is looked at the same way where more rows lie -/
def LeW (x y : AV) : Prop := ∀ (Z : SzF) (w : World) (S : Nat → Prop) (v : Value), RepW Z w S x v → RepW Z w S y v
theorem slice_one {Z : SzF} {w : World} {S : Nat → Prop} {fl : Fl} {E : TypeId} {xs : List (List AV)} {v : Value} (h : RepW Z w S (.ls fl E xs) v) : v.oneCell' = true := by cases h <;> rfl

theorem passL0_le {st st2 : St} (hx : ExtH st st2) (x : AV) : passL0 st2 x = passL0 st x ∨ (passL0 st x = .uc ∧ ((∃ E xs, passL0 st2 x = .ls .a E xs) ∨ passL0 st2 x = .uc)) := by
  cases x with
  | rf id off len =>
    simp only [passL0]
    cases h : hget st.hp id with
    | some r => simp only [hx id r h]; exact .inl (by trivial)
    | none =>
      refine .inr ⟨rfl, ?_⟩
      cases hget st2.hp id with
      | none => exact .inr (by trivial)
      | some r =>
        simp only []
        split
        · exact .inr (by trivial)
        · exact .inl ⟨_, _, rfl⟩
  | _ => exact .inl rfl
theorem passL_ne {st : St} {x : AV} (h : ∀ id i j, x ≠ .pt id i j) : passL st x = passL0 st x := by
  cases x <;> first | rfl | exact absurd rfl (h _ _ _)
theorem passL0_leX {st st2 : St} (hx : ExtH st st2) (x : AV) : Le (passL0 st2 x) (passL0 st x) := by
  rcases passL0_le hx x with h | ⟨h1, ⟨E, xs, h2⟩ | h2⟩
  · exact .of h
  · intro Z w Sf φ v F h
    rw [h2] at h
    cases h with
    | va k => rw [h1]; exact .uc (slice_one k)
  · rw [h1, h2]; exact .refl _
theorem passL0_leW {st st2 : St} (hx : ExtH st st2) (x : AV) : LeW (passL0 st2 x) (passL0 st x) := by
  rcases passL0_le hx x with h | ⟨h1, ⟨E, xs, h2⟩ | h2⟩
  · rw [h]; exact fun _ _ _ _ h => h
  · intro Z w S v h
    rw [h2] at h
    rw [h1]; exact .uc (slice_one h)
  · rw [h1, h2]; exact fun _ _ _ _ h => h
theorem passL0s_leX {st st2 : St} (hx : ExtH st st2) (xs : List AV) : Les (passL0s st2 xs) (passL0s st xs) := by
  induction xs with
  | nil => trivial
  | cons x xs ih => exact ⟨passL0_leX hx x, ih⟩
theorem passL0s_leW {st st2 : St} (hx : ExtH st st2) {Z : SzF} {w : World} {S : Nat → Prop} (xs : List AV) {vs : List Value} (h : RepWs Z w S (passL0s st2 xs) vs) : RepWs Z w S (passL0s st xs) vs := by
  induction xs generalizing vs with
  | nil => exact h
  | cons x xs ih =>
    simp only [passL0s] at h ⊢
    cases h with
    | cons h1 h2 => exact .cons (passL0_leW hx x _ _ _ _ h1) (ih h2)
theorem passL_leX {st st2 : St} (hx : ExtH st st2) (x : AV) : Le (passL st2 x) (passL st x) := by
  cases x with
  | pt id i j =>
    simp only [passL]
    have toUc : ∀ y, (y = .uc ∨ ∃ cs, y = .vp .a cs) → Le y .uc := by
      rintro y (rfl | ⟨cs, rfl⟩)
      · exact .refl _
      · intro Z w Sf φ v F h
        cases h with
        | vp k => cases k; exact .uc rfl
    cases h : hget st.hp id with
    | none =>
      refine toUc _ ?_
      cases hget st2.hp id with
      | none => exact .inl rfl
      | some r =>
        simp only []
        split
        · split
          · exact .inr ⟨_, rfl⟩
          · exact .inl rfl
        · exact .inl rfl
    | some r =>
      simp only [hx id r h]
      cases r.xs[i]? with
      | none => exact .refl _
      | some cs =>
        simp only []
        split
        · intro Z w Sf φ v F h
          cases h with
          | vp k =>
            generalize hcs : passL0s st2 (cs.drop j) = ys at k
            cases k with
            | vp hS hb ho h1 hs =>
              subst hcs
              refine .vp (.vp hS hb (by rw [passL0s_length] at ho ⊢; exact ho) (by rw [passL0s_length] at h1 ⊢; exact h1) ?_)
              have := passL0s_leW hx _ hs
              rw [passL0s_length] at this ⊢
              exact this
        · exact .refl _
  | _ => rw [passL_ne (fun _ _ _ h => by cases h), passL_ne (fun _ _ _ h => by cases h)]; exact passL0_leX hx _
theorem passLs_leX {st st2 : St} (hx : ExtH st st2) (xs : List AV) : Les (passLs st2 xs) (passLs st xs) := by
  induction xs with
  | nil => trivial
  | cons x xs ih => exact ⟨passL_leX hx x, ih⟩
theorem passV_leX {st st2 : St} (hx : ExtH st st2) (x : AV) : Le (passV st2 x) (passV st x) := by
  cases x with
  | agg cs => exact .agg (passL0s_leX hx cs)
  | tup => exact .refl _
  | ud => exact .refl _
  | fn f cs =>
    intro Z w Sf φ v F h
    simp only [passV] at h ⊢
    cases h with
    | fn hs => exact .fn ((passLs_leX hx cs).rep hs)
  | pt id i j => exact passL_leX hx (.pt id i j)
  | sc v => exact passL_leX hx (.sc v)
  | nl => exact passL_leX hx .nl
  | un => exact passL_leX hx .un
  | uc => exact passL_leX hx .uc
  | ls fl E xs => exact passL_leX hx (.ls fl E xs)
  | rf id off len => exact passL_leX hx (.rf id off len)
  | vp fl cs => exact passL_leX hx (.vp fl cs)
theorem passVs_leX {st st2 : St} (hx : ExtH st st2) (xs : List AV) : Les (passVs st2 xs) (passVs st xs) := by
  induction xs with
  | nil => trivial
  | cons x xs ih => exact ⟨passV_leX hx x, ih⟩
theorem Les.trans {a b c : List AV} (h : Les a b) (k : Les b c) : Les a c := by
  induction a generalizing b c with
  | nil => cases b with
    | nil => exact k
    | cons => exact h.elim
  | cons x a ih => cases b with
    | nil => exact h.elim
    | cons y b => cases c with
      | nil => exact k.elim
      | cons z c => exact ⟨fun Z w Sf φ v F hh => k.1 Z w Sf φ v F (h.1 Z w Sf φ v F hh), ih h.2 k.2⟩

theorem call_agree {o : Oper} {st st2 : St} {fv : Operand} {xs : Array Operand} {ts : Array TypeId} (ho : o.op = .call { callee := .value fv, args := xs, argTypes := ts }) (h : AgreeAt all o st st2) :
    evo st2 fv = evo st fv ∧ xs.toList.map (evo st2) = xs.toList.map (evo st) := by
  refine ⟨h.ev fv (by simp [ho, Op.operands, Call.operands]), List.map_congr_left fun x hx => h.ev x ?_⟩
  simp [ho, Op.operands, Call.operands]
  exact .inr (by simpa using hx)

/-- a call that lays no rows of the caller's -/
theorem Dl.call {st st' : St} {i : Nat} {l : List (Nat × Bool)} {o : Oper} {fv : Operand} {xs : Array Operand} {ts : Array TypeId} {f : FuncId} {caps as : List AV} {res res' : AV}
    (hi : pickL all.toList i = some o) (hg : wantedA all st o = some true) (ho : o.op = .call { callee := .value fv, args := xs, argTypes := ts }) (hfv : evo st fv = .fn f caps) (hc : FnC P T false f as [] res [])
    (ha : Les (passVs st (xs.toList.map (evo st) ++ caps)) (as.map argV)) (hl : ∀ n, landV n res = (res', [])) (hr : Dl P T all (st.put o.dst res') l st') : Dl P T all st ((i, false) :: l) st' := by
  refine .r (picked hi) (v := res') (fun st2 k1 k2 _ => .inl ⟨by rw [k1.wanted]; exact hg, ?_⟩) hr
  obtain ⟨e1, e2⟩ := call_agree ho k1
  have := OpOk.call (st := st2) (o := o) ho (by rw [e1]; exact hfv) hc (by rw [e2]; exact (passVs_leX k2 _).trans ha)
  have e3 : st2.land o.dst res = st2.put o.dst res' := by
    unfold St.land
    simp only [hl, List.nil_append, List.length_nil, Nat.add_zero]
    cases o.dst <;> rfl
  rwa [e3] at this

theorem passL0_hp {st st2 : St} (h : st2.hp = st.hp) (x : AV) : passL0 st2 x = passL0 st x := by
  cases x with
  | rf => simp only [passL0, h]
  | _ => rfl
theorem passL0s_hp {st st2 : St} (h : st2.hp = st.hp) (xs : List AV) : passL0s st2 xs = passL0s st xs := by
  induction xs with
  | nil => rfl
  | cons x xs ih => simp only [passL0s, ih, passL0_hp h]
theorem passL_hp {st st2 : St} (h : st2.hp = st.hp) (x : AV) : passL st2 x = passL st x := by
  cases x with
  | pt => simp only [passL, h, passL0s_hp h]
  | _ => rw [passL_ne (fun _ _ _ h => by cases h), passL_ne (fun _ _ _ h => by cases h)]; exact passL0_hp h _
theorem passLs_hp {st st2 : St} (h : st2.hp = st.hp) (xs : List AV) : passLs st2 xs = passLs st xs := by
  induction xs with
  | nil => rfl
  | cons x xs ih => simp only [passLs, ih, passL_hp h]
theorem passV_hp {st st2 : St} (h : st2.hp = st.hp) (x : AV) : passV st2 x = passV st x := by
  cases x with
  | agg cs => simp only [passV, passL0s_hp h]
  | fn f cs => simp only [passV, passLs_hp h]
  | tup => rfl
  | ud => rfl
  | pt id i j => exact passL_hp h (.pt id i j)
  | sc v => rfl
  | nl => rfl
  | un => rfl
  | uc => rfl
  | ls fl E xs => rfl
  | rf id off len => exact passL_hp h (.rf id off len)
  | vp fl cs => rfl
theorem passVs_hp {st st2 : St} (h : st2.hp = st.hp) (xs : List AV) : passVs st2 xs = passVs st xs := by
  induction xs with
  | nil => rfl
  | cons x xs ih => simp only [passVs, ih, passV_hp h]

theorem land1_rng (n : Nat) (x : AV) : ∀ id r, hget (land1 n x).2 id = some r → n ≤ id ∧ id < n + (land1 n x).2.length := by
  intro id r h
  unfold land1 at h ⊢
  split at h
  · rw [hget_cons] at h
    split at h
    · rename_i e; subst e; simp
    · cases h
  · cases h
  · cases h
  · cases h
theorem lands_rng (n : Nat) (l : List AV) : ∀ id r, hget (lands n l).2 id = some r → n ≤ id ∧ id < n + (lands n l).2.length := by
  induction l generalizing n with
  | nil => intro id r h; cases h
  | cons x l ih =>
    intro id r h
    simp only [lands, hget_append, List.length_append] at h ⊢
    cases e : hget (land1 n x).2 id with
    | some r2 => have := land1_rng n x id r2 e; omega
    | none => rw [e] at h; have := ih _ id r h; omega
theorem land2_rng (n : Nat) (x : AV) : ∀ id r, hget (land2 n x).2 id = some r → n ≤ id ∧ id < n + (land2 n x).2.length := by
  intro id r h
  unfold land2 at h ⊢
  split at h
  · exact lands_rng n _ id r h
  · rename_i hne
    exact land1_rng n _ id r h
theorem land2s_rng (n : Nat) (l : List AV) : ∀ id r, hget (land2s n l).2 id = some r → n ≤ id ∧ id < n + (land2s n l).2.length := by
  induction l generalizing n with
  | nil => intro id r h; cases h
  | cons x l ih =>
    intro id r h
    simp only [land2s, hget_append, List.length_append] at h ⊢
    cases e : hget (land2 n x).2 id with
    | some r2 => have := land2_rng n x id r2 e; omega
    | none => rw [e] at h; have := ih _ id r h; omega
theorem landV_rng (n : Nat) (x : AV) : ∀ id r, hget (landV n x).2 id = some r → n ≤ id ∧ id < n + (landV n x).2.length := by
  intro id r h
  unfold landV at h ⊢
  split at h
  · exact land2s_rng n _ id r h
  · exact land2_rng n _ id r h
theorem land_rows (st : St) (d : Option Tmp) (x : AV) : st.land d x = (st.rows (landV st.nx x).2).put d (landV st.nx x).1 := by
  unfold St.land St.rows
  cases d <;> rfl

/-- a call that lays rows -/
theorem Dl.callC {st st' : St} {i : Nat} {l : List (Nat × Bool)} {o : Oper} {fv : Operand} {xs : Array Operand} {ts : Array TypeId} {f : FuncId} {caps as : List AV} {res : AV}
    (hi : pickL all.toList i = some o) (hg : wantedA all st o = some true) (ho : o.op = .call { callee := .value fv, args := xs, argTypes := ts }) (hfv : evo st fv = .fn f caps) (hc : FnC P T false f as [] res [])
    (ha : Les (passVs st (xs.toList.map (evo st) ++ caps)) (as.map argV)) (hr : Dl P T all (st.land o.dst res) l st') : Dl P T all st ((i, true) :: l) st' := by
  rw [land_rows, ← setO_self (st := st.rows (landV st.nx res).2) (ob := st.ob) rfl] at hr
  refine .c (picked hi) (x := (landV st.nx res).1) (ns := (landV st.nx res).2) (ob' := st.ob) ⟨landV_rng st.nx res, .refl _, fun st2 k1 k2 k3 k4 => ⟨by rw [k1.wanted]; exact hg, ?_⟩⟩ hr
  rw [setO_self (st := st2.rows (landV st.nx res).2) k4]
  obtain ⟨e1, e2⟩ := call_agree ho k1
  have := OpOk.call (st := st2) (o := o) ho (by rw [e1]; exact hfv) hc (by rw [e2, passVs_hp k2]; exact ha)
  rw [land_rows, k3] at this
  exact this

/-- the steps, and what comes behind them -/
def DlK (P : Program) (T : TT) (all : Array Oper) (st : St) (l : List (Nat × Bool)) (G : St → Prop) : Prop := ∃ stm, Dl P T all st l stm ∧ G stm
theorem DlK.nil {st : St} {G : St → Prop} (h : G st) : DlK P T all st [] G := ⟨st, .nil, h⟩
theorem DlK.eq {st st' : St} {l : List (Nat × Bool)} {G : St → Prop} (e : st = st') (h : DlK P T all st' l G) : DlK P T all st l G := e ▸ h
theorem DlK.op {st st1 : St} {i : Nat} {o : Oper} {l : List (Nat × Bool)} {G : St → Prop} (ho : pickL all.toList i = some o) (h : ev1 T all st o = some st1) (hr : DlK P T all st1 l G) : DlK P T all st ((i, false) :: l) G :=
  let ⟨stm, h1, h2⟩ := hr; ⟨stm, .op ho h h1, h2⟩
theorem DlK.call {st : St} {i : Nat} {l : List (Nat × Bool)} {o : Oper} {fv : Operand} {xs : Array Operand} {ts : Array TypeId} {f : FuncId} {caps as : List AV} {res res' : AV} {G : St → Prop}
    (hi : pickL all.toList i = some o) (hg : wantedA all st o = some true) (ho : o.op = .call { callee := .value fv, args := xs, argTypes := ts }) (hfv : evo st fv = .fn f caps) (hc : FnC P T false f as [] res [])
    (ha : Les (passVs st (xs.toList.map (evo st) ++ caps)) (as.map argV)) (hl : ∀ n, landV n res = (res', [])) (hr : DlK P T all (st.put o.dst res') l G) : DlK P T all st ((i, false) :: l) G :=
  let ⟨stm, h1, h2⟩ := hr; ⟨stm, .call hi hg ho hfv hc ha hl h1, h2⟩
theorem DlK.callC {st : St} {i : Nat} {l : List (Nat × Bool)} {o : Oper} {fv : Operand} {xs : Array Operand} {ts : Array TypeId} {f : FuncId} {caps as : List AV} {res : AV} {G : St → Prop}
    (hi : pickL all.toList i = some o) (hg : wantedA all st o = some true) (ho : o.op = .call { callee := .value fv, args := xs, argTypes := ts }) (hfv : evo st fv = .fn f caps) (hc : FnC P T false f as [] res [])
    (ha : Les (passVs st (xs.toList.map (evo st) ++ caps)) (as.map argV)) (hr : DlK P T all (st.land o.dst res) l G) : DlK P T all st ((i, true) :: l) G :=
  let ⟨stm, h1, h2⟩ := hr; ⟨stm, .callC hi hg ho hfv hc ha h1, h2⟩
theorem Go.drawnK {Q : Exit → St → Prop} {k : List K} {st : St} {id : Nat} (m : Nat) (l : List (Nat × Bool)) (hm : P.follows .mixedOrders = true) (hc : drawOk all m l = true)
    (hd : DlK P T all st l (fun stm => Go P T Q (.ops all (all.toList.drop m)) k stm)) : Go P T Q (.code (.region id all true)) k st :=
  let ⟨_, h1, h2⟩ := hd; .drawn m l hm hc h1 h2
end

end Go.Proofs.AM
