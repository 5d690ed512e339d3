/- A part of the proof: the walk of functions of the program, or the rules of the walk. -/
import Derived.Test.YthilnfccfjcgfaaGreatAmCall
set_option linter.unusedSimpArgs false
set_option linter.unusedVariables false
namespace Go.Proofs.AM
open Go

section
variable {c : Cx} {st st' : St} {a : Act} {w w' : World} {φ φ' : Nat → Option Hd} {fp : Nat → List Nat}

/-! ### handing values to look at -/
def Sw (w : World) : Nat → Prop := fun b => b < w.heap.size

theorem RepW.flag {Z : SzF} {S : Nat → Prop} {fl fl' : Fl} {E : TypeId} {xs : List (List AV)} {v : Value} (h : RepW Z w S (.ls fl E xs) v) : RepW Z w S (.ls fl' E xs) v := by
  cases h with
  | ls0 => exact .ls0
  | ls a1 a2 a3 a4 a5 a6 a7 a8 => exact .ls a1 a2 a3 a4 a5 a6 a7 a8
theorem RepW.flagP {Z : SzF} {S : Nat → Prop} {fl fl' : Fl} {cs : List AV} {v : Value} (h : RepW Z w S (.vp fl cs) v) : RepW Z w S (.vp fl' cs) v := by
  cases h with
  | vp a1 a2 a3 a4 a5 => exact .vp a1 a2 a3 a4 a5

theorem pass_rf (hG : c.Good) (h : RelX c st a w φ fp) {id off len : Nat} {hd : Hd} {v : Value} (hφ : φ id = some hd) (hv : RfVal c.T.Z hd off len v) : RepX c.T.Z w (Sa (Sw w)) noφ (passL0 st (.rf id off len)) v [] := by
  obtain ⟨r, hr', hE, hn, g2⟩ := h.row hφ
  simp only [passL0, hr']
  split
  · exact .uc hv.one
  · rename_i hbx
    obtain ⟨E0, n0, loc⟩ := hd
    cases loc with
    | none =>
      simp only [RfVal] at hv
      obtain ⟨rfl, rfl, A, rfl⟩ := hv
      simpa using RepX.va (φ := noφ) (Z := c.T.Z) (w := w) (Sf := Sa (Sw w)) (E := r.E) (xs := []) .ls0
    | some loc =>
      obtain ⟨g, o', cap⟩ := loc
      obtain ⟨cur, F', k1, k2, k3, k4, k5, k6, k7, k8⟩ := g2
      simp only [RfVal] at hv
      obtain ⟨hle, hv⟩ := hv
      simp only at hE hn
      subst hE
      have hlen : ((r.xs.drop off).take len).length = len := by simp; omega
      rcases hv with ⟨hoc, rfl⟩ | ⟨h0, hoc, rfl, A, rfl⟩
      · rw [show rφ r φ = noφ by unfold rφ; rw [if_neg hbx]] at k7
        have hfp : ∀ b ∈ fp id, b < w.heap.size := fun b hb => (h.rng id b hb).1
        have kw := k7.view (S := Sw w) (fun fl b hb => h.slt hG hb) (fun b hb => hfp b (by rw [k8]; simp [hb]))
        have hm : off * c.T.Z r.E + len * c.T.Z r.E ≤ r.xs.length * c.T.Z r.E := by rw [← Nat.add_mul]; exact Nat.mul_le_mul_right _ (by omega)
        have hm2 : r.xs.length * c.T.Z r.E ≤ cap * c.T.Z r.E := Nat.mul_le_mul_right _ k2
        have hs := (kw.drop (off * c.T.Z r.E)).take (len * c.T.Z r.E)
        rw [List.drop_take, List.drop_drop, List.take_take, Nat.min_eq_left (by omega)] at hs
        have : RepW c.T.Z w (Sw w) (.ls .a r.E ((r.xs.drop off).take len)) (.slice (some ⟨g, o' + off * c.T.Z r.E, none⟩) ((r.xs.drop off).take len).length (cap - off)) := by
          refine .ls (hfp g (by rw [k8]; simp)) k1 (by rw [hlen]; omega) (by omega) (fun cc hcc => k4 cc (List.mem_of_mem_drop (List.mem_of_mem_take hcc))) (by rw [hlen]; omega) (fun v hv => k6 v (sub_all hv)) ?_
          rw [flatten_sub k4, hlen]
          exact hs
        rw [hlen] at this
        exact .va this
      · have e : (r.xs.drop off).take 0 = [] := by simp
        rw [e]
        exact .va .ls0

theorem Sf_Sw (hG : c.Good) (h : RelX c st a w φ fp) {fl : Fl} : ∀ b, c.Sf w φ fl b → Sa (Sw w) .a b ∧ w.heap[b]? = w.heap[b]? := fun b hb => ⟨h.slt hG hb, rfl⟩

theorem passL0_rep (hG : c.Good) (h : RelX c st a w φ fp) {x : AV} {v : Value} (hx : RepX c.T.Z w (c.Sf w φ) φ x v []) : RepX c.T.Z w (Sa (Sw w)) noφ (passL0 st x) v [] := by
  generalize hF : ([] : List Nat) = F at hx
  cases hx with
  | sc k => exact .sc k
  | nl => exact .nl
  | ud => exact .ud
  | un => exact .un
  | uc k => exact .uc k
  | agg => subst hF; exact .un
  | tup => subst hF; exact .un
  | own0 => exact .va .ls0
  | own => cases hF
  | va k => exact .va (k.mono (Sf_Sw hG h))
  | vn k => exact .va (k.mono (Sf_Sw hG h)).flag
  | vp k => exact .vp (fl := .a) (k.mono (Sf_Sw hG h)).flagP
  | rf hφ hv => exact pass_rf hG h hφ hv
  | pt => exact .uc rfl
  | fn => exact .uc rfl
theorem passL0s_rep (hG : c.Good) (h : RelX c st a w φ fp) {xs : List AV} {vs : List Value} (hx : RepXs c.T.Z w (c.Sf w φ) φ xs vs []) : RepXs c.T.Z w (Sa (Sw w)) noφ (passL0s st xs) vs [] := by
  induction xs generalizing vs with
  | nil => cases hx; exact .nil
  | cons x xs ih =>
    cases vs with
    | nil => have := hx.length; simp at this
    | cons v vs => obtain ⟨h1, h2⟩ := hx.uncons; exact .cons0 (passL0_rep hG h h1) (ih h2)

theorem RepXs.toW {Z : SzF} {S : Nat → Prop} {xs : List AV} {vs : List Value} (h : RepXs Z w (Sa S) noφ xs vs []) : RepWs Z w S xs vs :=
  h.view (fun fl b hb => by cases fl <;> first | exact hb | exact hb.elim) (by simp)

/-- a row's cell, looked at: what it owns is looked at too -/
theorem pass_cells (hG : c.Good) (h : RelX c st a w φ fp) {xs : List AV} {vs : List Value} {F : List Nat} {ψ : Nat → Option Hd} (hψ : ψ = φ ∨ ψ = noφ) (hx : RepXs c.T.Z w (c.Sf w φ) ψ xs vs F) (hF : ∀ b ∈ F, Sw w b) : RepXs c.T.Z w (Sa (Sw w)) noφ (passL0s st xs) vs [] := by
  induction xs generalizing vs F with
  | nil => cases hx; exact .nil
  | cons x xs ih =>
    cases hx with
    | @cons _ _ v _ vs Fx G hx hs =>
    refine .cons0 ?_ (ih hs fun b hb => hF b (by simp [hb]))
    have hF1 : ∀ b ∈ Fx, Sw w b := fun b hb => hF b (by simp [hb])
    cases hx with
    | sc k => exact .sc k
    | nl => exact .nl
    | ud => exact .ud
    | un => exact .un
    | uc k => exact .uc k
    | agg => exact .un
    | tup => exact .un
    | own0 => exact .va .ls0
    | own a1 a2 a3 a4 a5 a6 a7 =>
      have hv : RepX c.T.Z w (c.Sf w φ) noφ _ _ _ := RepX.own (φ := noφ) a1 a2 a3 a4 a5 a6 a7
      exact .va (hv.view (S := Sw w) (fun fl b hb => h.slt hG hb) hF1).flag
    | va k => exact .va (k.mono (Sf_Sw hG h))
    | vn k => exact .va (k.mono (Sf_Sw hG h)).flag
    | vp k => exact .vp (fl := .a) (k.mono (Sf_Sw hG h)).flagP
    | rf hφ hv =>
      rcases hψ with rfl | rfl
      · exact pass_rf hG h hφ hv
      · cases hφ
    | pt => exact .uc rfl
    | fn => exact .uc rfl

theorem passL0s_drop (st : St) (l : List AV) (n : Nat) : passL0s st (l.drop n) = (passL0s st l).drop n := by
  induction n generalizing l with
  | zero => rfl
  | succ n ih => cases l with
    | nil => simp [passL0s]
    | cons x l => simpa [passL0s] using ih l
theorem passL0s_length (st : St) (l : List AV) : (passL0s st l).length = l.length := by
  induction l with
  | nil => rfl
  | cons x l ih => simp [passL0s, ih]

theorem passL_rep (hG : c.Good) (h : RelX c st a w φ fp) {x : AV} {v : Value} (hx : RepX c.T.Z w (c.Sf w φ) φ x v []) : RepX c.T.Z w (Sa (Sw w)) noφ (passL st x) v [] := by
  unfold passL
  split
  · rename_i id i j
    cases hx with
    | @pt _ _ _ _ n E g o' cap hφ =>
    split
    · rename_i r hr
      split
      · rename_i cs hcs
        split
        · rename_i hj
          obtain ⟨hd, q1, q2⟩ := h.rows id r hr
          rw [hφ] at q1
          cases q1
          have hE : E = r.E := q2.1
          subst hE
          obtain ⟨cur, Fa, Fb, Fc, hb, h1, hcl, hsz, hF, hrep⟩ := q2.at_ rfl hcs
          have hg : ∀ b ∈ fp id, Sw w b := fun b hb => (h.rng id b hb).1
          have hψ : rφ r φ = φ ∨ rφ r φ = noφ := by unfold rφ; split <;> simp
          have k1 := (pass_cells hG h hψ hrep (fun b hb => hg b (by rw [hF]; simp [hb]))).drop0 j
          rw [← passL0s_drop, List.drop_take, List.drop_drop] at k1
          refine .vp (fl := .a) (.vp (E' := r.E) (fz := (0, 0)) (cur := cur) (hg g (by rw [hF]; simp)) hb ?_ (fun v hv => h1 v (sub_all hv)) ?_)
          · rw [passL0s_length, List.length_drop]; omega
          · rw [passL0s_length, List.length_drop]
            have k2 := k1.toW
            rw [hcl]
            exact k2
        · exact .uc rfl
      · exact .uc rfl
    · exact .uc rfl
  · exact passL0_rep hG h hx
theorem passLs_rep (hG : c.Good) (h : RelX c st a w φ fp) {xs : List AV} {vs : List Value} (hx : RepXs c.T.Z w (c.Sf w φ) φ xs vs []) : RepXs c.T.Z w (Sa (Sw w)) noφ (passLs st xs) vs [] := by
  induction xs generalizing vs with
  | nil => cases hx; exact .nil
  | cons x xs ih =>
    cases vs with
    | nil => have := hx.length; simp at this
    | cons v vs => obtain ⟨h1, h2⟩ := hx.uncons; exact .cons0 (passL_rep hG h h1) (ih h2)
theorem passV_rep (hG : c.Good) (h : RelX c st a w φ fp) {x : AV} {v : Value} (hx : RepX c.T.Z w (c.Sf w φ) φ x v []) : RepX c.T.Z w (Sa (Sw w)) noφ (passV st x) v [] := by
  unfold passV
  split
  · generalize hF : ([] : List Nat) = F at hx
    cases hx with
    | agg hs h1 => subst hF; exact .agg (passL0s_rep hG h hs) h1
  · exact .un
  · exact .un
  · cases hx with
    | fn hs => exact .fn (passLs_rep hG h hs)
  · exact passL_rep hG h hx
theorem passVs_rep (hG : c.Good) (h : RelX c st a w φ fp) {xs : List AV} {vs : List Value} (hx : RepXs c.T.Z w (c.Sf w φ) φ xs vs []) : RepXs c.T.Z w (Sa (Sw w)) noφ (passVs st xs) vs [] := by
  induction xs generalizing vs with
  | nil => cases hx; exact .nil
  | cons x xs ih =>
    cases vs with
    | nil => have := hx.length; simp at this
    | cons v vs => obtain ⟨h1, h2⟩ := hx.uncons; exact .cons0 (passV_rep hG h h1) (ih h2)

/-! ### what a call hands back -/
structure Landed (Z : SzF) (w : World) (n : Nat) (ns : List (Nat × Row)) (fr : List Nat) (φn : Nat → Option Hd) (fpn : Nat → List Nat) : Prop where
  rows : ∀ id r, hget ns id = some r → n ≤ id ∧ id < n + ns.length ∧ ∃ hd, φn id = some hd ∧ RowRep Z w (Sa fun _ => False) noφ r hd (fpn id)
  dead : ∀ id, hget ns id = none → φn id = none ∧ fpn id = []
  sub : ∀ i b, b ∈ fpn i → b ∈ fr
  disj : ∀ i j b, b ∈ fpn i → b ∈ fpn j → i = j
  nod : ∀ i, (fpn i).Nodup
def noF : Nat → List Nat := fun _ => []
theorem Landed.nil {Z : SzF} {n : Nat} {fr : List Nat} : Landed Z w n [] fr noφ noF :=
  { rows := fun id r h => (by cases h), dead := fun _ _ => ⟨rfl, rfl⟩, sub := fun i b h => (by cases h), disj := fun i j b h => (by cases h), nod := fun i => .nil }

theorem hget_append {a b : List (Nat × Row)} {i : Nat} : hget (a ++ b) i = (hget a i).orElse fun _ => hget b i := by
  induction a with
  | nil => rfl
  | cons p a ih =>
    obtain ⟨k, r⟩ := p
    rw [List.cons_append, hget_cons, hget_cons]
    split
    · rfl
    · exact ih
def orφ (f g : Nat → Option Hd) : Nat → Option Hd := fun i => (f i).orElse fun _ => g i
theorem Landed.append {Z : SzF} {n : Nat} {ns ms : List (Nat × Row)} {fr gr : List Nat} {φn φm : Nat → Option Hd} {fpn fpm : Nat → List Nat} (h : Landed Z w n ns fr φn fpn) (k : Landed Z w (n + ns.length) ms gr φm fpm) (hd : (fr ++ gr).Nodup) :
    Landed Z w n (ns ++ ms) (fr ++ gr) (orφ φn φm) (fun i => fpn i ++ fpm i) := by
  have one : ∀ i, (fpm i = [] ∧ φm i = none) ∨ (fpn i = [] ∧ φn i = none ∧ hget ns i = none) := by
    intro i
    cases e : hget ms i with
    | none => exact .inl ⟨(k.dead i e).2, (k.dead i e).1⟩
    | some r =>
      refine .inr ?_
      have h1 := (k.rows i r e).1
      cases e2 : hget ns i with
      | none => exact ⟨(h.dead i e2).2, (h.dead i e2).1, rfl⟩
      | some r2 => have := (h.rows i r2 e2).2.1; omega
  rw [List.nodup_append] at hd
  exact {
    rows := fun id r hr => by
      rw [hget_append] at hr
      cases e : hget ns id with
      | some r' =>
        rw [e] at hr; cases hr
        obtain ⟨p1, p2, hd', p3, p4⟩ := h.rows id r e
        refine ⟨p1, by simp; omega, hd', by simp [orφ, p3], ?_⟩
        have : fpm id = [] := by
          rcases one id with q | q
          · exact q.1
          · rw [q.2.1] at p3; cases p3
        rw [this, List.append_nil]; exact p4
      | none =>
        rw [e] at hr
        obtain ⟨p1, p2, hd', p3, p4⟩ := k.rows id r hr
        obtain ⟨q1, q2⟩ := h.dead id e
        refine ⟨by omega, by simp; omega, hd', by simp [orφ, q1, p3], ?_⟩
        rw [q2, List.nil_append]; exact p4
    dead := fun id hr => by
      rw [hget_append] at hr
      cases e : hget ns id with
      | some r' => rw [e] at hr; cases hr
      | none =>
        rw [e] at hr
        obtain ⟨q1, q2⟩ := h.dead id e
        obtain ⟨q3, q4⟩ := k.dead id hr
        exact ⟨by simp [orφ, q1, q3], by simp [q2, q4]⟩
    sub := fun i b hb => by
      rcases List.mem_append.1 hb with hb | hb
      · simp [h.sub i b hb]
      · simp [k.sub i b hb]
    disj := fun i j b hi hj => by
      rcases List.mem_append.1 hi with hi | hi <;> rcases List.mem_append.1 hj with hj | hj
      · exact h.disj i j b hi hj
      · exact absurd rfl (hd.2.2 b (h.sub i b hi) b (k.sub j b hj))
      · exact absurd rfl (hd.2.2 b (h.sub j b hj) b (k.sub i b hi))
      · exact k.disj i j b hi hj
    nod := fun i => by
      rcases one i with q | q
      · simp only [q.1, List.append_nil]; exact h.nod i
      · simp only [q.1, List.nil_append]; exact k.nod i }

/-- stands under all that holds these rows -/
def Stays (Z : SzF) (w : World) (φn : Nat → Option Hd) (x : AV) (v : Value) : Prop := ∀ (Sf : Fl → Nat → Prop) (φ' : Nat → Option Hd), (∀ id h, φn id = some h → φ' id = some h) → RepX Z w Sf φ' x v []
def Stayss (Z : SzF) (w : World) (φn : Nat → Option Hd) (xs : List AV) (vs : List Value) : Prop := ∀ (Sf : Fl → Nat → Prop) (φ' : Nat → Option Hd), (∀ id h, φn id = some h → φ' id = some h) → RepXs Z w Sf φ' xs vs []

abbrev S0 : Fl → Nat → Prop := Sa fun _ => False
theorem S0_any {Sf : Fl → Nat → Prop} : ∀ fl b, S0 fl b → Sf fl b ∧ w.heap[b]? = w.heap[b]? := fun fl b hb => by cases fl <;> exact hb.elim

theorem land1_rep {Z : SzF} {n : Nat} {x : AV} {v : Value} {fr : List Nat} (hx : RepX Z w S0 noφ x v fr) (hn : fr.Nodup) : ∃ φn fpn, Landed Z w n (land1 n x).2 fr φn fpn ∧ Stays Z w φn (land1 n x).1 v := by
  cases hx with
  | sc k => exact ⟨noφ, noF, .nil, fun Sf φ' _ => .sc k⟩
  | nl => exact ⟨noφ, noF, .nil, fun Sf φ' _ => .nl⟩
  | ud => exact ⟨noφ, noF, .nil, fun Sf φ' _ => .ud⟩
  | un => exact ⟨noφ, noF, .nil, fun Sf φ' _ => .un⟩
  | uc k => exact ⟨noφ, noF, .nil, fun Sf φ' _ => .uc k⟩
  | agg => exact ⟨noφ, noF, .nil, fun Sf φ' _ => .un⟩
  | tup => exact ⟨noφ, noF, .nil, fun Sf φ' _ => .un⟩
  | @own0 _ E A =>
    refine ⟨upd noφ n (some ⟨E, 0, none⟩), noF, ?_, ?_⟩
    · refine { rows := ?_, dead := ?_, sub := fun i b h => (by cases h), disj := fun i j b h => (by cases h), nod := fun i => .nil }
      · intro id r hr
        simp only [land1, hget_cons] at hr
        split at hr
        · rename_i e; subst e; cases hr
          exact ⟨Nat.le_refl _, by simp [land1], ⟨E, 0, none⟩, by simp [upd], rfl, rfl, rfl, rfl⟩
        · cases hr
      · intro id hr
        simp only [land1, hget_cons] at hr
        split at hr
        · cases hr
        · rename_i e; exact ⟨by simp [upd, e, noφ], rfl⟩
    · intro Sf φ' hφ
      exact .rf (hφ n ⟨E, 0, none⟩ (by simp [upd])) ⟨rfl, rfl, A, rfl⟩
  | @own _ E xs g o cap cur F hb hc hm hz ho h1 hs =>
    refine ⟨upd noφ n (some ⟨E, xs.length, some (g, o, cap)⟩), upd noF n (g :: F), ?_, ?_⟩
    · refine { rows := ?_, dead := ?_, sub := ?_, disj := ?_, nod := ?_ }
      · intro id r hr
        simp only [land1, hget_cons] at hr
        split at hr
        · rename_i e; subst e; cases hr
          refine ⟨Nat.le_refl _, by simp [land1], ⟨E, xs.length, some (g, o, cap)⟩, by simp [upd], rfl, rfl, ?_⟩
          simp only [upd, if_true]
          exact ⟨cur, F, hb, hc, hm, hz, ho, h1, hs, rfl⟩
        · cases hr
      · intro id hr
        simp only [land1, hget_cons] at hr
        split at hr
        · cases hr
        · rename_i e; exact ⟨by simp [upd, e, noφ], by simp [upd, e, noF]⟩
      · intro i b hb
        unfold upd at hb
        split at hb
        · exact hb
        · cases hb
      · intro i j b hi hj
        unfold upd at hi hj
        split at hi
        · split at hj
          · simp_all
          · cases hj
        · cases hi
      · intro i
        unfold upd
        split
        · exact hn
        · exact .nil
    · intro Sf φ' hφ
      refine .rf (hφ n ⟨E, xs.length, some (g, o, cap)⟩ (by simp [upd])) ?_
      show 0 + xs.length ≤ xs.length ∧ _
      refine ⟨by omega, .inl ⟨.inl rfl, ?_⟩⟩
      simp
  | va k => exact ⟨noφ, noF, .nil, fun Sf φ' _ => .va (k.mono (S0_any .a))⟩
  | vn k => exact ⟨noφ, noF, .nil, fun Sf φ' _ => .vn (k.mono (S0_any .n))⟩
  | vp k => exact ⟨noφ, noF, .nil, fun Sf φ' _ => .vp (k.mono (S0_any _))⟩
  | rf hφ => cases hφ
  | pt hφ => cases hφ
  | fn hs => exact ⟨noφ, noF, .nil, fun Sf φ' h => .fn (hs.mono (fun _ _ h => by cases h) S0_any (by simp))⟩

theorem lands_rep {Z : SzF} {xs : List AV} {vs : List Value} {n : Nat} {fr : List Nat} (hx : RepXs Z w S0 noφ xs vs fr) (hn : fr.Nodup) : ∃ φn fpn, Landed Z w n (lands n xs).2 fr φn fpn ∧ Stayss Z w φn (lands n xs).1 vs := by
  induction xs generalizing vs n fr with
  | nil => cases hx; exact ⟨noφ, noF, .nil, fun Sf φ' _ => .nil⟩
  | cons x xs ih =>
    cases hx with
    | cons h1 h2 =>
      have hn' := List.nodup_append.1 hn
      obtain ⟨φ1, f1, p1, p2⟩ := land1_rep (n := n) h1 hn'.1
      obtain ⟨φ2, f2, q1, q2⟩ := ih (n := n + (land1 n x).2.length) h2 hn'.2.1
      refine ⟨_, _, p1.append q1 hn, fun Sf φ' hφ => .cons0 (p2 Sf φ' fun id h hh => hφ id h (by simp [orφ, hh])) (q2 Sf φ' fun id h hh => hφ id h ?_)⟩
      have : φ1 id = none := by
        cases e : hget (land1 n x).2 id with
        | none => exact (p1.dead id e).1
        | some r =>
          have b1 := (p1.rows id r e).2.1
          cases e2 : hget (lands (n + (land1 n x).2.length) xs).2 id with
          | none => rw [(q1.dead id e2).1] at hh; cases hh
          | some r2 => have := (q1.rows id r2 e2).1; omega
      simp [orφ, this, hh]

theorem land2_rep {Z : SzF} {n : Nat} {x : AV} {v : Value} {fr : List Nat} (hx : RepX Z w S0 noφ x v fr) (hn : fr.Nodup) : ∃ φn fpn, Landed Z w n (land2 n x).2 fr φn fpn ∧ Stays Z w φn (land2 n x).1 v := by
  unfold land2
  split
  · cases hx with
    | agg hs h1 =>
      obtain ⟨φn, fpn, p1, p2⟩ := lands_rep (n := n) hs hn
      exact ⟨φn, fpn, p1, fun Sf φ' hφ => .agg (p2 Sf φ' hφ) h1⟩
  · exact land1_rep hx hn
theorem land2s_rep {Z : SzF} {xs : List AV} {vs : List Value} {n : Nat} {fr : List Nat} (hx : RepXs Z w S0 noφ xs vs fr) (hn : fr.Nodup) : ∃ φn fpn, Landed Z w n (land2s n xs).2 fr φn fpn ∧ Stayss Z w φn (land2s n xs).1 vs := by
  induction xs generalizing vs n fr with
  | nil => cases hx; exact ⟨noφ, noF, .nil, fun Sf φ' _ => .nil⟩
  | cons x xs ih =>
    cases hx with
    | cons h1 h2 =>
      have hn' := List.nodup_append.1 hn
      obtain ⟨φ1, f1, p1, p2⟩ := land2_rep (n := n) h1 hn'.1
      obtain ⟨φ2, f2, q1, q2⟩ := ih (n := n + (land2 n x).2.length) h2 hn'.2.1
      refine ⟨_, _, p1.append q1 hn, fun Sf φ' hφ => .cons0 (p2 Sf φ' fun id h hh => hφ id h (by simp [orφ, hh])) (q2 Sf φ' fun id h hh => hφ id h ?_)⟩
      have : φ1 id = none := by
        cases e : hget (land2 n x).2 id with
        | none => exact (p1.dead id e).1
        | some r =>
          have b1 := (p1.rows id r e).2.1
          cases e2 : hget (land2s (n + (land2 n x).2.length) xs).2 id with
          | none => rw [(q1.dead id e2).1] at hh; cases hh
          | some r2 => have := (q1.rows id r2 e2).1; omega
      simp [orφ, this, hh]
theorem landV_rep {Z : SzF} {n : Nat} {x : AV} {v : Value} {fr : List Nat} (hx : RepX Z w S0 noφ x v fr) (hn : fr.Nodup) : ∃ φn fpn, Landed Z w n (landV n x).2 fr φn fpn ∧ Stays Z w φn (landV n x).1 v := by
  unfold landV
  split
  · cases hx with
    | tup hs =>
      obtain ⟨φn, fpn, p1, p2⟩ := land2s_rep (n := n) hs hn
      exact ⟨φn, fpn, p1, fun Sf φ' hφ => .tup (p2 Sf φ' hφ)⟩
  · exact land2_rep hx hn

/-- the world has grown by what a call hands back -/
theorem RelX.landed (hG : c.Good) (h : RelX c st a w φ fp) (he : Ext w w' noF) {ns : List (Nat × Row)} {fr : List Nat} {φn : Nat → Option Hd} {fpn : Nat → List Nat}
    (hl : Landed c.T.Z w' st.nx ns fr φn fpn) (hfr : ∀ b ∈ fr, w.heap.size ≤ b ∧ b < w'.heap.size) :
    RelX c { st with hp := ns ++ st.hp, nx := st.nx + ns.length } a w' (orφ φn φ) (fun i => fpn i ++ fp i) := by
  have one : ∀ i, (fpn i = [] ∧ φn i = none ∧ hget ns i = none) ∨ (fp i = [] ∧ φ i = none ∧ hget st.hp i = none ∧ st.nx ≤ i) := by
    intro i
    cases e : hget ns i with
    | none => exact .inl ⟨(hl.dead i e).2, (hl.dead i e).1, rfl⟩
    | some r =>
      have h1 := (hl.rows i r e).1
      have h2 := h.fresh i h1
      exact .inr ⟨(h.dead i h2).2, (h.dead i h2).1, h2, h1⟩
  have hφ : ∀ id hd, φ id = some hd → orφ φn φ id = some hd := by
    intro id hd hh
    rcases one id with q | q
    · simp [orφ, q.2.1, hh]
    · rw [q.2.1] at hh; cases hh
  have hbl : ∀ id hd b, orφ φn φ id = some hd → hd.blk = some b → (∃ id hd, φ id = some hd ∧ hd.blk = some b) ∨ w.heap.size ≤ b := by
    intro id hd b hh hb
    rcases one id with q | q
    · simp [orφ, q.2.1] at hh; exact .inl ⟨id, hd, hh, hb⟩
    · simp [orφ, q.2.1] at hh
      cases e : hget ns id with
      | none => rw [(hl.dead id e).1] at hh; cases hh
      | some r =>
        obtain ⟨_, _, hd', p3, p4⟩ := hl.rows id r e
        rw [hh] at p3; cases p3
        exact .inr (hfr b (hl.sub id b (p4.blk hb))).1
  have hS : ∀ fl b, c.Sf w φ fl b → c.Sf w' (orφ φn φ) fl b ∧ w'.heap[b]? = w.heap[b]? := fun fl b hb =>
    ⟨Cx.Sf_mono he.size hbl hb, he.same b (h.slt hG hb) (by simp [noF])⟩
  exact {
    dz := h.dz
    tm := h.tm.mono hφ hS (by simp)
    rows := fun id r hr => by
      rw [hget_append] at hr
      rcases one id with q | q
      · rw [q.2.2] at hr
        obtain ⟨hd, h1, h2⟩ := h.rows id r hr
        refine ⟨hd, hφ id hd h1, ?_⟩
        rw [q.1, List.nil_append]
        refine h2.mono ?_ hS (fun b hb => he.same b (h.rng id b hb).1 (by simp [noF]))
        intro i2 h3 h4
        unfold rφ at h4 ⊢
        split
        · rename_i e; rw [if_pos e] at h4; exact hφ i2 h3 h4
        · rename_i e; rw [if_neg e] at h4; exact h4
      · rw [q.2.2.1] at hr
        have hr' : hget ns id = some r := by cases e : hget ns id with
          | none => rw [e] at hr; cases hr
          | some r2 => rw [e] at hr; cases hr; rfl
        obtain ⟨_, _, hd, p3, p4⟩ := hl.rows id r hr'
        refine ⟨hd, by simp [orφ, p3], ?_⟩
        rw [q.1, List.append_nil]
        exact p4.mono (fun _ _ h => by cases h) S0_any (fun _ _ => rfl)
    dead := fun id hr => by
      rw [hget_append] at hr
      cases e : hget ns id with
      | some r' => rw [e] at hr; cases hr
      | none =>
        rw [e] at hr
        obtain ⟨q1, q2⟩ := hl.dead id e
        obtain ⟨q3, q4⟩ := h.dead id hr
        exact ⟨by simp [orφ, q1, q3], by simp [q2, q4]⟩
    fresh := fun id hn => by
      simp only at hn
      rw [hget_append, h.fresh id (by omega)]
      cases e : hget ns id with
      | none => rfl
      | some r => have := (hl.rows id r e).2.1; omega
    kept := fun id hlt hne => by
      have hk := h.kpn
      simp only at hlt
      rcases one id with q | q
      · rw [hget_append, q.2.2] at hne
        simp only [orφ, q.2.1]
        exact h.kept id hlt hne
      · omega
    kpn := by have := h.kpn; simp only; omega
    disj := fun i j b hi hj => by
      rcases List.mem_append.1 hi with hi | hi <;> rcases List.mem_append.1 hj with hj | hj
      · exact hl.disj i j b hi hj
      · have := (hfr b (hl.sub i b hi)).1; have := (h.rng j b hj).1; omega
      · have := (hfr b (hl.sub j b hj)).1; have := (h.rng i b hi).1; omega
      · exact h.disj i j b hi hj
    nod := fun i => by
      rcases one i with q | q
      · simp only [q.1, List.nil_append]; exact h.nod i
      · simp only [q.1, List.append_nil]; exact hl.nod i
    rng := fun i b hb => by
      rcases List.mem_append.1 hb with hb | hb
      · have := hfr b (hl.sub i b hb)
        exact ⟨this.2, .inl (Nat.le_trans h.grow this.1)⟩
      · exact ⟨Nat.lt_of_lt_of_le (h.rng i b hb).1 he.size, (h.rng i b hb).2⟩
    os := he.os.trans h.os
    tape := he.tape.trans h.tape
    out := he.out.trans h.out
    grow := Nat.le_trans h.grow he.size
    same := fun b h1 h2 => by rw [he.same b (Nat.lt_of_lt_of_le h1 h.grow) (by simp [noF])]; exact h.same b h1 h2
    obs := fun p hp => by
      obtain ⟨q1, q2, q3⟩ := h.obs p hp
      have hlt : p.1 < w.heap.size := by
        rcases Nat.lt_or_ge p.1 w.heap.size with hh | hh
        · exact hh
        · rw [Array.getElem?_eq_none hh] at q1; cases q1
      refine ⟨by rw [he.same p.1 hlt (by simp [noF])]; exact q1, fun i hi => ?_, q3⟩
      rcases List.mem_append.1 hi with hi | hi
      · have := (hfr _ (hl.sub i _ hi)).1; omega
      · exact q2 i hi }

theorem RelX.evs (h : RelX c st a w φ fp) (l : List Operand) : RepXs c.T.Z w (c.Sf w φ) φ (l.map (evo st)) (l.map a.eval) [] := by
  induction l with
  | nil => exact .nil
  | cons x l ih => exact .cons0 (h.ev x) ih

end

/-- what an operation makes of a state -/
def OpOk (P : Program) (T : TT) (st : St) (o : Oper) (st' : St) : Prop :=
  ∀ c : Cx, c.P = P → c.T = T → TOk P T → c.Good → ∀ (a : Act) (w : World) (K : Act → World → Prop) (Q : Exit → Act → World → Prop), Rel c st a w → (∀ a' w', Rel c st' a' w' → K a' w') → o.wp P a w K Q

theorem OpOk.ev {P : Program} {T : TT} {st st' : St} {o : Oper} (h : opEval T st o = some st') : OpOk P T st o st' := by
  intro c e1 e2 hT hG a w K Q hr hK
  subst e1 e2
  obtain ⟨φ, fp, hx⟩ := hr
  exact opEval_sound hT hG hx h hK

/-- a call of a function that looks at its arguments only -/
theorem OpOk.call {P : Program} {T : TT} {st : St} {o : Oper} {fv : Operand} {xs : Array Operand} {ts : Array TypeId} {f : FuncId} {caps as : List AV} {res : AV}
    (ho : o.op = .call { callee := .value fv, args := xs, argTypes := ts }) (hfv : evo st fv = .fn f caps) (hc : FnC P T false f as [] res [])
    (ha : Les (passVs st (xs.toList.map (evo st) ++ caps)) (as.map argV)) : OpOk P T st o (st.land o.dst res) := by
  intro c e1 e2 hT hG a w K Q hr hK
  subst e1 e2
  obtain ⟨φ, fp, hx⟩ := hr
  obtain ⟨⟨fn, hfn, hname, hbody⟩, hcall⟩ := hc
  have hv := hx.ev fv
  rw [hfv] at hv
  generalize hval : a.eval fv = fvv at hv
  cases hv with
  | @fn _ _ _ cvs hcv =>
  have hargs := (hx.evs xs.toList).append hcv
  rw [List.append_nil] at hargs
  have hargs2 := ha.rep (passVs_rep hG hx hargs)
  have hCalls := hcall w (xs.toList.map a.eval ++ cvs) (Sw w) noφ noF hT (fun b hb => ⟨hb, by simp [noF]⟩) hargs2 (by simp) (fun i _ => ⟨rfl, rfl⟩) (by simp [noF]) (by simp [noF]) (by simp [noF])
  unfold Oper.wp
  have hrun : (execOp a.eval o).run c.P w = .ok (.enter f (xs.toList.map a.eval ++ cvs).toArray) w := by
    have hcf : ∀ args : Array Value, (callFunc f args).run c.P w = .ok (.enter f args) w := by
      intro args
      have hname' : ¬ fn.name = "runtime.NumGoroutine" := by simpa using hname
      have hbody' : ¬ fn.body = none := by intro hh; rw [hh] at hbody; cases hbody
      simp [callFunc, go_sem, hfn, hname', hbody']
    simp [execOp, ho, resolve, hval, Deferred.ofValue, invoke, hcf]
  rw [hrun, Oper.upon_enter]
  refine Calls.mono hCalls ?_
  rintro e w' ⟨v, fr, fp', rfl, hv, _, _, _, _, hfrn, _, hfr, _, hext⟩
  have hv0 : RepX c.T.Z w' S0 noφ res v fr := hv.mono (fun _ _ h => h) (fun fl b hb => ⟨by cases fl <;> first | exact hb.elim | exact absurd hb.1 (by simp), rfl⟩) (fun _ _ => rfl)
  obtain ⟨φn, fpn, hl, hst⟩ := landV_rep (n := st.nx) hv0 hfrn
  have hfr' : ∀ b ∈ fr, w.heap.size ≤ b ∧ b < w'.heap.size := by
    intro b hb
    obtain ⟨p1, p2⟩ := hfr b hb
    rcases p2 with p2 | ⟨i, p2⟩
    · exact ⟨p2, p1⟩
    · cases p2
  have h1 := hx.landed hG hext hl hfr'
  have h2 := h1.put o.dst (hst (c.Sf w' (orφ φn φ)) (orφ φn φ) (fun id hd hh => by simp [orφ, hh]))
  have h3 : RelX c (st.land o.dst res) (a.put o.dst v) w' (orφ φn φ) (fun i => fpn i ++ fp i) := by
    unfold St.land
    cases hd : o.dst with
    | none => rw [hd] at h2; exact h2
    | some d => rw [hd] at h2; exact h2
  exact hK _ _ ⟨_, _, h3⟩

theorem Go.by {P : Program} {T : TT} {Q : Exit → St → Prop} {k : List K} {st st' : St} {all : Array Oper} {o : Oper} {os : List Oper} (hg : wantedA all st o = some true) (hs : OpOk P T st o st') (h : Go P T Q (.ops all os) k st') : Go P T Q (.ops all (o :: os)) k st := by
  intro c e1 e2 hT hG a w hr
  obtain ⟨φ, fp, hx⟩ := hr
  show wpList _ _ _ _ _ _
  unfold wpList
  rw [if_pos (wanted_of hx hg)]
  exact .inl (hs c e1 e2 hT hG a w _ _ ⟨φ, fp, hx⟩ fun a' w' h' => h c e1 e2 hT hG a' w' h')
theorem Go.call {P : Program} {T : TT} {Q : Exit → St → Prop} {k : List K} {st : St} {all : Array Oper} {o : Oper} {os : List Oper} {fv : Operand} {xs : Array Operand} {ts : Array TypeId} {f : FuncId} {caps as : List AV} {res : AV}
    (hg : wantedA all st o = some true) (ho : o.op = .call { callee := .value fv, args := xs, argTypes := ts }) (hfv : evo st fv = .fn f caps) (hc : FnC P T false f as [] res [])
    (ha : Les (passVs st (xs.toList.map (evo st) ++ caps)) (as.map argV)) (h : Go P T Q (.ops all os) k (st.land o.dst res)) : Go P T Q (.ops all (o :: os)) k st :=
  Go.by hg (.call ho hfv hc ha) h

end Go.Proofs.AM
