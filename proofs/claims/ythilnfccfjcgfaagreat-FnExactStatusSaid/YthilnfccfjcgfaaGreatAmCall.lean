/- A part of the proof: the walk of functions of the program, or the rules of the walk. -/
import Derived.Test.YthilnfccfjcgfaaGreatAmGo
set_option linter.unusedSimpArgs false
set_option linter.unusedVariables false
namespace Go.Proofs.AM
open Go

/-- the views of a callee -/
def Sa (S : Nat → Prop) : Fl → Nat → Prop
  | .a => S
  | _ => fun _ => False

section
variable {Z : SzF} {w w' : World} {Sf Sf' : Fl → Nat → Prop} {φ : Nat → Option Hd}
theorem noAs_append (vw : Bool) (a b : List AV) : noAs vw (a ++ b) = (noAs vw a && noAs vw b) := by
  induction a with
  | nil => simp [noAs]
  | cons x a ih => simp [noAs, ih, Bool.and_assoc]
theorem noAs_flatten (vw : Bool) (xs : List (List AV)) : noAs vw xs.flatten = noAss vw xs := by
  induction xs with
  | nil => simp [noAs, noAss]
  | cons x xs ih => simp [noAs_append, noAss, ih]
/-- what holds but views of the arguments, or none, holds under any views that have these -/
theorem RepX.noV {vw : Bool} (hv : vw = true → ∀ b, Sf .a b → Sf' .a b) {x : AV} {v : Value} {F : List Nat} (h : RepX Z w Sf φ x v F) (hn : noA vw x = true) : RepX Z w Sf' φ x v F := by
  refine RepX.rec (motive_1 := fun φ x v F _ => noA vw x = true → RepX Z w Sf' φ x v F)
    (motive_2 := fun φ xs vs F _ => noAs vw xs = true → RepXs Z w Sf' φ xs vs F)
    ?_ ?_ ?_ ?_ ?_ ?_ ?_ ?_ ?_ ?_ ?_ ?_ ?_ ?_ ?_ ?_ ?_ h hn
  · intro φ v h _; exact .sc h
  · intro φ _; exact .nl
  · intro φ _; exact .ud
  · intro φ v _; exact .un
  · intro φ v h _; exact .uc h
  · intro φ cs vs F _ h1 ih hn; exact .agg (ih (by simpa [noA] using hn)) h1
  · intro φ cs vs F _ ih hn; exact .tup (ih (by simpa [noA] using hn))
  · intro φ E A _; exact .own0
  · intro φ E xs g o cap cur F hb hc hm hz ho h1 _ ih hn
    exact .own hb hc hm hz ho h1 (ih (by rw [noAs_flatten]; simpa [noA] using hn))
  · intro φ E xs v h hn; exact .va (h.mono fun b hb => ⟨hv (by simpa [noA] using hn) b hb, rfl⟩)
  · intro φ E xs v h hn; simp [noA] at hn
  · intro φ fl cs v h hn
    cases fl with
    | a => exact .vp (h.mono fun b hb => ⟨hv (by simpa [noA] using hn) b hb, rfl⟩)
    | o => simp [noA] at hn
    | n => simp [noA] at hn
  · intro φ id off len h v hp hv _; exact .rf hp hv
  · intro φ id i j n E g o cap hp _; exact .pt hp
  · intro φ f cs vs _ ih hn; exact .fn (ih (by simpa [noA] using hn))
  · intro φ _; exact .nil
  · intro φ x v xs vs F G _ _ h hs hn
    simp only [noAs, Bool.and_eq_true] at hn
    exact .cons (h hn.1) (hs hn.2)
theorem RepXs.noV {vw : Bool} (hv : vw = true → ∀ b, Sf .a b → Sf' .a b) {xs : List AV} {vs : List Value} {F : List Nat} (h : RepXs Z w Sf φ xs vs F) (hn : noAs vw xs = true) : RepXs Z w Sf' φ xs vs F := by
  induction xs generalizing vs F with
  | nil => cases h; exact .nil
  | cons x xs ih =>
    simp only [noAs, Bool.and_eq_true] at hn
    cases h with
    | cons h hs => exact .cons (h.noV hv hn.1) (ih hs hn.2)
end

/-- one is as good as another -/
def Le (x y : AV) : Prop := ∀ (Z : SzF) (w : World) (Sf : Fl → Nat → Prop) (φ : Nat → Option Hd) (v : Value) (F : List Nat), RepX Z w Sf φ x v F → RepX Z w Sf φ y v F
def Les : List AV → List AV → Prop
  | [], [] => True
  | x :: l, y :: m => Le x y ∧ Les l m
  | _, _ => False
theorem Le.refl (x : AV) : Le x x := fun _ _ _ _ _ _ h => h
theorem Le.of {x y : AV} (h : x = y) : Le x y := h ▸ Le.refl x
theorem Le.nl (E : TypeId) : Le .nl (.ls .o E []) := fun _ _ _ _ _ _ h => by cases h; exact .own0
theorem Le.nla (E : TypeId) : Le .nl (.ls .a E []) := fun _ _ _ _ _ _ h => by cases h; exact .va .ls0
theorem Les.refl (l : List AV) : Les l l := by
  induction l with
  | nil => exact trivial
  | cons x l ih => exact ⟨Le.refl x, ih⟩
theorem Les.of {l m : List AV} (h : l = m) : Les l m := h ▸ Les.refl l
theorem Les.rep {Z : SzF} {w : World} {Sf : Fl → Nat → Prop} {φ : Nat → Option Hd} {xs ys : List AV} {vs : List Value} {F : List Nat} (h : Les xs ys) (hr : RepXs Z w Sf φ xs vs F) : RepXs Z w Sf φ ys vs F := by
  induction xs generalizing ys vs F with
  | nil =>
    cases ys with
    | nil => exact hr
    | cons => exact h.elim
  | cons x xs ih =>
    cases ys with
    | nil => exact h.elim
    | cons y ys =>
      cases hr with
      | cons h1 h2 => exact .cons (h.1 _ _ _ _ _ _ h1) (ih h.2 h2)
theorem Le.agg {xs ys : List AV} (h : Les xs ys) : Le (.agg xs) (.agg ys) := fun _ _ _ _ _ _ hr => by
  cases hr with | agg h1 h2 => exact .agg (h.rep h1) h2
theorem Le.tup {xs ys : List AV} (h : Les xs ys) : Le (.tup xs) (.tup ys) := fun _ _ _ _ _ _ hr => by
  cases hr with | tup h1 => exact .tup (h.rep h1)
theorem Le.un {x : AV} (h : ∀ (Z : SzF) (w : World) (Sf : Fl → Nat → Prop) (φ : Nat → Option Hd) (v : Value) (F : List Nat), RepX Z w Sf φ x v F → F = []) : Le x .un := fun Z w Sf φ v F hr => by
  rw [h Z w Sf φ v F hr]; exact .un

/-- the world has grown, and what was there stands but for the rows that were handed over -/
structure Ext (w w' : World) (fp : Nat → List Nat) : Prop where
  os : w'.os = w.os
  tape : w'.tape = w.tape
  out : w'.output = w.output
  size : w.heap.size ≤ w'.heap.size
  same : ∀ b, b < w.heap.size → (∀ i, b ∉ fp i) → w'.heap[b]? = w.heap[b]?

def CallOk (P : Program) (f : FuncId) : Prop := ∃ fn, P.funcs[f]? = some fn ∧ (fn.name == "runtime.NumGoroutine") = false ∧ fn.body.isNone = false

/-- what a call leaves -/
def RetP (T : TT) (vw : Bool) (S : Nat → Prop) (ψ : Nat → Option Hd) (fp : Nat → List Nat) (res : AV) (rows' : List (Option Row)) (w : World) (e : Ending) (w' : World) : Prop :=
  ∃ (v : Value) (fr : List Nat) (fp' : Nat → List Nat), e = .returned v ∧ RepX T.Z w' (Sa fun b => vw = true ∧ S b) noφ res v fr ∧
      (∀ (i : Nat) (r : Row), rows'[i]? = some (some r) → ∃ h, ψ i = some h ∧ RowRep T.Z w' (Sa fun b => vw = true ∧ S b) noφ r h (fp' i)) ∧
      (∀ (i : Nat), (∀ r : Row, rows'[i]? ≠ some (some r)) → fp' i = []) ∧ (∀ (i j b : Nat), b ∈ fp' i → b ∈ fp' j → i = j) ∧ (∀ i : Nat, (fp' i).Nodup) ∧ fr.Nodup ∧ (∀ (i b : Nat), b ∈ fr → b ∉ fp' i) ∧
      (∀ b ∈ fr, b < w'.heap.size ∧ (w.heap.size ≤ b ∨ ∃ i, b ∈ fp i)) ∧ (∀ (i b : Nat), b ∈ fp' i → b < w'.heap.size ∧ (w.heap.size ≤ b ∨ ∃ i, b ∈ fp i)) ∧ Ext w w' fp

/-- THE CONTRACT: what f makes of arguments (looked at only) and of rows that it is handed. -/
def FnC (P : Program) (T : TT) (vw : Bool) (f : FuncId) (args : List AV) (rows : List Row) (res : AV) (rows' : List (Option Row)) : Prop :=
  CallOk P f ∧ ∀ (w : World) (vs : List Value) (S : Nat → Prop) (ψ : Nat → Option Hd) (fp : Nat → List Nat), TOk P T →
    (∀ b, S b → b < w.heap.size ∧ ∀ i, b ∉ fp i) → RepXs T.Z w (Sa S) ψ (args.map argV) vs [] →
    (∀ (i : Nat) (r : Row), rows[i]? = some r → ∃ h, ψ i = some h ∧ RowRep T.Z w (Sa S) noφ r h (fp i)) → (∀ i, rows.length ≤ i → ψ i = none ∧ fp i = []) →
    (∀ i j b, b ∈ fp i → b ∈ fp j → i = j) → (∀ i, (fp i).Nodup) → (∀ i b, b ∈ fp i → b < w.heap.size) →
    Calls P f vs.toArray w (RetP T vw S ψ fp res rows' w)

def numRows (n : Nat) : List Row → List (Nat × Row)
  | [] => []
  | r :: l => (n, r) :: numRows (n + 1) l
theorem hget_num (n : Nat) (l : List Row) (i : Nat) : hget (numRows n l) i = if n ≤ i then l[i - n]? else none := by
  induction l generalizing n with
  | nil => simp [numRows, hget]
  | cons r l ih =>
    rw [numRows, hget_cons, ih]
    by_cases e : i = n
    · subst e; simp
    · rw [if_neg e]
      by_cases h : n ≤ i
      · rw [if_pos h, if_pos (by omega)]
        have : i - n = (i - (n + 1)) + 1 := by omega
        rw [this]; rfl
      · rw [if_neg h, if_neg (by omega)]

def st0 (args : List AV) (rows : List Row) (kp ntmps : Nat) : St :=
  ⟨args.map argV ++ List.replicate (ntmps - args.length) .ud, numRows 0 rows, rows.length, kp, []⟩

def noRefs : List AV → Bool
  | [] => true
  | x :: l => (match x with
    | .rf _ _ _ => false
    | .pt _ _ _ => false
    | .fn _ _ => false
    | _ => true) && noRefs l
def Rles (r s : Row) : Prop := r.E = s.E ∧ Ress r.xs s.xs
where Ress : List (List AV) → List (List AV) → Prop
  | [], [] => True
  | x :: l, y :: m => Les x y ∧ Ress l m
  | _, _ => False

/-- the end of a function's body -/
def RetQ (T : TT) (rs : List ResultVar) (vw : Bool) (kp : Nat) (res : AV) (rows' : List (Option Row)) (e : Exit) (st : St) : Prop :=
  (e = .normal ∨ e = .ret) ∧ st.kp = kp ∧ ∃ x ks, retA T st rs = some (x, ks) ∧ dup ks = false ∧ Le x res ∧ noA vw x = true ∧
    ∀ i, i < kp → ∃ r s, hget st.hp i = some r ∧ rows'[i]? = some (some s) ∧ r.bx = s.bx ∧ Rles r s ∧ noAss vw r.xs = true ∧ (r.bx = true → noRefs r.xs.flatten = true)

section
variable {c : Cx} {st st' : St} {a : Act} {w w' : World} {φ φ' : Nat → Option Hd} {fp : Nat → List Nat}

theorem closeR_rep (h : RelX c st a w φ fp) {x : AV} {v : Value} (hx : RepX c.T.Z w (c.Sf w φ) φ x v []) {y : AV} {ks : List Nat} (hc : closeR st x = some (y, ks)) (hd : dup ks = false) :
    ∃ F, RepX c.T.Z w (c.Sf w φ) noφ y v F ∧ F.Nodup ∧ (∀ b ∈ F, ∃ k ∈ ks, b ∈ fp k) ∧ (∀ k ∈ ks, st.kp ≤ k) := by
  unfold closeR at hc
  split at hc
  · rename_i cs
    split at hc
    · rename_i m k e
      obtain ⟨rfl, rfl⟩ := Prod.mk.inj (Option.some.inj hc)
      generalize hF : ([] : List Nat) = F at hx
      cases hx with
      | agg hs h1 =>
        subst hF
        obtain ⟨Fn, p1, p2, p3, p4, p5⟩ := close_rep h hs e hd
        exact ⟨Fn, .agg p1 h1, p2, p3, fun k hk => (p4 k hk).1⟩
    · cases hc
  · have e : close st [x] = some ([y], ks) := by simp [close, hc]
    obtain ⟨Fn, p1, p2, p3, p4, p5⟩ := close_rep h (.cons0 hx .nil) e hd
    generalize hy : [y] = ys at p1
    generalize hv : [v] = vs at p1
    cases p1 with
    | nil => cases hy
    | cons q1 q2 =>
      cases hy; cases hv
      cases q2
      simp only [List.append_nil] at *
      exact ⟨_, q1, p2, p3, fun k hk => (p4 k hk).1⟩

theorem retAll_rep (hT : TOk c.P c.T) (h : RelX c st a w φ fp) (rs : List ResultVar) {ys : List AV} {ks : List Nat} (hr : retAll c.T st rs = some (ys, ks)) (hd : dup ks = false) :
    ∃ vs F, (rs.mapM fun r => (match r with | .tmp t => pure (a.tmps.getD t undef) | .cell ad t => (do loadVar t (← asAddr (a.tmps.getD ad undef))) : Sem Value)).run c.P w = .ok vs w ∧
      RepXs c.T.Z w (c.Sf w φ) noφ ys vs F ∧ F.Nodup ∧ (∀ b ∈ F, ∃ k ∈ ks, b ∈ fp k) ∧ (∀ k ∈ ks, st.kp ≤ k) := by
  induction rs generalizing ys ks with
  | nil => simp [retAll] at hr; obtain ⟨rfl, rfl⟩ := hr; exact ⟨[], [], by simp, .nil, .nil, by simp, by simp⟩
  | cons r rs ih =>
    unfold retAll at hr
    split at hr
    · rename_i x k1 m k2 e1 e2
      obtain ⟨rfl, rfl⟩ := Prod.mk.inj (Option.some.inj hr)
      have hnd := dup_iff.1 hd
      rw [List.nodup_append] at hnd
      obtain ⟨vs, F2, p1, p2, p3, p4, p5⟩ := ih e2 (dup_iff.2 hnd.2.1)
      have one : ∃ v F1, ((match r with | .tmp t => pure (a.tmps.getD t undef) | .cell ad t => (do loadVar t (← asAddr (a.tmps.getD ad undef))) : Sem Value)).run c.P w = .ok v w ∧ RepX c.T.Z w (c.Sf w φ) noφ x v F1 ∧ F1.Nodup ∧ (∀ b ∈ F1, ∃ k ∈ k1, b ∈ fp k) ∧ (∀ k ∈ k1, st.kp ≤ k) := by
        cases r with
        | tmp t =>
          obtain ⟨F1, q1, q2, q3, q4⟩ := closeR_rep h (h.ev (.tmp t)) e1 (dup_iff.2 hnd.1)
          exact ⟨_, F1, by rfl, q1, q2, q3, q4⟩
        | cell ad t =>
          simp only [retOne] at e1
          split at e1
          · rename_i v hv
            obtain ⟨ad', y, r1, r2, r3⟩ := evLoad_run hT h (h.ev (.tmp ad)) hv
            obtain ⟨F1, q1, q2, q3, q4⟩ := closeR_rep h r3 e1 (dup_iff.2 hnd.1)
            have r1' : a.tmps.getD ad undef = .pointer (some ad') := r1
            refine ⟨y, F1, ?_, q1, q2, q3, q4⟩
            rw [← r2]
            simp [r1', asAddr, Instr.loadAt, Instr.sureAddr]
          · cases e1
      obtain ⟨v, F1, o1, o2, o3, o4, o5⟩ := one
      refine ⟨v :: vs, F1 ++ F2, ?_, .cons o2 p2, ?_, ?_, ?_⟩
      · rw [List.mapM_cons]
        simp only [Sem.run_bind, o1, Sem.run_pure]
        show (Sem.run c.P _ w).andThen _ = _
        rw [p1]
        rfl
      · rw [List.nodup_append]
        refine ⟨o3, p3, ?_⟩
        rintro b hb b' hb' rfl
        obtain ⟨i, i1, i2⟩ := o4 b hb
        obtain ⟨j, j1, j2⟩ := p4 b hb'
        exact hnd.2.2 i i1 j j1 (h.disj i j b i2 j2)
      · intro b hb
        rcases List.mem_append.1 hb with hb | hb
        · obtain ⟨i, i1, i2⟩ := o4 b hb; exact ⟨i, by simp [i1], i2⟩
        · obtain ⟨i, i1, i2⟩ := p4 b hb; exact ⟨i, by simp [i1], i2⟩
      · intro k hk
        rcases List.mem_append.1 hk with hk | hk
        · exact o5 k hk
        · exact p5 k hk
    · cases hr

def oneV : List Value → Value
  | [v] => v
  | vs => .tuple vs.toArray
theorem resultsL (fn : Func) (a : Act) (vs : List Value) {P : Program} (h : (fn.results.toList.mapM fun r => (match r with | .tmp t => pure (a.tmps.getD t undef) | .cell ad t => (do loadVar t (← asAddr (a.tmps.getD ad undef))) : Sem Value)).run P w = .ok vs w) :
    (results fn a.tmps).run P w = .ok (oneV vs) w := by
  unfold results
  have e : fn.results = fn.results.toList.toArray := by simp
  rw [e, List.mapM_toArray]
  simp only [Sem.run_bind, Sem.run_map]
  refine Eq.trans (congrArg (fun z => (Result.andThen (Result.andThen z _) _)) h) ?_
  cases vs with
  | nil => rfl
  | cons v vs => cases vs <;> rfl

theorem retA_rep (hT : TOk c.P c.T) (h : RelX c st a w φ fp) (fn : Func) {x : AV} {ks : List Nat} (hr : retA c.T st fn.results.toList = some (x, ks)) (hd : dup ks = false) :
    ∃ v F, (results fn a.tmps).run c.P w = .ok v w ∧ RepX c.T.Z w (c.Sf w φ) noφ x v F ∧ F.Nodup ∧ (∀ b ∈ F, ∃ k ∈ ks, b ∈ fp k) ∧ (∀ k ∈ ks, st.kp ≤ k) := by
  unfold retA at hr
  split at hr
  · rename_i y k e
    obtain ⟨rfl, rfl⟩ := Prod.mk.inj (Option.some.inj hr)
    obtain ⟨vs, F, p1, p2, p3, p4, p5⟩ := retAll_rep hT h _ e hd
    refine ⟨_, F, resultsL fn a vs p1, ?_, p3, p4, p5⟩
    generalize hy : [y] = ys at p2
    cases p2 with
    | nil => cases hy
    | cons q1 q2 => cases hy; cases q2; simpa [oneV] using q1
  · rename_i ys k hne e
    obtain ⟨rfl, rfl⟩ := Prod.mk.inj (Option.some.inj hr)
    obtain ⟨vs, F, p1, p2, p3, p4, p5⟩ := retAll_rep hT h _ e hd
    refine ⟨_, F, resultsL fn a vs p1, ?_, p3, p4, p5⟩
    have hl := p2.length
    cases vs with
    | nil => exact .tup p2
    | cons v vs =>
      cases vs with
      | nil =>
        cases ys with
        | nil => simp at hl
        | cons y ys =>
          cases ys with
          | nil => exact absurd rfl (hne y)
          | cons => simp at hl
      | cons => exact .tup p2
  · cases hr

theorem noRefs_φ {Z : SzF} {Sf : Fl → Nat → Prop} {xs : List AV} {vs : List Value} {F : List Nat} (h : RepXs Z w Sf φ xs vs F) (hn : noRefs xs = true) (h1 : ∀ v ∈ vs, v.oneCell' = true) : RepXs Z w Sf noφ xs vs F := by
  induction xs generalizing vs F with
  | nil => cases h; exact .nil
  | cons x xs ih =>
    cases h with
    | cons h hs =>
      simp only [noRefs, Bool.and_eq_true] at hn
      refine .cons ?_ (ih hs hn.2 fun v hv => h1 v (by simp [hv]))
      have hv1 := h1 _ (List.mem_cons_self ..)
      have hn1 := hn.1
      cases h with
      | sc h => exact .sc h
      | nl => exact .nl
      | ud => exact .ud
      | un => exact .un
      | uc h => exact .uc h
      | agg => simp [Value.oneCell'] at hv1
      | tup => simp [Value.oneCell'] at hv1
      | own0 => exact .own0
      | own a1 a2 a3 a4 a5 a6 a7 => exact .own a1 a2 a3 a4 a5 a6 a7
      | va h => exact .va h
      | vn h => exact .vn h
      | vp h => exact .vp h
      | rf => simp at hn1
      | pt => simp at hn1
      | fn => simp at hn1

theorem Ress.rep {Z : SzF} {Sf : Fl → Nat → Prop} {xs ys : List (List AV)} {vs : List Value} {F : List Nat} (h : Rles.Ress xs ys) (hr : RepXs Z w Sf φ xs.flatten vs F) : RepXs Z w Sf φ ys.flatten vs F ∧ xs.length = ys.length ∧ ∀ z, (∀ c ∈ xs, c.length = z) → ∀ c ∈ ys, c.length = z := by
  induction xs generalizing ys vs F with
  | nil =>
    cases ys with
    | nil => exact ⟨hr, rfl, fun z h => h⟩
    | cons => exact h.elim
  | cons x xs ih =>
    cases ys with
    | nil => exact h.elim
    | cons y ys =>
      rw [List.flatten_cons] at hr ⊢
      obtain ⟨F1, F2, rfl, p1, p2⟩ := hr.split
      obtain ⟨q1, q2, q3⟩ := ih h.2 p2
      have q4 := h.1.rep p1
      have hl : x.length = y.length := by rw [← p1.length, q4.length]
      refine ⟨?_, by simp [q2], fun z hz cc hcc => ?_⟩
      · have := q4.append q1
        rwa [List.take_append_drop] at this
      · rcases List.mem_cons.1 hcc with rfl | hcc
        · rw [← hl]; exact hz x (by simp)
        · exact q3 z (fun c hc => hz c (by simp [hc])) cc hcc

theorem RowRep.rles {Z : SzF} {Sf : Fl → Nat → Prop} {r s : Row} {hd : Hd} {F : List Nat} (h : RowRep Z w Sf φ r hd F) (hl : Rles r s) : RowRep Z w Sf φ s hd F := by
  obtain ⟨hE, hn, h⟩ := h
  obtain ⟨e, hx⟩ := hl
  have hlen : r.xs.length = s.xs.length := by
    clear h hn
    generalize r.xs = xs at hx
    generalize s.xs = ys at hx
    induction xs generalizing ys with
    | nil => cases ys with
      | nil => rfl
      | cons => exact hx.elim
    | cons x xs ih => cases ys with
      | nil => exact hx.elim
      | cons y ys => simp [ih ys hx.2]
  refine ⟨by rw [hE, e], by rw [hn, hlen], ?_⟩
  split at h
  · rename_i hl
    refine ⟨?_, h.2⟩
    rw [h.1] at hlen
    exact List.eq_nil_of_length_eq_zero hlen.symm
  · obtain ⟨cur, F', hb, h1, h2, h3, h4, h5, h6, rfl⟩ := h
    obtain ⟨q1, q2, q3⟩ := Ress.rep hx h6
    rw [e] at hb h3 h4 h6 q1
    rw [hlen] at h1 q1
    exact ⟨cur, F', hb, h1, h2, q3 _ h3, h4, h5, q1, rfl⟩
theorem RowRep.noV {Z : SzF} {Sf Sf' : Fl → Nat → Prop} {vw : Bool} (hv : vw = true → ∀ b, Sf .a b → Sf' .a b) {r : Row} {hd : Hd} {F : List Nat} (h : RowRep Z w Sf φ r hd F) (hn : noAss vw r.xs = true) : RowRep Z w Sf' φ r hd F := by
  obtain ⟨hE, hn', h⟩ := h
  refine ⟨hE, hn', ?_⟩
  split at h
  · exact h
  · obtain ⟨cur, F', hb, h1, h2, h3, h4, h5, h6, rfl⟩ := h
    exact ⟨cur, F', hb, h1, h2, h3, h4, h5, h6.noV hv (by rw [noAs_flatten]; exact hn), rfl⟩
theorem RowRep.closeφ {Z : SzF} {Sf : Fl → Nat → Prop} {r : Row} {hd : Hd} {F : List Nat} (h : RowRep Z w Sf (rφ r φ) r hd F) (hn : r.bx = true → noRefs r.xs.flatten = true) : RowRep Z w Sf noφ r hd F := by
  obtain ⟨hE, hn', h⟩ := h
  refine ⟨hE, hn', ?_⟩
  split at h
  · exact h
  · obtain ⟨cur, F', hb, h1, h2, h3, h4, h5, h6, rfl⟩ := h
    refine ⟨cur, F', hb, h1, h2, h3, h4, h5, ?_, rfl⟩
    unfold rφ at h6
    split at h6
    · rename_i hbx
      exact noRefs_φ h6 (hn hbx) fun v hv => h5 v (List.mem_of_mem_drop (List.mem_of_mem_take hv))
    · exact h6
end

theorem wp_monoR {P : Program} {x : Code} {Q R : Exit → Act → World → Prop} {a : Act} {w : World} (h : x.wp P Q a w) (hQ : ∀ e a w, Q e a w → R e a w) : x.wp P R a w :=
  fun b k cs => let ⟨e, a', w', q, r⟩ := h b k cs; ⟨e, a', w', hQ _ _ _ q, r⟩

def St.clean (st : St) (kp : Nat) : Bool := st.kp == kp

/-- A FUNCTION'S CONTRACT out of a walk through its body -/
theorem fn_of_go {P : Program} {T : TT} {vw : Bool} {f : FuncId} {fn : Func} {body : Code} {args : List AV} {rows : List Row} {res : AV} {rows' : List (Option Row)} (kp : Nat)
    (hf : P.funcs[f]? = some fn) (hn : (fn.name == "runtime.NumGoroutine") = false) (hb : fn.body = some body) (hkp : kp ≤ rows.length) (hrow : (rows'.drop kp).all Option.isNone = true)
    (h : Go P T (RetQ T fn.results.toList vw kp res rows') (.code body) [] (st0 args rows kp fn.ntmps)) : FnC P T vw f args rows res rows' := by
  refine ⟨⟨fn, hf, hn, by rw [hb]; rfl⟩, ?_⟩
  intro w vs S ψ fp hT hS ha hr hr0 hdj hnd hlt
  let c : Cx := ⟨P, T, w, (List.range rows.length).flatMap fp, S, ψ⟩
  have hF0 : ∀ b, b ∈ c.F0 ↔ ∃ i, b ∈ fp i := by
    intro b
    simp only [c, List.mem_flatMap, List.mem_range]
    constructor
    · rintro ⟨i, _, hb⟩; exact ⟨i, hb⟩
    · rintro ⟨i, hb⟩
      refine ⟨i, ?_, hb⟩
      rcases Nat.lt_or_ge i rows.length with hh | hh
      · exact hh
      · rw [(hr0 i hh).2] at hb; cases hb
  have hG : c.Good := by
    constructor
    · intro b hb
      refine ⟨(hS b hb).1, fun hh => ?_⟩
      obtain ⟨i, hi⟩ := (hF0 b).1 hh
      exact (hS b hb).2 i hi
    · intro b hb
      obtain ⟨i, hi⟩ := (hF0 b).1 hb
      exact hlt i b hi
  have hSf : ∀ fl b, Sa S fl b → c.Sf w ψ fl b ∧ w.heap[b]? = w.heap[b]? := by
    intro fl b hb
    refine ⟨?_, rfl⟩
    cases fl with
    | a => exact hb
    | o => exact hb.elim
    | n => exact hb.elim
  have hx : RelX c (st0 args rows kp fn.ntmps) { tmps := vs.toArray ++ Array.replicate (fn.ntmps - vs.toArray.size) undef, defers := [] } w ψ fp := by
    have hl : vs.length = args.length := by have := ha.length; simpa using this
    refine { dz := rfl, tm := ?_, rows := ?_, dead := ?_, fresh := ?_, kept := fun _ _ _ => rfl, kpn := hkp, disj := hdj, nod := hnd, rng := ?_, os := rfl, tape := rfl, out := rfl, grow := Nat.le_refl _, same := fun _ _ _ => rfl, obs := fun p hp => by simp [st0] at hp }
    · simp only [st0, Array.toList_append, Array.toList_replicate, List.size_toArray, hl]
      have h1 := ha.mono (fun _ _ h => h) hSf (by simp)
      have h2 : RepXs T.Z w (c.Sf w ψ) ψ (List.replicate (fn.ntmps - args.length) .ud) (List.replicate (fn.ntmps - args.length) undef) [] := by
        generalize fn.ntmps - args.length = n
        induction n with
        | zero => exact .nil
        | succ n ih => exact .cons0 .ud ih
      simpa using h1.append h2
    · intro id r hid
      simp only [st0, hget_num, Nat.zero_le, if_true, Nat.sub_zero] at hid
      obtain ⟨hd, q1, q2⟩ := hr id r hid
      exact ⟨hd, q1, q2.mono (fun _ _ h => by cases h) hSf (fun _ _ => rfl)⟩
    · intro id hid
      simp only [st0, hget_num, Nat.zero_le, if_true, Nat.sub_zero] at hid
      exact hr0 id (by simpa using hid)
    · intro id hid
      simp only [st0, hget_num, Nat.zero_le, if_true, Nat.sub_zero]
      simpa [st0] using hid
    · intro i b hb
      exact ⟨hlt i b hb, .inr ((hF0 b).2 ⟨i, hb⟩)⟩
  have hw := h c rfl rfl hT hG _ _ ⟨ψ, fp, hx⟩
  refine calls_of_wp hf hb (wp_monoR hw ?_)
  rintro e a w' ⟨st, ⟨he, hk, x, ks, hret, hdup, hle, hnA, hrows⟩, φ, fp', hx'⟩
  obtain ⟨v, F, p1, p2, p3, p4, p5⟩ := retA_rep hT hx' fn hret hdup
  have hSa : vw = true → ∀ b, c.Sf w' φ .a b → Sa (fun b => vw = true ∧ S b) .a b := fun hv b hb => ⟨hv, hb⟩
  have hrng : ∀ i b, b ∈ fp' i → b < w'.heap.size ∧ (w.heap.size ≤ b ∨ ∃ i, b ∈ fp i) := by
    intro i b hb
    refine ⟨(hx'.rng i b hb).1, ?_⟩
    rcases (hx'.rng i b hb).2 with q | q
    · exact .inl q
    · exact .inr ((hF0 b).1 q)
  have fin : RetP T vw S ψ fp res rows' w (.returned v) w' := by
    refine ⟨v, F, fun i => if i < kp then fp' i else [], rfl, hle _ _ _ _ _ _ (p2.noV hSa hnA), ?_, ?_, ?_, ?_, p3, ?_, ?_, ?_, ?_⟩
    · intro i s hs
      have hi : i < kp := by
        rcases Nat.lt_or_ge i kp with hh | hh
        · exact hh
        · have h1 : (rows'.drop kp)[i - kp]? = some (some s) := by rw [List.getElem?_drop, ← hs]; congr 1; omega
          have h2 := List.all_eq_true.1 hrow _ (List.mem_of_getElem? h1)
          cases h2
      obtain ⟨r, s', q1, q2, q3, q4, q5, q6⟩ := hrows i hi
      rw [hs] at q2
      cases q2
      obtain ⟨hd, k1, k2⟩ := hx'.rows i r q1
      rw [hx'.kept i (by rw [hk]; exact hi) (by rw [q1]; simp)] at k1
      refine ⟨hd, k1, ?_⟩
      show RowRep _ _ _ _ _ _ (if i < kp then fp' i else [])
      rw [if_pos hi]
      exact ((k2.closeφ q6).noV hSa q5).rles q4
    · intro i hne
      show (if i < kp then fp' i else []) = []
      split
      · rename_i hi
        obtain ⟨r, s', q1, q2, _⟩ := hrows i hi
        exact absurd q2 (hne s')
      · rfl
    · intro i j b hi hj
      change b ∈ (if i < kp then fp' i else []) at hi
      change b ∈ (if j < kp then fp' j else []) at hj
      split at hi
      · split at hj
        · exact hx'.disj i j b hi hj
        · cases hj
      · cases hi
    · intro i
      show (if i < kp then fp' i else []).Nodup
      split
      · exact hx'.nod i
      · exact .nil
    · intro i b hb hi
      change b ∈ (if i < kp then fp' i else []) at hi
      split at hi
      · rename_i hik
        obtain ⟨k, k1, k2⟩ := p4 b hb
        have := hx'.disj i k b hi k2
        have := p5 k k1
        omega
      · cases hi
    · intro b hb
      obtain ⟨k, k1, k2⟩ := p4 b hb
      exact hrng k b k2
    · intro i b hb
      change b ∈ (if i < kp then fp' i else []) at hb
      split at hb
      · exact hrng i b hb
      · cases hb
    · exact ⟨hx'.os, hx'.tape, hx'.out, hx'.grow, fun b h1 h2 => hx'.same b h1 fun hh => by obtain ⟨i, hi⟩ := (hF0 b).1 hh; exact h2 i hi⟩
  rcases he with rfl | rfl
  · exact ⟨hx'.dz, v, p1, fin⟩
  · exact ⟨hx'.dz, v, p1, fin⟩

end Go.Proofs.AM
