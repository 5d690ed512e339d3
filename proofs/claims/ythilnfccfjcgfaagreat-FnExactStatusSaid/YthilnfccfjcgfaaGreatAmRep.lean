/- A part of the proof: the walk of functions of the program, or the rules of the walk. -/
import Derived.Test.YthilnfccfjcgfaaGreatAmBase
set_option linter.unusedSimpArgs false
set_option linter.unusedVariables false
namespace Go.Proofs.AM
open Go

structure Hd where
  E : TypeId
  n : Nat
  loc : Option (Nat × Nat × Nat)

abbrev SzF := TypeId → Nat

mutual
/-- what is only read: every block that is looked at lies in S -/
inductive RepW (Z : SzF) (w : World) (S : Nat → Prop) : AV → Value → Prop where
  | sc {v : Value} (h : v.oneCell' = true) : RepW Z w S (.sc v) v
  | nl : RepW Z w S .nl (.slice none 0 0)
  | ud : RepW Z w S .ud undef
  | un {v : Value} : RepW Z w S .un v
  | uc {v : Value} (h : v.oneCell' = true) : RepW Z w S .uc v
  | agg {cs : List AV} {vs : List Value} (hs : RepWs Z w S cs vs) (h1 : ∀ v ∈ vs, v.oneCell' = true) : RepW Z w S (.agg cs) (.agg vs.toArray)
  | tup {cs : List AV} {vs : List Value} (hs : RepWs Z w S cs vs) : RepW Z w S (.tup cs) (.tuple vs.toArray)
  | ls0 {fl : Fl} {E : TypeId} {A : Option Addr} {cap : Nat} : RepW Z w S (.ls fl E []) (.slice A 0 cap)
  | ls {fl : Fl} {E E' : TypeId} {xs : List (List AV)} {g o cap : Nat} {cur : Array Value} {fz : Nat × Nat} (hS : S g) (hb : w.heap[g]? = some (.cells cur E' fz))
      (hc : xs.length ≤ cap) (hm : cap ≤ maxLen) (hz : ∀ c ∈ xs, c.length = Z E) (ho : o + xs.length * Z E ≤ cur.size) (h1 : ∀ v ∈ (cur.toList.drop o).take (xs.length * Z E), v.oneCell' = true)
      (hs : RepWs Z w S xs.flatten ((cur.toList.drop o).take (xs.length * Z E))) : RepW Z w S (.ls fl E xs) (.slice (some ⟨g, o, none⟩) xs.length cap)
  | vp {fl : Fl} {cs : List AV} {g o : Nat} {E' : TypeId} {cur : Array Value} {fz : Nat × Nat} (hS : S g) (hb : w.heap[g]? = some (.cells cur E' fz))
      (ho : o + cs.length ≤ cur.size) (h1 : ∀ v ∈ (cur.toList.drop o).take cs.length, v.oneCell' = true) (hs : RepWs Z w S cs ((cur.toList.drop o).take cs.length)) :
      RepW Z w S (.vp fl cs) (.pointer (some ⟨g, o, none⟩))
  | fn {f : FuncId} {cs : List AV} {vs : List Value} (hs : RepWs Z w S cs vs) : RepW Z w S (.fn f cs) (.func (.func f) #[] vs.toArray)
inductive RepWs (Z : SzF) (w : World) (S : Nat → Prop) : List AV → List Value → Prop where
  | nil : RepWs Z w S [] []
  | cons {x : AV} {v : Value} {xs : List AV} {vs : List Value} (h : RepW Z w S x v) (hs : RepWs Z w S xs vs) : RepWs Z w S (x :: xs) (v :: vs)
end

/-- a part of a row, as a slice's value -/
def RfVal (Z : SzF) (h : Hd) (off len : Nat) (v : Value) : Prop :=
  match h.loc with
  | none => off = 0 ∧ len = 0 ∧ ∃ A, v = .slice A 0 0
  | some (g, o, cap) => off + len ≤ h.n ∧ (((off = 0 ∨ off < cap) ∧ v = .slice (some ⟨g, o + off * Z h.E, none⟩) len (cap - off)) ∨
      (0 < off ∧ off = cap ∧ len = 0 ∧ ∃ A, v = .slice A 0 0))

def noφ : Nat → Option Hd := fun _ => none
mutual
inductive RepX (Z : SzF) (w : World) (Sf : Fl → Nat → Prop) : (Nat → Option Hd) → AV → Value → List Nat → Prop where
  | sc {φ : Nat → Option Hd} {v : Value} (h : v.oneCell' = true) : RepX Z w Sf φ (.sc v) v []
  | nl {φ : Nat → Option Hd} : RepX Z w Sf φ .nl (.slice none 0 0) []
  | ud {φ : Nat → Option Hd} : RepX Z w Sf φ .ud undef []
  | un {φ : Nat → Option Hd} {v : Value} : RepX Z w Sf φ .un v []
  | uc {φ : Nat → Option Hd} {v : Value} (h : v.oneCell' = true) : RepX Z w Sf φ .uc v []
  | agg {φ : Nat → Option Hd} {cs : List AV} {vs : List Value} {F : List Nat} (hs : RepXs Z w Sf φ cs vs F) (h1 : ∀ v ∈ vs, v.oneCell' = true) : RepX Z w Sf φ (.agg cs) (.agg vs.toArray) F
  | tup {φ : Nat → Option Hd} {cs : List AV} {vs : List Value} {F : List Nat} (hs : RepXs Z w Sf φ cs vs F) : RepX Z w Sf φ (.tup cs) (.tuple vs.toArray) F
  | own0 {φ : Nat → Option Hd} {E : TypeId} {A : Option Addr} : RepX Z w Sf φ (.ls .o E []) (.slice A 0 0) []
  | own {φ : Nat → Option Hd} {E : TypeId} {xs : List (List AV)} {g o cap : Nat} {cur : Array Value} {F : List Nat} (hb : w.heap[g]? = some (.cells cur E (0, 0)))
      (hc : xs.length ≤ cap) (hm : cap ≤ maxLen) (hz : ∀ c ∈ xs, c.length = Z E) (ho : o + cap * Z E ≤ cur.size) (h1 : ∀ v ∈ cur.toList, v.oneCell' = true)
      (hs : RepXs Z w Sf noφ xs.flatten ((cur.toList.drop o).take (xs.length * Z E)) F) : RepX Z w Sf φ (.ls .o E xs) (.slice (some ⟨g, o, none⟩) xs.length cap) (g :: F)
  | va {φ : Nat → Option Hd} {E : TypeId} {xs : List (List AV)} {v : Value} (h : RepW Z w (Sf .a) (.ls .a E xs) v) : RepX Z w Sf φ (.ls .a E xs) v []
  | vn {φ : Nat → Option Hd} {E : TypeId} {xs : List (List AV)} {v : Value} (h : RepW Z w (Sf .n) (.ls .n E xs) v) : RepX Z w Sf φ (.ls .n E xs) v []
  | vp {φ : Nat → Option Hd} {fl : Fl} {cs : List AV} {v : Value} (h : RepW Z w (Sf fl) (.vp fl cs) v) : RepX Z w Sf φ (.vp fl cs) v []
  | rf {φ : Nat → Option Hd} {id off len : Nat} {h : Hd} {v : Value} (hφ : φ id = some h) (hv : RfVal Z h off len v) : RepX Z w Sf φ (.rf id off len) v []
  | pt {φ : Nat → Option Hd} {id i j n : Nat} {E : TypeId} {g o cap : Nat} (hφ : φ id = some ⟨E, n, some (g, o, cap)⟩) : RepX Z w Sf φ (.pt id i j) (.pointer (some ⟨g, o + i * Z E + j, none⟩)) []
  | fn {φ : Nat → Option Hd} {f : FuncId} {cs : List AV} {vs : List Value} (hs : RepXs Z w Sf φ cs vs []) : RepX Z w Sf φ (.fn f cs) (.func (.func f) #[] vs.toArray) []
inductive RepXs (Z : SzF) (w : World) (Sf : Fl → Nat → Prop) : (Nat → Option Hd) → List AV → List Value → List Nat → Prop where
  | nil {φ : Nat → Option Hd} : RepXs Z w Sf φ [] [] []
  | cons {φ : Nat → Option Hd} {x : AV} {v : Value} {xs : List AV} {vs : List Value} {F G : List Nat} (h : RepX Z w Sf φ x v F) (hs : RepXs Z w Sf φ xs vs G) : RepXs Z w Sf φ (x :: xs) (v :: vs) (F ++ G)
end

theorem sub_win {α : Type} {l : List α} {o p n m : Nat} (h : p + m ≤ n) {v : α} (hv : v ∈ (l.drop (o + p)).take m) : v ∈ (l.drop o).take n := by
  have e : (l.drop (o + p)).take m = (((l.drop o).take n).drop p).take m := by
    rw [List.drop_take, List.take_take, List.drop_drop, Nat.min_eq_left (by omega)]
  rw [e] at hv
  exact List.mem_of_mem_drop (List.mem_of_mem_take hv)
theorem sub_win0 {α : Type} {l : List α} {o n m : Nat} (h : m ≤ n) {v : α} (hv : v ∈ (l.drop o).take m) : v ∈ (l.drop o).take n := sub_win (o := o) (p := 0) (n := n) (m := m) (by omega) (by simpa using hv)
theorem sub_all {α : Type} {l : List α} {o m : Nat} {v : α} (hv : v ∈ (l.drop o).take m) : v ∈ l := List.mem_of_mem_drop (List.mem_of_mem_take hv)
section
variable {Z : SzF} {w w' : World} {S S' : Nat → Prop}

theorem RepW.mono {x : AV} {v : Value} (h : RepW Z w S x v) (hS : ∀ b, S b → S' b ∧ w'.heap[b]? = w.heap[b]?) : RepW Z w' S' x v := by
  refine RepW.rec (motive_1 := fun x v _ => RepW Z w' S' x v) (motive_2 := fun xs vs _ => RepWs Z w' S' xs vs)
    ?_ ?_ ?_ ?_ ?_ ?_ ?_ ?_ ?_ ?_ ?_ ?_ ?_ h
  · intro v h; exact .sc h
  · exact .nl
  · exact .ud
  · exact .un
  · intro v h; exact .uc h
  · intro cs vs _ h1 ih; exact .agg ih h1
  · intro cs vs _ ih; exact .tup ih
  · exact .ls0
  · intro fl E E' xs g o cap cur fz hg hb hc hm hz ho h1 _ ih
    exact .ls (hS g hg).1 ((hS g hg).2.trans hb) hc hm hz ho h1 ih
  · intro fl cs g o E' cur fz hg hb ho h1 _ ih
    exact .vp (hS g hg).1 ((hS g hg).2.trans hb) ho h1 ih
  · intro f cs vs _ ih; exact .fn ih
  · exact .nil
  · intro x v xs vs _ _ h hs; exact .cons h hs

theorem RepWs.mono {xs : List AV} {vs : List Value} (h : RepWs Z w S xs vs) (hS : ∀ b, S b → S' b ∧ w'.heap[b]? = w.heap[b]?) : RepWs Z w' S' xs vs := by
  induction xs generalizing vs with
  | nil => cases h; exact .nil
  | cons x xs ih =>
    cases h with
    | cons h hs => exact .cons (h.mono hS) (ih hs)

variable {Sf Sf' : Fl → Nat → Prop} {φ φ' : Nat → Option Hd}

theorem RepX.mono {x : AV} {v : Value} {F : List Nat} (h : RepX Z w Sf φ x v F) (hφ : ∀ id h, φ id = some h → φ' id = some h)
    (hS : ∀ fl b, Sf fl b → Sf' fl b ∧ w'.heap[b]? = w.heap[b]?) (hF : ∀ b ∈ F, w'.heap[b]? = w.heap[b]?) : RepX Z w' Sf' φ' x v F := by
  refine RepX.rec (motive_1 := fun φ x v F _ => ∀ φ' : Nat → Option Hd, (∀ id h, φ id = some h → φ' id = some h) → (∀ b ∈ F, w'.heap[b]? = w.heap[b]?) → RepX Z w' Sf' φ' x v F)
    (motive_2 := fun φ xs vs F _ => ∀ φ' : Nat → Option Hd, (∀ id h, φ id = some h → φ' id = some h) → (∀ b ∈ F, w'.heap[b]? = w.heap[b]?) → RepXs Z w' Sf' φ' xs vs F)
    ?_ ?_ ?_ ?_ ?_ ?_ ?_ ?_ ?_ ?_ ?_ ?_ ?_ ?_ ?_ ?_ ?_ h φ' hφ hF
  · intro φ v h φ' _ _; exact .sc h
  · intro φ φ' _ _; exact .nl
  · intro φ φ' _ _; exact .ud
  · intro φ v φ' _ _; exact .un
  · intro φ v h φ' _ _; exact .uc h
  · intro φ cs vs F _ h1 ih φ' hp hF; exact .agg (ih φ' hp hF) h1
  · intro φ cs vs F _ ih φ' hp hF; exact .tup (ih φ' hp hF)
  · intro φ E A φ' _ _; exact .own0
  · intro φ E xs g o cap cur F hb hc hm hz ho h1 _ ih φ' hp hF
    exact .own ((hF g (by simp)).trans hb) hc hm hz ho h1 (ih noφ (fun _ _ h => h) fun b hb => hF b (by simp [hb]))
  · intro φ E xs v h φ' _ _; exact .va (h.mono (hS .a))
  · intro φ E xs v h φ' _ _; exact .vn (h.mono (hS .n))
  · intro φ fl cs v h φ' _ _; exact .vp (h.mono (hS fl))
  · intro φ id off len h v hp hv φ' hq _; exact .rf (hq _ _ hp) hv
  · intro φ id i j n E g o cap hp φ' hq _; exact .pt (hq _ _ hp)
  · intro φ f cs vs _ ih φ' hp _; exact .fn (ih φ' hp (by simp))
  · intro φ φ' _ _; exact .nil
  · intro φ x v xs vs F G _ _ h hs φ' hp hF
    exact .cons (h φ' hp fun b hb => hF b (by simp [hb])) (hs φ' hp fun b hb => hF b (by simp [hb]))

theorem RepXs.mono {xs : List AV} {vs : List Value} {F : List Nat} (h : RepXs Z w Sf φ xs vs F) (hφ : ∀ id h, φ id = some h → φ' id = some h)
    (hS : ∀ fl b, Sf fl b → Sf' fl b ∧ w'.heap[b]? = w.heap[b]?) (hF : ∀ b ∈ F, w'.heap[b]? = w.heap[b]?) : RepXs Z w' Sf' φ' xs vs F := by
  induction xs generalizing vs F with
  | nil => cases h; exact .nil
  | cons x xs ih =>
    cases h with
    | cons h hs =>
      exact .cons (h.mono hφ hS fun b hb => hF b (by simp [hb])) (ih hs fun b hb => hF b (by simp [hb]))

/-- what is closed may be only read -/
theorem RepX.view {x : AV} {v : Value} {F : List Nat} (h : RepX Z w Sf noφ x v F) (hS : ∀ fl b, Sf fl b → S b) (hF : ∀ b ∈ F, S b) : RepW Z w S x v := by
  refine RepX.rec (motive_1 := fun φ x v F _ => φ = noφ → (∀ b ∈ F, S b) → RepW Z w S x v)
    (motive_2 := fun φ xs vs F _ => φ = noφ → (∀ b ∈ F, S b) → RepWs Z w S xs vs)
    ?_ ?_ ?_ ?_ ?_ ?_ ?_ ?_ ?_ ?_ ?_ ?_ ?_ ?_ ?_ ?_ ?_ h rfl hF
  · intro φ v h _ _; exact .sc h
  · intro φ _ _; exact .nl
  · intro φ _ _; exact .ud
  · intro φ v _ _; exact .un
  · intro φ v h _ _; exact .uc h
  · intro φ cs vs F _ h1 ih e hF; exact .agg (ih e hF) h1
  · intro φ cs vs F _ ih e hF; exact .tup (ih e hF)
  · intro φ E A _ _; exact .ls0
  · intro φ E xs g o cap cur F hb hc hm hz ho h1 _ ih _ hF
    exact .ls (hF g (by simp)) hb hc hm hz (by have := Nat.mul_le_mul_right (Z E) hc; omega) (fun v hv => h1 v (List.mem_of_mem_drop (List.mem_of_mem_take hv))) (ih rfl fun b hb => hF b (by simp [hb]))
  · intro φ E xs v h _ _; exact h.mono fun b hb => ⟨hS .a b hb, rfl⟩
  · intro φ E xs v h _ _; exact h.mono fun b hb => ⟨hS .n b hb, rfl⟩
  · intro φ fl cs v h _ _; exact h.mono fun b hb => ⟨hS fl b hb, rfl⟩
  · intro φ id off len h v hp hv e _; subst e; cases hp
  · intro φ id i j n E g o cap hp e _; subst e; cases hp
  · intro φ f cs vs _ ih e _; exact .fn (ih e (by simp))
  · intro φ _ _; exact .nil
  · intro φ x v xs vs F G _ _ h hs e hF
    exact .cons (h e fun b hb => hF b (by simp [hb])) (hs e fun b hb => hF b (by simp [hb]))

theorem RepXs.view {xs : List AV} {vs : List Value} {F : List Nat} (h : RepXs Z w Sf noφ xs vs F) (hS : ∀ fl b, Sf fl b → S b) (hF : ∀ b ∈ F, S b) : RepWs Z w S xs vs := by
  induction xs generalizing vs F with
  | nil => cases h; exact .nil
  | cons x xs ih =>
    cases h with
    | cons h hs => exact .cons (h.view hS fun b hb => hF b (by simp [hb])) (ih hs fun b hb => hF b (by simp [hb]))

theorem RepXs.length {xs : List AV} {vs : List Value} {F : List Nat} (h : RepXs Z w Sf φ xs vs F) : vs.length = xs.length := by
  induction xs generalizing vs F with
  | nil => cases h; rfl
  | cons x xs ih => cases h with | cons h hs => simp [ih hs]
theorem RepWs.length {xs : List AV} {vs : List Value} (h : RepWs Z w S xs vs) : vs.length = xs.length := by
  induction xs generalizing vs with
  | nil => cases h; rfl
  | cons x xs ih => cases h with | cons h hs => simp [ih hs]

/-- without a footprint -/
theorem RepXs.cons0 {x : AV} {v : Value} {xs : List AV} {vs : List Value} (h : RepX Z w Sf φ x v []) (hs : RepXs Z w Sf φ xs vs []) : RepXs Z w Sf φ (x :: xs) (v :: vs) [] := by
  have := RepXs.cons h hs; simpa using this
theorem RepXs.uncons {x : AV} {v : Value} {xs : List AV} {vs : List Value} (h : RepXs Z w Sf φ (x :: xs) (v :: vs) []) : RepX Z w Sf φ x v [] ∧ RepXs Z w Sf φ xs vs [] := by
  generalize hF : ([] : List Nat) = F at h
  cases h with
  | cons h hs =>
    simp at hF
    obtain ⟨rfl, rfl⟩ := hF
    exact ⟨h, hs⟩
theorem RepXs.get {xs : List AV} {vs : List Value} (h : RepXs Z w Sf φ xs vs []) {i : Nat} {x : AV} (hi : xs[i]? = some x) : ∃ v, vs[i]? = some v ∧ RepX Z w Sf φ x v [] := by
  induction xs generalizing vs i with
  | nil => simp at hi
  | cons y xs ih =>
    cases vs with
    | nil => have := h.length; simp at this
    | cons v vs =>
      obtain ⟨h1, h2⟩ := h.uncons
      cases i with
      | zero => simp at hi; subst hi; exact ⟨v, rfl, h1⟩
      | succ i => simp at hi; simpa using ih h2 hi
theorem RepXs.set {xs : List AV} {vs : List Value} (h : RepXs Z w Sf φ xs vs []) (i : Nat) {x : AV} {v : Value} (hx : RepX Z w Sf φ x v []) : RepXs Z w Sf φ (xs.set i x) (vs.set i v) [] := by
  induction xs generalizing vs i with
  | nil => cases h; exact .nil
  | cons y xs ih =>
    cases vs with
    | nil => have := h.length; simp at this
    | cons u vs =>
      obtain ⟨h1, h2⟩ := h.uncons
      cases i with
      | zero => exact .cons0 hx h2
      | succ i => exact .cons0 h1 (ih h2 i)
theorem RepWs.get {xs : List AV} {vs : List Value} (h : RepWs Z w S xs vs) {i : Nat} {x : AV} (hi : xs[i]? = some x) : ∃ v, vs[i]? = some v ∧ RepW Z w S x v := by
  induction xs generalizing vs i with
  | nil => simp at hi
  | cons y xs ih =>
    cases h with
    | cons h1 h2 =>
      cases i with
      | zero => simp at hi; subst hi; exact ⟨_, rfl, h1⟩
      | succ i => simp at hi; simpa using ih h2 hi
theorem RepWs.drop {xs : List AV} {vs : List Value} (h : RepWs Z w S xs vs) (n : Nat) : RepWs Z w S (xs.drop n) (vs.drop n) := by
  induction n generalizing xs vs with
  | zero => exact h
  | succ n ih =>
    cases h with
    | nil => simpa using RepWs.nil
    | cons h1 h2 => simpa using ih h2
theorem RepWs.take {xs : List AV} {vs : List Value} (h : RepWs Z w S xs vs) (n : Nat) : RepWs Z w S (xs.take n) (vs.take n) := by
  induction n generalizing xs vs with
  | zero => simpa using RepWs.nil
  | succ n ih =>
    cases h with
    | nil => simpa using RepWs.nil
    | cons h1 h2 => simpa using RepWs.cons h1 (ih h2)
theorem RepWs.append {xs ys : List AV} {vs us : List Value} (h : RepWs Z w S xs vs) (k : RepWs Z w S ys us) : RepWs Z w S (xs ++ ys) (vs ++ us) := by
  induction xs generalizing vs with
  | nil => cases h; exact k
  | cons x xs ih => cases h with | cons h1 h2 => exact .cons h1 (ih h2)
theorem RepXs.append {xs ys : List AV} {vs us : List Value} {F G : List Nat} (h : RepXs Z w Sf φ xs vs F) (k : RepXs Z w Sf φ ys us G) : RepXs Z w Sf φ (xs ++ ys) (vs ++ us) (F ++ G) := by
  induction xs generalizing vs F with
  | nil => cases h; exact k
  | cons x xs ih => cases h with | cons h1 h2 => simpa using RepXs.cons h1 (ih h2)
theorem RepXs.split {xs ys : List AV} {us : List Value} {F : List Nat} (h : RepXs Z w Sf φ (xs ++ ys) us F) :
    ∃ F1 F2, F = F1 ++ F2 ∧ RepXs Z w Sf φ xs (us.take xs.length) F1 ∧ RepXs Z w Sf φ ys (us.drop xs.length) F2 := by
  induction xs generalizing us F with
  | nil => exact ⟨[], F, rfl, by simpa using RepXs.nil, by simpa using h⟩
  | cons x xs ih =>
    cases h with
    | cons h1 h2 =>
      obtain ⟨F1, F2, rfl, k1, k2⟩ := ih h2
      exact ⟨_, F2, by rw [List.append_assoc], by simpa using RepXs.cons h1 k1, by simpa using k2⟩
end
end Go.Proofs.AM
