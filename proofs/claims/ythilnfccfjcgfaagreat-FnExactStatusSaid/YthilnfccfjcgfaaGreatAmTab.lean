/- A part of the proof: the walk of functions of the program, or the rules of the walk. -/
import Derived.Test.YthilnfccfjcgfaaGreatAmDraw2
set_option linter.unusedSimpArgs false
set_option linter.unusedVariables false
namespace Go.Proofs.AM
open Go

/-! ### the table of types, checked by reckoning -/
def zCk : AV → Value → Bool
  | .sc (.int k n), .int k' m => decide (k = k') && decide (n = m)
  | .sc (.bool a), .bool b => a == b
  | .sc (.string a), .string b => decide (a.data = b.data)
  | .sc (.pointer none), .pointer none => true
  | .nl, .slice none 0 0 => true
  | _, _ => false
def zsCk : List AV → List Value → Bool
  | [], [] => true
  | x :: l, v :: m => zCk x v && zsCk l m
  | _, _ => false
def fCk (P : Program) : List (Nat × Nat) → List Field → Bool
  | [], [] => true
  | (o, n) :: l, f :: m => o == f.offset && (match P.info? f.type with
    | some i => i.size == n && decide (0 < n)
    | none => false) && fCk P l m
  | _, _ => false
def dCk (P : Program) (t : TypeId) : TyD → Bool
  | .int k => (match P.underlying t with | some (.int k') => decide (k' = k) | _ => false)
  | .bool => (match P.underlying t with | some .bool => true | _ => false)
  | .str => (match P.underlying t with | some .string => true | _ => false)
  | .slice E => (match P.underlying t with | some (.slice E') => E' == E | _ => false)
  | .ptr E => (match P.underlying t with | some (.pointer E') => E' == E | _ => false)
  | .struct fs => (match P.underlying t with | some (.struct fields) => fCk P fs fields.toList | _ => false)
  | .other => true
def tCk (P : Program) (t : TypeId) (i : TI) : Bool :=
  (match P.info? t with
  | some inf => (match inf.zero with
    | some z => inf.size == i.size && inf.bytes == i.bytes && zsCk i.zero z.cells.toList && i.zero.length == i.size && decide (0 < i.size)
    | none => false)
  | none => false) && dCk P t i.d
def ttCk (P : Program) : TT → Bool
  | [] => true
  | (t, i) :: r => tCk P t i && ttCk P r

theorem zCk_ok {x : AV} {v : Value} (h : zCk x v = true) : v.oneCell' = true ∧ ∀ (Z : SzF) (w : World) (Sf : Fl → Nat → Prop) (φ : Nat → Option Hd), RepX Z w Sf φ x v [] := by
  unfold zCk at h
  split at h
  · simp only [Bool.and_eq_true, decide_eq_true_eq] at h
    obtain ⟨rfl, rfl⟩ := h
    exact ⟨rfl, fun _ _ _ _ => .sc rfl⟩
  · simp only [beq_iff_eq] at h; subst h; exact ⟨rfl, fun _ _ _ _ => .sc rfl⟩
  · rename_i a b
    simp only [decide_eq_true_eq] at h
    have : a = b := by cases a; cases b; simp at h; rw [h]
    subst this
    exact ⟨rfl, fun _ _ _ _ => .sc rfl⟩
  · exact ⟨rfl, fun _ _ _ _ => .sc rfl⟩
  · exact ⟨rfl, fun _ _ _ _ => .nl⟩
  · cases h
theorem zsCk_ok {xs : List AV} {vs : List Value} (h : zsCk xs vs = true) : ZOk xs vs := by
  induction xs generalizing vs with
  | nil =>
    cases vs with
    | nil => exact ⟨fun _ _ _ _ => .nil, by simp⟩
    | cons => cases h
  | cons x xs ih =>
    cases vs with
    | nil => cases h
    | cons v vs =>
      simp only [zsCk, Bool.and_eq_true] at h
      obtain ⟨h1, h2⟩ := zCk_ok h.1
      obtain ⟨k1, k2⟩ := ih h.2
      refine ⟨fun Z w Sf φ => .cons0 (h2 Z w Sf φ) (k1 Z w Sf φ), fun u hu => ?_⟩
      rcases List.mem_cons.1 hu with rfl | hu
      · exact h1
      · exact k2 u hu
theorem fCk_ok {P : Program} {fs : List (Nat × Nat)} {l : List Field} (h : fCk P fs l = true) : l.length = fs.length ∧ ∀ (j : Nat) (f : Field), l[j]? = some f → ∃ (n : Nat) (i : TypeInfo), fs[j]? = some (f.offset, n) ∧ P.info? f.type = some i ∧ i.size = n ∧ 0 < n := by
  induction fs generalizing l with
  | nil => cases l with
    | nil => exact ⟨rfl, by simp⟩
    | cons => cases h
  | cons p fs ih =>
    obtain ⟨o, n⟩ := p
    cases l with
    | nil => cases h
    | cons f l =>
      simp only [fCk, Bool.and_eq_true, beq_iff_eq] at h
      obtain ⟨⟨rfl, h2⟩, h3⟩ := h
      obtain ⟨k1, k2⟩ := ih h3
      refine ⟨by simp [k1], fun j g hj => ?_⟩
      cases j with
      | zero =>
        simp only [List.getElem?_cons_zero, Option.some.injEq] at hj
        subst hj
        split at h2
        · rename_i i hi
          simp only [Bool.and_eq_true, beq_iff_eq, decide_eq_true_eq] at h2
          exact ⟨n, i, rfl, hi, h2.1, h2.2⟩
        · cases h2
      | succ j => simpa using k2 j g (by simpa using hj)
theorem dCk_ok {P : Program} {t : TypeId} {d : TyD} (h : dCk P t d = true) : dOk P t d := by
  cases d <;> simp only [dCk] at h
  case int k =>
    split at h
    · rename_i k' hu; simp only [decide_eq_true_eq] at h; subst h; exact hu
    · cases h
  case bool =>
    split at h
    · rename_i hu; exact hu
    · cases h
  case str =>
    split at h
    · rename_i hu; exact hu
    · cases h
  case slice E =>
    split at h
    · rename_i k' hu; simp only [beq_iff_eq] at h; subst h; exact hu
    · cases h
  case ptr E =>
    split at h
    · rename_i k' hu; simp only [beq_iff_eq] at h; subst h; exact hu
    · cases h
  case struct fs =>
    split at h
    · rename_i fields hu
      obtain ⟨k1, k2⟩ := fCk_ok h
      exact ⟨fields, hu, by simpa using k1, fun j f hj => k2 j f (by simpa using hj)⟩
    · cases h
  case other => trivial
theorem tCk_ok {P : Program} {t : TypeId} {i : TI} (h : tCk P t i = true) : TIOk P t i := by
  simp only [tCk, Bool.and_eq_true] at h
  obtain ⟨h1, h2⟩ := h
  split at h1
  · rename_i inf hi
    split at h1
    · rename_i z hz
      simp only [Bool.and_eq_true, beq_iff_eq, decide_eq_true_eq] at h1
      exact ⟨⟨inf, z, hi, hz, h1.1.1.1.1, h1.1.1.1.2, zsCk_ok h1.1.1.2, h1.1.2⟩, h1.2, dCk_ok h2⟩
    · cases h1
  · cases h1
theorem ttCk_ok {P : Program} {T : TT} (h : ttCk P T = true) : TOk P T := by
  induction T with
  | nil => intro t i h; cases h
  | cons p T ih =>
    obtain ⟨k, j⟩ := p
    simp only [ttCk, Bool.and_eq_true] at h
    intro t i hi
    unfold TT.get at hi
    split at hi
    · rename_i e; subst e; cases hi; exact tCk_ok h.1
    · exact ih h.2 t i hi

end Go.Proofs.AM
