/- A part of the proof: the walk of functions of the program, or the rules of the walk. -/
import Derived.Test.YthilnfccfjcgfaaGreatAmRep
import Derived.Deep.MidRow
import Derived.Laws.CopyRow
import Derived.Laws.AppendOwn
set_option linter.unusedSimpArgs false
set_option linter.unusedVariables false
namespace Go.Proofs.AM
open Go

def TT.Z (T : TT) : SzF := fun t => match T.get t with
  | some i => i.size
  | none => 0
def Hd.blk (h : Hd) : Option Nat := h.loc.map (·.1)

structure Cx where
  P : Program
  T : TT
  w0 : World
  F0 : List Nat
  S : Nat → Prop
  ψ : Nat → Option Hd

def Cx.N (c : Cx) (w : World) (φ : Nat → Option Hd) (b : Nat) : Prop :=
  b < w.heap.size ∧ (c.w0.heap.size ≤ b ∨ b ∈ c.F0) ∧ ∀ id h, φ id = some h → h.blk ≠ some b
def Cx.Sf (c : Cx) (w : World) (φ : Nat → Option Hd) : Fl → Nat → Prop
  | .o => fun _ => False
  | .a => c.S
  | .n => fun b => c.N w φ b ∨ c.S b

def rφ (r : Row) (φ : Nat → Option Hd) : Nat → Option Hd := if r.bx then φ else noφ

/-- a row in the block that its head names -/
def RowRep (Z : SzF) (w : World) (Sf : Fl → Nat → Prop) (φ : Nat → Option Hd) (r : Row) (h : Hd) (F : List Nat) : Prop :=
  h.E = r.E ∧ h.n = r.xs.length ∧ match h.loc with
    | none => r.xs = [] ∧ F = []
    | some (g, o, cap) => ∃ cur F', w.heap[g]? = some (.cells cur r.E (0, 0)) ∧ r.xs.length ≤ cap ∧ cap ≤ maxLen ∧ (∀ c ∈ r.xs, c.length = Z r.E) ∧
        o + cap * Z r.E ≤ cur.size ∧ (∀ v ∈ cur.toList, v.oneCell' = true) ∧ RepXs Z w Sf φ r.xs.flatten ((cur.toList.drop o).take (r.xs.length * Z r.E)) F' ∧ F = g :: F'

structure RelX (c : Cx) (st : St) (a : Act) (w : World) (φ : Nat → Option Hd) (fp : Nat → List Nat) : Prop where
  dz : a.defers = []
  tm : RepXs c.T.Z w (c.Sf w φ) φ st.tm a.tmps.toList []
  rows : ∀ id r, hget st.hp id = some r → ∃ h, φ id = some h ∧ RowRep c.T.Z w (c.Sf w φ) (rφ r φ) r h (fp id)
  dead : ∀ id, hget st.hp id = none → φ id = none ∧ fp id = []
  fresh : ∀ id, st.nx ≤ id → hget st.hp id = none
  kept : ∀ id, id < st.kp → hget st.hp id ≠ none → φ id = c.ψ id
  kpn : st.kp ≤ st.nx
  disj : ∀ i j b, b ∈ fp i → b ∈ fp j → i = j
  nod : ∀ i, (fp i).Nodup
  rng : ∀ i b, b ∈ fp i → b < w.heap.size ∧ (c.w0.heap.size ≤ b ∨ b ∈ c.F0)
  os : w.os = c.w0.os
  tape : w.tape = c.w0.tape
  out : w.output = c.w0.output
  grow : c.w0.heap.size ≤ w.heap.size
  same : ∀ b, b < c.w0.heap.size → b ∉ c.F0 → w.heap[b]? = c.w0.heap[b]?
  obs : ∀ p ∈ st.ob, w.heap[p.1]? = some p.2 ∧ (∀ id, p.1 ∉ fp id) ∧ c.w0.heap.size ≤ p.1

def Cx.Good (c : Cx) : Prop := (∀ b, c.S b → b < c.w0.heap.size ∧ b ∉ c.F0) ∧ ∀ b ∈ c.F0, b < c.w0.heap.size

def Rel (c : Cx) (st : St) (a : Act) (w : World) : Prop := ∃ φ fp, RelX c st a w φ fp

section
variable {c : Cx} {st : St} {a : Act} {w w' : World} {φ φ' : Nat → Option Hd} {fp : Nat → List Nat}

theorem repX_cst1 {Z : SzF} {Sf : Fl → Nat → Prop} (v : Value) : RepX Z w Sf φ (cst1 v) v [] := by
  unfold cst1
  split
  · exact .nl
  · exact .un
  · exact .un
  · rename_i h1 h2 h3
    refine .sc ?_
    cases v <;> first | rfl | exact absurd rfl (h2 _) | exact absurd rfl (h3 _)
theorem repXs_cst1 {Z : SzF} {Sf : Fl → Nat → Prop} (l : List Value) : RepXs Z w Sf φ (l.map cst1) l [] := by
  induction l with
  | nil => exact .nil
  | cons v l ih => exact .cons0 (repX_cst1 v) ih
theorem repX_cstV {Z : SzF} {Sf : Fl → Nat → Prop} (v : Value) : RepX Z w Sf φ (cstV v) v [] := by
  unfold cstV
  split
  · rename_i cs
    split
    · rename_i h
      have := RepX.agg (Z := Z) (w := w) (Sf := Sf) (φ := φ) (repXs_cst1 cs.toList) (fun v hv => List.all_eq_true.1 h v hv)
      simpa using this
    · exact .un
  · exact repX_cst1 v

theorem RelX.put (h : RelX c st a w φ fp) (d : Option Tmp) {x : AV} {v : Value} (hx : RepX c.T.Z w (c.Sf w φ) φ x v []) : RelX c (st.put d x) (a.put d v) w φ fp := by
  cases d with
  | none => exact h
  | some d =>
    refine { h with tm := ?_ }
    show RepXs c.T.Z w (c.Sf w φ) φ (st.tm.set d x) (a.tmps.setIfInBounds d v).toList []
    rw [Array.toList_setIfInBounds]
    exact h.tm.set d hx

/-- the value of an operand -/
theorem RelX.ev (h : RelX c st a w φ fp) (x : Operand) : RepX c.T.Z w (c.Sf w φ) φ (evo st x) (a.eval x) [] := by
  cases x with
  | tmp t =>
    show RepX c.T.Z w (c.Sf w φ) φ (tmGet st.tm t) (a.tmps.getD t undef) []
    unfold tmGet
    rcases Nat.lt_or_ge t st.tm.length with hl | hl
    · obtain ⟨v, hv, hx⟩ := h.tm.get (i := t) (x := st.tm[t]) (by simp [hl])
      have e1 : st.tm.getD t .un = st.tm[t] := by simp [List.getD_eq_getElem?_getD, hl]
      have e2 : a.tmps.getD t undef = v := by
        rw [Array.getElem?_toList] at hv
        simp [Array.getD_eq_getD_getElem?, hv]
      rw [e1, e2]; exact hx
    · have e1 : st.tm.getD t .un = .un := by simp [List.getD_eq_getElem?_getD, hl]
      rw [e1]; exact .un
  | const v =>
    exact repX_cstV v
  | global g => exact .un
  | func f => exact .fn (cs := []) (vs := []) .nil


theorem RowRep.mono {Z : SzF} {Sf Sf' : Fl → Nat → Prop} {ψ ψ' : Nat → Option Hd} {r : Row} {hd : Hd} {F : List Nat} (h : RowRep Z w Sf ψ r hd F) (hφ : ∀ id h, ψ id = some h → ψ' id = some h)
    (hS : ∀ fl b, Sf fl b → Sf' fl b ∧ w'.heap[b]? = w.heap[b]?) (hF : ∀ b ∈ F, w'.heap[b]? = w.heap[b]?) : RowRep Z w' Sf' ψ' r hd F := by
  obtain ⟨hE, hn, h⟩ := h
  refine ⟨hE, hn, ?_⟩
  split at h
  · exact h
  · obtain ⟨cur, F', hb, h1, h2, h3, h4, h5, h6, rfl⟩ := h
    exact ⟨cur, F', (hF _ (by simp)).trans hb, h1, h2, h3, h4, h5, h6.mono hφ hS (fun b hb => hF b (by simp [hb])), rfl⟩

theorem RowRep.blk {Z : SzF} {Sf : Fl → Nat → Prop} {ψ : Nat → Option Hd} {r : Row} {hd : Hd} {F : List Nat} (h : RowRep Z w Sf ψ r hd F) {g : Nat} (hg : hd.blk = some g) : g ∈ F := by
  obtain ⟨hE, hn, h⟩ := h
  obtain ⟨E, n, loc⟩ := hd
  cases loc with
  | none => simp [Hd.blk] at hg
  | some p =>
    obtain ⟨g', o, cap⟩ := p
    simp [Hd.blk] at hg
    subst hg
    obtain ⟨cur, F', hb, h1, h2, h3, h4, h5, h6, rfl⟩ := h
    simp

theorem RelX.row (h : RelX c st a w φ fp) {id : Nat} {hd : Hd} (hφ : φ id = some hd) : ∃ r, hget st.hp id = some r ∧ RowRep c.T.Z w (c.Sf w φ) (rφ r φ) r hd (fp id) := by
  cases hr : hget st.hp id with
  | none => rw [(h.dead id hr).1] at hφ; cases hφ
  | some r =>
    obtain ⟨h', h1, h2⟩ := h.rows id r hr
    rw [h1] at hφ; cases hφ
    exact ⟨r, rfl, h2⟩

/-- a row's block is its own -/
theorem RelX.blkfp (h : RelX c st a w φ fp) {id : Nat} {hd : Hd} (hφ : φ id = some hd) {g : Nat} (hg : hd.blk = some g) : g ∈ fp id := by
  obtain ⟨r, _, h2⟩ := h.row hφ
  exact h2.blk hg

/-- where the views look no row's block lies -/
theorem RelX.sfree (hG : c.Good) (h : RelX c st a w φ fp) {fl : Fl} {b : Nat} (hb : c.Sf w φ fl b) : ∀ id hd, φ id = some hd → hd.blk ≠ some b := by
  intro id hd hφ hg
  have hm := h.blkfp hφ hg
  have hs : c.S b → False := fun hs => by
    have h1 := hG.1 b hs
    rcases (h.rng id b hm).2 with h2 | h2
    · omega
    · exact h1.2 h2
  cases fl with
  | o => exact hb
  | a => exact hs hb
  | n =>
    rcases hb with hb | hb
    · exact hb.2.2 id hd hφ hg
    · exact hs hb

theorem RelX.slt (hG : c.Good) (h : RelX c st a w φ fp) {fl : Fl} {b : Nat} (hb : c.Sf w φ fl b) : b < w.heap.size := by
  cases fl with
  | o => exact hb.elim
  | a => exact Nat.lt_of_lt_of_le (hG.1 b hb).1 h.grow
  | n =>
    rcases hb with hb | hb
    · exact hb.1
    · exact Nat.lt_of_lt_of_le (hG.1 b hb).1 h.grow

/-- the same views, where the row's blocks are but the old ones and new ones -/
theorem Cx.Sf_mono (hs : w.heap.size ≤ w'.heap.size) (hφ : ∀ id hd b, φ' id = some hd → hd.blk = some b → (∃ id hd, φ id = some hd ∧ hd.blk = some b) ∨ w.heap.size ≤ b) {fl : Fl} {b : Nat}
    (hb : c.Sf w φ fl b) : c.Sf w' φ' fl b := by
  cases fl with
  | o => exact hb
  | a => exact hb
  | n =>
    rcases hb with ⟨h1, h2, h3⟩ | hb
    · refine .inl ⟨Nat.lt_of_lt_of_le h1 hs, h2, fun id hd hp hg => ?_⟩
      rcases hφ id hd b hp hg with ⟨id', hd', q1, q2⟩ | h4
      · exact h3 id' hd' q1 q2
      · omega
    · exact .inr hb

theorem RelX.drew (h : RelX c st a w φ fp) : RelX c st a w.drew φ fp :=
  { h with
    tm := h.tm.mono (fun _ _ h => h) (fun fl b hb => ⟨hb, rfl⟩) (fun _ _ => rfl)
    rows := fun id r hr => by
      obtain ⟨hd, h1, h2⟩ := h.rows id r hr
      exact ⟨hd, h1, h2.mono (fun _ _ h => h) (fun fl b hb => ⟨hb, rfl⟩) (fun _ _ => rfl)⟩
    same := fun b h1 h2 => h.same b h1 h2
    obs := h.obs }

theorem hget_cons {k : Nat} {r : Row} {hp : List (Nat × Row)} {i : Nat} : hget ((k, r) :: hp) i = if i = k then some r else hget hp i := rfl
theorem hget_hset {hp : List (Nat × Row)} {i k : Nat} {s : Row} : hget (hset hp k s) i = if i = k then (hget hp k).map (fun _ => s) else hget hp i := by
  induction hp with
  | nil => simp [hset, hget]
  | cons p hp ih =>
    obtain ⟨q, r⟩ := p
    unfold hset
    by_cases h1 : k = q
    · rw [if_pos h1]; subst h1
      rw [hget_cons, hget_cons, hget_cons]
      by_cases h2 : i = k
      · simp [h2]
      · simp [h2]
    · rw [if_neg h1, hget_cons, hget_cons, hget_cons, ih]
      by_cases h2 : i = k
      · subst h2; simp [h1]
      · simp [h2]

def upd {α : Type} (f : Nat → α) (i : Nat) (x : α) : Nat → α := fun j => if j = i then x else f j


theorem RfVal.one {Z : SzF} {h : Hd} {off len : Nat} {v : Value} (hv : RfVal Z h off len v) : v.oneCell' = true := by
  unfold RfVal at hv
  split at hv
  · obtain ⟨_, _, A, e⟩ := hv; rw [e]; rfl
  · rcases hv.2 with ⟨_, e⟩ | ⟨_, _, _, A, e⟩ <;> rw [e] <;> rfl
theorem repX_swF {Z : SzF} {Sf : Fl → Nat → Prop} {k : Nat → Bool} {f : FuncId} {cs : List AV} {vs : List Value} (h : RepXs Z w Sf φ cs vs []) : RepX Z w Sf φ' (sw1 k (.fn f cs)) (.func (.func f) #[] vs.toArray) [] := by
  cases cs with
  | nil => cases h; exact .fn .nil
  | cons => exact .uc rfl
theorem repX_sw1 {Z : SzF} {Sf : Fl → Nat → Prop} {k : Nat → Bool} (hk : ∀ id h, φ id = some h → k id = false → φ' id = some h) {x : AV} {v : Value} {F : List Nat} (h : RepX Z w Sf φ x v F) (h1 : v.oneCell' = true) :
    RepX Z w Sf φ' (sw1 k x) v F := by
  cases h with
  | sc h => exact .sc h
  | nl => exact .nl
  | ud => exact .ud
  | un => exact .un
  | uc h => exact .uc h
  | agg => simp [Value.oneCell'] at h1
  | tup => simp [Value.oneCell'] at h1
  | own0 => exact .own0
  | own a1 a2 a3 a4 a5 a6 a7 => exact .own a1 a2 a3 a4 a5 a6 a7
  | va h => exact .va h
  | vn h => exact .vn h
  | vp h => exact .vp h
  | rf p1 h2 =>
    simp only [sw1]
    split
    · exact .uc h2.one
    · rename_i hh; exact .rf (hk _ _ p1 (by simpa using hh)) h2
  | pt p1 =>
    simp only [sw1]
    split
    · exact .uc rfl
    · rename_i hh; exact .pt (hk _ _ p1 (by simpa using hh))
  | fn h => exact repX_swF h

theorem repXs_sws {Z : SzF} {Sf : Fl → Nat → Prop} {k : Nat → Bool} (hk : ∀ id h, φ id = some h → k id = false → φ' id = some h) {xs : List AV} {vs : List Value} {F : List Nat} (h : RepXs Z w Sf φ xs vs F)
    (h1 : ∀ v ∈ vs, v.oneCell' = true) : RepXs Z w Sf φ' (sws k xs) vs F := by
  induction xs generalizing vs F with
  | nil => cases h; exact .nil
  | cons x xs ih =>
    cases h with
    | cons h hs => exact .cons (repX_sw1 hk h (h1 _ (by simp))) (ih hs fun v hv => h1 v (by simp [hv]))

theorem repX_sw3 {Z : SzF} {Sf : Fl → Nat → Prop} {k : Nat → Bool} (hk : ∀ id h, φ id = some h → k id = false → φ' id = some h) {x : AV} {v : Value} (h : RepX Z w Sf φ x v []) :
    RepX Z w Sf φ' (sw3 k x) v [] := by
  generalize hF : ([] : List Nat) = F at h
  cases h with
  | sc h => exact .sc h
  | nl => exact .nl
  | ud => exact .ud
  | un => exact .un
  | uc h => exact .uc h
  | agg hs h1 => subst hF; exact .agg (repXs_sws hk hs h1) h1
  | tup hs => subst hF; exact .un
  | own0 => exact .own0
  | own => cases hF
  | va h => exact .va h
  | vn h => exact .vn h
  | vp h => exact .vp h
  | rf h1 h2 => exact repX_sw1 hk (.rf h1 h2) h2.one
  | pt h1 => exact repX_sw1 hk (.pt h1) rfl
  | fn h => exact repX_swF h
theorem repXs_sw3 {Z : SzF} {Sf : Fl → Nat → Prop} {k : Nat → Bool} (hk : ∀ id h, φ id = some h → k id = false → φ' id = some h) {xs : List AV} {vs : List Value} (h : RepXs Z w Sf φ xs vs []) : RepXs Z w Sf φ' (sw3s k xs) vs [] := by
  induction xs generalizing vs with
  | nil => cases h; exact .nil
  | cons x xs ih =>
    cases vs with
    | nil => have := h.length; simp at this
    | cons v vs => obtain ⟨h1, h2⟩ := h.uncons; exact .cons0 (repX_sw3 hk h1) (ih h2)
theorem repX_sw2 {Z : SzF} {Sf : Fl → Nat → Prop} {k : Nat → Bool} (hk : ∀ id h, φ id = some h → k id = false → φ' id = some h) {x : AV} {v : Value} (h : RepX Z w Sf φ x v []) :
    RepX Z w Sf φ' (sw2 k x) v [] := by
  generalize hF : ([] : List Nat) = F at h
  cases h with
  | sc h => exact .sc h
  | nl => exact .nl
  | ud => exact .ud
  | un => exact .un
  | uc h => exact .uc h
  | agg hs h1 => subst hF; exact .agg (repXs_sws hk hs h1) h1
  | tup hs => subst hF; exact .tup (repXs_sw3 hk hs)
  | own0 => exact .own0
  | own => cases hF
  | va h => exact .va h
  | vn h => exact .vn h
  | vp h => exact .vp h
  | rf h1 h2 => exact repX_sw1 hk (.rf h1 h2) h2.one
  | pt h1 => exact repX_sw1 hk (.pt h1) rfl
  | fn h => exact repX_swF h

theorem repXs_sw2 {Z : SzF} {Sf : Fl → Nat → Prop} {k : Nat → Bool} (hk : ∀ id h, φ id = some h → k id = false → φ' id = some h) {xs : List AV} {vs : List Value} (h : RepXs Z w Sf φ xs vs []) : RepXs Z w Sf φ' (sw2s k xs) vs [] := by
  induction xs generalizing vs with
  | nil => cases h; exact .nil
  | cons x xs ih =>
    cases vs with
    | nil => have := h.length; simp at this
    | cons v vs => obtain ⟨h1, h2⟩ := h.uncons; exact .cons0 (repX_sw2 hk h1) (ih h2)

/-- The world stands but for one row, which is laid anew or turned; rows in 'k' are gone. -/
theorem RelX.turn (hG : c.Good) (h : RelX c st a w φ fp) (k : Nat → Bool) (id0 : Nat) (r' : Row) (hd' : Hd) (F' : List Nat) {st' : St} {φ' : Nat → Option Hd} {fp' : Nat → List Nat}
    (hsz : w.heap.size ≤ w'.heap.size) (hos : w'.os = w.os) (htp : w'.tape = w.tape) (hout : w'.output = w.output)
    (hoth : ∀ b, b < w.heap.size → (∀ hd, φ id0 = some hd → hd.blk ≠ some b) → w'.heap[b]? = w.heap[b]?)
    (hblk : ∀ b, hd'.blk = some b → (∃ id hd, φ id = some hd ∧ hd.blk = some b) ∨ w.heap.size ≤ b)
    (htm : RepXs c.T.Z w (c.Sf w φ) φ' st'.tm a.tmps.toList [])
    (p0 : hget st'.hp id0 = some r' ∧ φ' id0 = some hd' ∧ fp' id0 = F')
    (p1 : ∀ i, i ≠ id0 → k i = true → hget st'.hp i = none ∧ φ' i = none ∧ fp' i = [])
    (p2 : ∀ i, i ≠ id0 → k i = false → φ' i = φ i ∧ fp' i = fp i ∧ ((hget st.hp i = none ∧ hget st'.hp i = none) ∨
      ∃ r r2, hget st.hp i = some r ∧ hget st'.hp i = some r2 ∧ ∀ hd, RowRep c.T.Z w (c.Sf w φ) (rφ r φ) r hd (fp i) → RowRep c.T.Z w (c.Sf w φ) (rφ r2 φ') r2 hd (fp i)))
    (hnx : st.nx ≤ st'.nx) (hid : id0 < st'.nx) (hkp : st'.kp = st.kp) (hk : ∀ i, i < st.kp → (i ≠ id0 → k i = false) ∧ (i = id0 → φ i = some hd'))
    (hF1 : F'.Nodup) (hF2 : ∀ b ∈ F', b < w'.heap.size ∧ ((∃ i, (i = id0 ∨ k i = true) ∧ b ∈ fp i) ∨ w.heap.size ≤ b))
    (hr : RowRep c.T.Z w' (c.Sf w' φ') (rφ r' φ') r' hd' F') (hob : st'.ob = st.ob := by rfl) :
    RelX c st' a w' φ' fp' := by
  have hbl : ∀ id hd b, φ' id = some hd → hd.blk = some b → (∃ id hd, φ id = some hd ∧ hd.blk = some b) ∨ w.heap.size ≤ b := by
    intro id hd b hh hb
    by_cases e : id = id0
    · rw [e, p0.2.1] at hh; cases hh; exact hblk b hb
    · cases ek : k id with
      | true => rw [(p1 id e ek).2.1] at hh; cases hh
      | false => rw [(p2 id e ek).1] at hh; exact .inl ⟨id, hd, hh, hb⟩
  have hS : ∀ fl b, c.Sf w φ fl b → c.Sf w' φ' fl b ∧ w'.heap[b]? = w.heap[b]? := fun fl b hb =>
    ⟨Cx.Sf_mono hsz hbl hb, hoth b (h.slt hG hb) (fun hd hh => h.sfree hG hb id0 hd hh)⟩
  have hFo : ∀ id, id ≠ id0 → ∀ b ∈ fp id, w'.heap[b]? = w.heap[b]? := fun id hne b hb =>
    hoth b (h.rng id b hb).1 (fun hd hh hg => hne (h.disj id id0 b hb (h.blkfp hh hg)))
  have hcase : ∀ i b, b ∈ fp' i → (i = id0 ∧ b ∈ F') ∨ (i ≠ id0 ∧ k i = false ∧ b ∈ fp i) := by
    intro i b hb
    by_cases e : i = id0
    · rw [e, p0.2.2] at hb; exact .inl ⟨e, hb⟩
    · cases ek : k i with
      | true => rw [(p1 i e ek).2.2] at hb; cases hb
      | false => rw [(p2 i e ek).2.1] at hb; exact .inr ⟨e, rfl, hb⟩
  have hsep : ∀ i b, b ∈ F' → i ≠ id0 → k i = false → b ∈ fp i → False := by
    intro i b hb e ek hbi
    rcases (hF2 b hb).2 with ⟨i2, h2, h3⟩ | h2
    · have := h.disj i i2 b hbi h3
      subst this
      rcases h2 with h2 | h2
      · exact e h2
      · rw [ek] at h2; cases h2
    · have := (h.rng i b hbi).1; omega
  exact {
    dz := h.dz
    tm := htm.mono (fun _ _ h => h) hS (by simp)
    rows := fun id r hr1 => by
      by_cases e : id = id0
      · subst e; rw [p0.1] at hr1; cases hr1
        exact ⟨hd', p0.2.1, by rw [p0.2.2]; exact hr⟩
      · cases ek : k id with
        | true => rw [(p1 id e ek).1] at hr1; cases hr1
        | false =>
          obtain ⟨q1, q2, q3⟩ := p2 id e ek
          rcases q3 with q3 | ⟨r0, r2, q3, q4, q5⟩
          · rw [q3.2] at hr1; cases hr1
          · rw [q4] at hr1; cases hr1
            obtain ⟨hd, h1, h2⟩ := h.rows id r0 q3
            refine ⟨hd, by rw [q1]; exact h1, ?_⟩
            rw [q2]
            exact (q5 hd h2).mono (fun _ _ h => h) hS (hFo id e)
    dead := fun id hd1 => by
      by_cases e : id = id0
      · subst e; rw [p0.1] at hd1; cases hd1
      · cases ek : k id with
        | true => exact (p1 id e ek).2
        | false =>
          obtain ⟨q1, q2, q3⟩ := p2 id e ek
          rcases q3 with q3 | ⟨r0, r2, q3, q4, q5⟩
          · rw [q1, q2]; exact h.dead id q3.1
          · rw [q4] at hd1; cases hd1
    fresh := fun id hn => by
      have e : id ≠ id0 := by omega
      cases ek : k id with
      | true => exact (p1 id e ek).1
      | false =>
        obtain ⟨q1, q2, q3⟩ := p2 id e ek
        rcases q3 with q3 | ⟨r0, r2, q3, q4, q5⟩
        · exact q3.2
        · rw [h.fresh id (by omega)] at q3; cases q3
    kept := fun id hlt hne => by
      rw [hkp] at hlt
      by_cases e : id = id0
      · have h1 := (hk id hlt).2 e
        rw [e, p0.2.1, ← e, ← h1]
        refine h.kept id hlt (fun h4 => ?_)
        rw [(h.dead id h4).1] at h1; cases h1
      · have ek := (hk id hlt).1 e
        obtain ⟨q1, q2, q3⟩ := p2 id e ek
        rw [q1]
        rcases q3 with q3 | ⟨r0, r2, q3, q4, q5⟩
        · exact absurd q3.2 hne
        · exact h.kept id hlt (by rw [q3]; simp)
    kpn := by rw [hkp]; exact Nat.le_trans h.kpn hnx
    disj := fun i j b hi hj => by
      rcases hcase i b hi with ⟨e1, h1⟩ | ⟨e1, k1, h1⟩ <;> rcases hcase j b hj with ⟨e2, h2⟩ | ⟨e2, k2, h2⟩
      · rw [e1, e2]
      · exact (hsep j b h1 e2 k2 h2).elim
      · exact (hsep i b h2 e1 k1 h1).elim
      · exact h.disj i j b h1 h2
    nod := fun i => by
      by_cases e : i = id0
      · rw [e, p0.2.2]; exact hF1
      · cases ek : k i with
        | true => rw [(p1 i e ek).2.2]; exact .nil
        | false => rw [(p2 i e ek).2.1]; exact h.nod i
    rng := fun i b hi => by
      rcases hcase i b hi with ⟨e1, h1⟩ | ⟨e1, k1, h1⟩
      · refine ⟨(hF2 b h1).1, ?_⟩
        rcases (hF2 b h1).2 with ⟨i2, h2, h3⟩ | h2
        · exact (h.rng i2 b h3).2
        · exact .inl (Nat.le_trans h.grow h2)
      · exact ⟨Nat.lt_of_lt_of_le (h.rng i b h1).1 hsz, (h.rng i b h1).2⟩
    os := hos.trans h.os
    tape := htp.trans h.tape
    out := hout.trans h.out
    grow := Nat.le_trans h.grow hsz
    same := fun b h1 h2 => by
      rw [hoth b (Nat.lt_of_lt_of_le h1 h.grow) (fun hd hh hg => ?_)]
      · exact h.same b h1 h2
      · rcases (h.rng id0 b (h.blkfp hh hg)).2 with h3 | h3
        · omega
        · exact h2 h3
    obs := fun p hp => by
      rw [hob] at hp
      obtain ⟨q1, q2, q3⟩ := h.obs p hp
      have hlt : p.1 < w.heap.size := by
        rcases Nat.lt_or_ge p.1 w.heap.size with hh | hh
        · exact hh
        · rw [Array.getElem?_eq_none hh] at q1; cases q1
      refine ⟨by rw [hoth p.1 hlt (fun hd hh hg => q2 id0 (h.blkfp hh hg))]; exact q1, fun i hi => ?_, q3⟩
      rcases hcase i p.1 hi with ⟨_, h1⟩ | ⟨_, _, h1⟩
      · rcases (hF2 p.1 h1).2 with ⟨i2, _, h3⟩ | h2
        · exact q2 i2 h3
        · omega
      · exact q2 i h1 }
end
end Go.Proofs.AM
