/- A part of the proof: the walk of functions of the program, or the rules of the walk. -/
import Derived.Test.YthilnfccfjcgfaaGreatAmMap2
import Derived.Test.YthilnfccfjcgfaaGreatAmPure3
import Derived.Test.YthilnfccfjcgfaaGreatAmFast
set_option linter.unusedSimpArgs false
set_option linter.unusedVariables false
namespace Go.Proofs.AM
open Go

/-! ### a slice of plain cells built in a drawn region -/
def bsA (T : TT) (st : St) (o : Oper) : Option (Nat × Row) :=
  match o.op with
  | .buildSlice t len parts => match T.get t with
    | some i => match i.d with
      | .slice E => match T.get E with
        | some ie => match scs (parts.toList.flatMap fun p => (evo st p.2).cells) with
          | some us => if parts.toList.map (·.1) = List.range len ∧ (∀ p ∈ parts.toList, (evo st p.2).cells.length = ie.size) ∧ len * ie.size ≤ 16777216 then
              some (len, ⟨E, false, chunk ie.size len (us.map .sc)⟩) else none
          | none => none
        | none => none
      | _ => none
    | none => none
  | _ => none
def bs1 (T : TT) (all : Array Oper) (st : St) (o : Oper) : Option St :=
  match wantedA all st o with
  | some true => match bsA T st o with
    | some (n, r) => some { (st.put o.dst (.rf st.nx 0 n)) with hp := (st.nx, r) :: st.hp, nx := st.nx + 1 }
    | none => none
  | _ => none
attribute [go_sem] bs1 bsA scs
theorem scs_close (st : St) {xs : List AV} {us : List Value} (h : scs xs = some us) : close st xs = some (us.map .sc, []) := by
  induction xs generalizing us with
  | nil => simp [scs] at h; subst h; rfl
  | cons x xs ih =>
    cases x <;> simp only [scs] at h <;> first | cases h | skip
    simp only [Option.map_eq_some_iff] at h
    obtain ⟨l, hl, rfl⟩ := h
    simp [close, close1, ih hl]
section
variable {P : Program} {T : TT} {all : Array Oper} {st st1 st2 : St} {G : St → Prop} {l : List (Nat × Bool)}
theorem bsA_ev {o : Oper} {n : Nat} {r : Row} (h : bsA T st o = some (n, r)) : opEval T st o = some { (st.put o.dst (.rf st.nx 0 n)) with hp := (st.nx, r) :: st.hp, nx := st.nx + 1 } := by
  unfold bsA at h
  split at h <;> try cases h
  rename_i t len parts ho
  split at h <;> try cases h
  rename_i i hi
  split at h <;> try cases h
  rename_i E hd
  split at h <;> try cases h
  rename_i ie hie
  split at h <;> try cases h
  rename_i us hus
  split at h
  · rename_i hp
    obtain ⟨rfl, rfl⟩ := Prod.mk.inj (Option.some.inj h)
    simp only [opEval, ho, hi, hd, hie, scs_close st hus, dup, Bool.false_eq_true, if_false, if_pos hp, St.sweep]
  · cases h
theorem bsA_agree {o : Oper} (h : AgreeAt all o st st2) : bsA T st2 o = bsA T st o := by
  cases ho : o.op <;> simp only [bsA, ho]
  · rename_i t len parts
    have e : ∀ p ∈ parts.toList, evo st2 p.2 = evo st p.2 := fun p hp => h.ev p.2 (by simp only [ho, Op.operands]; simp; exact ⟨p.1, by simpa using hp⟩)
    have e1 : (parts.toList.flatMap fun p => (evo st2 p.2).cells) = (parts.toList.flatMap fun p => (evo st p.2).cells) := by
      simp only [List.flatMap_def]; rw [List.map_congr_left fun p hp => by rw [e p hp]]
    have e2 : ∀ n : Nat, (∀ p ∈ parts.toList, (evo st2 p.2).cells.length = n) ↔ (∀ p ∈ parts.toList, (evo st p.2).cells.length = n) :=
      fun n => ⟨fun k p hp => by rw [← e p hp]; exact k p hp, fun k p hp => by rw [e p hp]; exact k p hp⟩
    simp only [e1, e2]
theorem DlK.bs {i : Nat} {o : Oper} (hr : DlK P T all st1 l G) (ho : pickL all.toList i = some o := by rfl)
    (h : bs1 T all st o = some st1 := by (simp only [go_sem, Nat.reduceEqDiff, Nat.reduceLT, Nat.reduceLeDiff, Nat.reduceAdd, Nat.reduceSub, Nat.reduceMul, reduceCtorEq, *]; rfl)) : DlK P T all st ((i, true) :: l) G := by
  unfold bs1 at h
  split at h <;> try cases h
  rename_i hw
  split at h <;> try cases h
  rename_i n r hb
  obtain ⟨stm, h1, h2⟩ := hr
  refine ⟨stm, .c (picked ho) (x := .rf st.nx 0 n) (ns := [(st.nx, r)]) (ob' := st.ob) ⟨?_, .refl _, fun st2 k1 k2 k3 k4 => ⟨by rw [k1.wanted]; exact hw, ?_⟩⟩ ?_, h2⟩
  · intro id r2 hr2
    have : id = st.nx := by
      simp only [hget] at hr2
      split at hr2
      · rename_i e; first | exact e.symm | exact e
      · cases hr2
    subst this
    exact ⟨Nat.le_refl _, by simp⟩
  · have := OpOk.ev (P := P) (bsA_ev (st := st2) (by rw [bsA_agree k1]; exact hb))
    rw [setO_self (st := st2.rows _) (by exact k4)]
    rw [k3] at this
    have e : (st2.rows [(st.nx, r)]).put o.dst (.rf st.nx 0 n) = { (st2.put o.dst (.rf st.nx 0 n)) with hp := (st.nx, r) :: st2.hp, nx := st.nx + 1 } := by
      cases o.dst <;> simp [St.put, St.rows, k3]
    rw [e]; exact this
  · have e : ((st.rows [(st.nx, r)]).setO st.ob).put o.dst (.rf st.nx 0 n) = { (st.put o.dst (.rf st.nx 0 n)) with hp := (st.nx, r) :: st.hp, nx := st.nx + 1 } := by
      cases o.dst <;> simp [St.put, St.rows, St.setO]
    rw [e]; exact h1
end
end Go.Proofs.AM
