/- A part of the proof: the walk of functions of the program, or the rules of the walk. -/
import Derived.Test.YthilnfccfjcgfaaGreatAmMap
import Derived.DeepKeys
set_option linter.unusedSimpArgs false
set_option linter.unusedVariables false
namespace Go.Proofs.AM
open Go

/-! ### structs that are compared -/
def eqC (P : Program) : Nat → TypeId → List Value → List Value → Option Bool
  | 0, _, _, _ => none
  | d + 1, t, xs, ys =>
    match P.underlying t with
    | some .bool => match xs, ys with
      | [.bool a], [.bool b] => some (a == b)
      | _, _ => none
    | some (.int _) => match xs, ys with
      | [.int k a], [.int k' b] => if k = k' then some (a == b) else none
      | _, _ => none
    | some (.struct fs) =>
      if xs.length = P.cellsOf t ∧ ys.length = P.cellsOf t ∧ P.stoodInHeld t = false ∧ fs.toList.all (·.name != "_") = true then
        fs.toList.foldr (fun f r => match eqC P d f.type ((xs.drop f.offset).take (P.cellsOf f.type)) ((ys.drop f.offset).take (P.cellsOf f.type)), r with
          | some a, some b => some (a && b)
          | _, _ => none) (some true)
      else none
    | _ => none

section
variable {P : Program} (w : World)
theorem eqC_part {m : Nat} {e : TypeId} {off : Nat} {xs : Array Value} {zs : List Value} {r : Bool}
    (h : eqC P m e ((xs.toList.drop off).take (P.cellsOf e)) zs = some r ∨ eqC P m e zs ((xs.toList.drop off).take (P.cellsOf e)) = some r) :
    ∃ a, (part e xs off).run P w = .ok a w ∧ a.formed P e = true ∧ a.cells.toList = (xs.toList.drop off).take (P.cellsOf e) := by
  cases m with
  | zero => rcases h with h | h <;> simp [eqC] at h
  | succ m =>
    unfold eqC at h
    cases hu : P.underlying e with
    | none => simp [hu] at h
    | some d =>
      simp only [hu] at h
      have one : ∀ v, (xs.toList.drop off).take (P.cellsOf e) = [v] → P.plainKey e = true → v.formed P e = true → v.cells.toList = [v] →
          ∃ a, (part e xs off).run P w = .ok a w ∧ a.formed P e = true ∧ a.cells.toList = (xs.toList.drop off).take (P.cellsOf e) := by
        intro v hv hp hf hc
        exact ⟨v, run_part_plain w hp (getElem?_of_chunk hv), hf, by rw [hc, hv]⟩
      cases d <;> simp only at h
      case bool =>
        rcases h with h | h <;> split at h <;> first | cases h | skip
        · rename_i a b e1; exact one _ e1 (by simp [Program.plainKey, hu]) (by simp [Value.formed, hu]) rfl
        · rename_i a b e1; exact one _ e1 (by simp [Program.plainKey, hu]) (by simp [Value.formed, hu]) rfl
      case int q =>
        rcases h with h | h <;> split at h <;> first | cases h | skip
        · rename_i e1; exact one _ e1 (by simp [Program.plainKey, hu]) (by simp [Value.formed, hu]) rfl
        · rename_i e1; exact one _ e1 (by simp [Program.plainKey, hu]) (by simp [Value.formed, hu]) rfl
      case struct fs =>
        have hlen : ((xs.toList.drop off).take (P.cellsOf e)).length = P.cellsOf e := by
          rcases h with h | h <;> split at h
          · rename_i hh; exact hh.1
          · cases h
          · rename_i hh; exact hh.2.1
          · cases h
        obtain ⟨i, hi⟩ := info_of_underlying hu
        have hl : (xs.extract off (off + P.cellsOf e)).toList = (xs.toList.drop off).take (P.cellsOf e) := by
          rw [Array.toList_extract]; simp [List.extract]
        refine ⟨.agg (xs.extract off (off + P.cellsOf e)), by simp [part, isAgg, run_underlying hu, run_sizeOf w hi], ?_, hl⟩
        have hs : (xs.extract off (off + P.cellsOf e)).size = P.cellsOf e := by rw [← Array.length_toList, hl, hlen]
        simp [Value.formed, hu, hs]
      all_goals (rcases h with h | h <;> cases h)
theorem eqC_ok (d : Nat) : ∀ (m : Nat) (t : TypeId) (xs ys : List Value) (r : Bool) (a b : Value), eqC P m t xs ys = some r → a.formed P t = true → b.formed P t = true → a.cells.toList = xs → b.cells.toList = ys →
    (Op.equalIn (d + m) t a b).run P w = .ok r w
  | 0, _, _, _, _, _, _, h, _, _, _, _ => by simp [eqC] at h
  | m + 1, t, xs, ys, r, a, b, h, fa, fb, ha, hb => by
    subst ha hb
    unfold eqC at h
    cases hu : P.underlying t with
    | none => simp [hu] at h
    | some k =>
      simp only [hu] at h
      cases k <;> simp only at h
      case bool =>
        split at h
        · rename_i p q e1 e2
          cases h
          have : a = .bool p := by cases a <;> simp_all [Value.cells, Value.formed]
          have : b = .bool q := by cases b <;> simp_all [Value.cells, Value.formed]
          subst a b
          rw [show d + (m + 1) = (d + m) + 1 from rfl, Op.equalIn]
          simp [run_underlying hu]
        · cases h
      case int q =>
        split at h
        · rename_i k1 p k2 q e1 e2
          have : a = .int k1 p := by cases a <;> simp_all [Value.cells, Value.formed]
          have : b = .int k2 q := by cases b <;> simp_all [Value.cells, Value.formed]
          subst a b
          split at h
          · rename_i hk
            cases h
            subst hk
            rw [show d + (m + 1) = (d + m) + 1 from rfl, Op.equalIn]
            simp [run_underlying hu]
          · cases h
        · cases h
      case struct fs =>
        split at h
        · rename_i hh
          obtain ⟨l1, l2, l3, l4⟩ := hh
          cases a <;> simp only [Value.formed, hu, Bool.false_eq_true] at fa
          cases b <;> simp only [Value.formed, hu, Bool.false_eq_true] at fb
          rename_i A B
          simp only [Value.cells] at h
          have hfs : P.fieldsOf t = fs := by simp [Program.fieldsOf, hu]
          rw [show d + (m + 1) = (d + m) + 1 from rfl, run_equalIn_struct w (d + m) t A B (by rw [hfs]; exact hu) l3, hfs]
          have key : ∀ (l : List Field) (r : Bool), (∀ f ∈ l, f.name ≠ "_") → l.foldr (fun f r => match eqC P m f.type ((A.toList.drop f.offset).take (P.cellsOf f.type)) ((B.toList.drop f.offset).take (P.cellsOf f.type)), r with
              | some a, some b => some (a && b)
              | _, _ => none) (some true) = some r → (Op.eqFields (d + m) A B l).run P w = .ok r w := by
            intro l
            induction l with
            | nil => intro r _ h; simp at h; subst h; simp [Op.eqFields]
            | cons f l ih =>
              intro r hn h
              rw [List.foldr_cons] at h
              split at h
              · rename_i x y e1 e2
                cases h
                have i1 := ih y (fun g hg => hn g (by simp [hg])) e2
                obtain ⟨p, p1, p2, p3⟩ := eqC_part w (xs := A) (.inl e1)
                obtain ⟨q, q1, q2, q3⟩ := eqC_part w (xs := B) (.inr e1)
                have e3 := eqC_ok d m f.type _ _ x p q e1 p2 q2 p3 q3
                simp only [Op.eqFields, hn f (by simp), ne_eq, not_false_eq_true, if_true, Sem.run_bind, p1, q1, e3, Result.andThen_ok]
                cases x
                · simp
                · simpa using i1
              · cases h
          exact key fs.toList r (fun f hf => by have := List.all_eq_true.1 l4 f hf; simpa using this) h
        · cases h
      all_goals (cases h)
end

/-- the cells, where they are all plain -/
def scs : List AV → Option (List Value)
  | [] => some []
  | .sc v :: l => (scs l).map (v :: ·)
  | _ :: _ => none
theorem scs_rep {Z : SzF} {w : World} {Sf : Fl → Nat → Prop} {φ : Nat → Option Hd} {xs : List AV} {us vs : List Value} {F : List Nat} (h : RepXs Z w Sf φ xs vs F) (hs : scs xs = some us) : vs = us := by
  induction xs generalizing us vs F with
  | nil => simp [scs] at hs; subst hs; cases h; rfl
  | cons x xs ih =>
    cases x <;> simp only [scs] at hs <;> first | cases hs | skip
    rename_i v
    simp only [Option.map_eq_some_iff] at hs
    obtain ⟨l, hl, rfl⟩ := hs
    cases h with
    | cons h1 h2 => cases h1; rw [ih h2 hl]

section
variable {P : Program} {T : TT} {Q : Exit → St → Prop} {k : List K} {st : St}
theorem OpOk.eqS {o : Oper} {t u : TypeId} {x y : Operand} {cs ds : List AV} {us vs : List Value} {r : Bool} {op : BinOp} (hop : op = .eql ∨ op = .neq) (ho : o.op = .binOp op t x y u) (hx : evo st x = .agg cs) (hy : evo st y = .agg ds)
    (h1 : scs cs = some us) (h2 : scs ds = some vs) (hs : ∃ fs, P.underlying t = some (.struct fs)) (he : eqC P 9 t us vs = some r) (hg : P.eqGuardType P.depth t = false) :
    OpOk P T st o (st.put o.dst (.sc (.bool (if op = .eql then r else !r)))) := by
  intro c e1 e2 hT hG a w K Q hr hK
  subst e1 e2
  obtain ⟨φ, fp, h⟩ := hr
  have ex := h.ev x
  have ey := h.ev y
  rw [hx] at ex
  rw [hy] at ey
  generalize hvx : a.eval x = vx at ex
  generalize hvy : a.eval y = vy at ey
  generalize hF : ([] : List Nat) = F at ex
  generalize hF2 : ([] : List Nat) = F2 at ey
  cases ex with
  | agg hsx h1x =>
  cases ey with
  | agg hsy h1y =>
  have ex' := scs_rep hsx h1
  have ey' := scs_rep hsy h2
  subst ex' ey'
  rename_i X Y
  obtain ⟨fs, hu⟩ := hs
  have hlen : X.length = c.P.cellsOf t ∧ Y.length = c.P.cellsOf t := by
    unfold eqC at he
    simp only [hu] at he
    split at he
    · rename_i hh; exact ⟨hh.1, hh.2.1⟩
    · cases he
  have hrun : (Op.equal t (.agg X.toArray) (.agg Y.toArray)).run c.P w = .ok r w := by
    have := eqC_ok (P := c.P) w 9991 9 t X Y r (.agg X.toArray) (.agg Y.toArray) he (by simp [Value.formed, hu, hlen.1]) (by simp [Value.formed, hu, hlen.2]) (by simp [Value.cells]) (by simp [Value.cells])
    exact this
  rcases hop with rfl | rfl
  · refine wp_value (w' := w) (v := .bool r) ?_ (hK _ _ ⟨φ, fp, by simpa using h.put o.dst (.sc (v := .bool r) rfl)⟩)
    simp [execOp, ho, hvx, hvy, eqGuard, binOp, hrun, hg]
  · refine wp_value (w' := w) (v := .bool (!r)) ?_ (hK _ _ ⟨φ, fp, by simpa using h.put o.dst (.sc (v := .bool (!r)) rfl)⟩)
    simp [execOp, ho, hvx, hvy, eqGuard, binOp, hrun, hg]
/-- two values of a type, compared -/
def EqT (P : Program) (t : TypeId) (us vs : List Value) (r : Bool) : Prop := eqC P 9 t us vs = some r ∧ (∃ fs, P.underlying t = some (.struct fs)) ∧ P.eqGuardType P.depth t = false
theorem Go.eqs {all : Array Oper} {o : Oper} {os : List Oper} {st2 : St} {t u : TypeId} {x y : Operand} {cs ds : List AV} {us vs : List Value} {r : Bool} {op : BinOp} (hq : EqT P t us vs r) (h : Go P T Q (.ops all os) k st2)
    (hg : wantedA all st o = some true := by (simp only [go_sem, Nat.reduceEqDiff, Nat.reduceLT, Nat.reduceLeDiff, Nat.reduceAdd, Nat.reduceSub, reduceCtorEq] <;> rfl)) (ho : o.op = .binOp op t x y u := by rfl) (hop : op = .eql ∨ op = .neq := by first | exact .inl rfl | exact .inr rfl)
    (hx : evo st x = .agg cs := by (simp only [go_sem]; rfl)) (hy : evo st y = .agg ds := by (simp only [go_sem]; rfl)) (h1 : scs cs = some us := by rfl) (h2 : scs ds = some vs := by rfl)
    (e : st.put o.dst (.sc (.bool (if op = .eql then r else !r))) = st2 := by (simp only [go_sem, reduceCtorEq]; rfl)) : Go P T Q (.ops all (o :: os)) k st := by
  subst e
  exact Go.by hg (.eqS hop ho hx hy h1 h2 hq.2.1 hq.1 hq.2.2) h
end
end Go.Proofs.AM
