/- A part of the proof: the walk of functions of the program, or the rules of the walk. -/
import Derived.Test.YthilnfccfjcgfaaGreatAmMap3
set_option linter.unusedSimpArgs false
set_option linter.unusedVariables false
namespace Go.Proofs.AM
open Go

/-! ### the map turned -/
def jK : List (Place × Int) → Place → Nat
  | [], _ => 0
  | p :: l, x => if x = p.1 then 0 else jK l x + 1
def putK : List (Place × Int) → Place → Int → List (Place × Int)
  | [], x, v => [(x, v)]
  | p :: l, x, v => if x = p.1 then (x, v) :: l else p :: putK l x v
def upK (d : Int) : List (Place × Int) → List Place → List (Place × Int)
  | M, [] => M
  | M, x :: xs => upK d (putK M x (IntKind.i64.wrap (lk M x + d))) xs
theorem upK_app (d : Int) (M : List (Place × Int)) (xs ys : List Place) : upK d M (xs ++ ys) = upK d (upK d M xs) ys := by
  induction xs generalizing M with
  | nil => rfl
  | cons x xs ih => exact ih _
theorem upK_one (d : Int) (M : List (Place × Int)) (xs : List Place) (x : Place) : upK d M (xs ++ [x]) = putK (upK d M xs) x (IntKind.i64.wrap (lk (upK d M xs) x + d)) := upK_app d M xs [x]
theorem posK_snoc (M : List (Place × Int)) (x : Place) (i : Nat) : posK (M ++ [(x, 0)]) x i = some (i + jK M x, lk M x) := by
  induction M generalizing i with
  | nil => simp [posK, jK, lk]
  | cons p l ih =>
    simp only [List.cons_append, posK, jK, lk]
    split
    · rfl
    · rw [ih]; congr 2; omega
theorem posK_some {M : List (Place × Int)} {x : Place} {i : Nat} (h : (posK M x i).isSome) : posK M x i = some (i + jK M x, lk M x) := by
  induction M generalizing i with
  | nil => cases h
  | cons p l ih =>
    simp only [posK, jK, lk] at h ⊢
    split
    · rfl
    · rename_i hne
      rw [if_neg hne] at h
      rw [ih h]; congr 2; omega
theorem posK_addK (M : List (Place × Int)) (x : Place) : posK (addK M x) x 0 = some (jK M x, lk M x) := by
  unfold addK
  split
  · rename_i h; rw [posK_some h]; simp
  · rw [posK_snoc]; simp
theorem set_some {M : List (Place × Int)} {x : Place} {v : Int} {i : Nat} (h : (posK M x i).isSome) : M.set (jK M x) (x, v) = putK M x v := by
  induction M generalizing i with
  | nil => cases h
  | cons p l ih =>
    simp only [posK, jK, putK] at h ⊢
    split
    · rfl
    · rename_i hne
      rw [if_neg hne] at h
      rw [List.set_cons_succ, ih h]
theorem set_none {M : List (Place × Int)} {x : Place} {v : Int} {i : Nat} (h : ¬ (posK M x i).isSome) : (M ++ [(x, 0)]).set (jK M x) (x, v) = putK M x v := by
  induction M generalizing i with
  | nil => rfl
  | cons p l ih =>
    simp only [posK, jK, putK] at h ⊢
    split
    · rename_i e; rw [if_pos e] at h; simp at h
    · rename_i hne
      rw [if_neg hne] at h
      rw [List.cons_append, List.set_cons_succ, ih h]
theorem set_addK (M : List (Place × Int)) (x : Place) (v : Int) : (addK M x).set (jK M x) (x, v) = putK M x v := by
  unfold addK
  split
  · rename_i h; exact set_some h
  · rename_i h; exact set_none h
theorem lk_addK (M : List (Place × Int)) (x y : Place) : lk (addK M x) y = lk M y := by
  unfold addK
  split
  · rfl
  · rename_i h
    clear h
    induction M with
    | nil => simp [lk]
    | cons p l ih => simp only [List.cons_append, lk, ih]
theorem lk_putK (M : List (Place × Int)) (x y : Place) (v : Int) : lk (putK M x v) y = if y = x then v else lk M y := by
  induction M with
  | nil => simp [putK, lk]
  | cons p l ih =>
    simp only [putK]
    split
    · rename_i e; subst e; simp only [lk]; split <;> simp [*]
    · rename_i hne; simp only [lk, ih]; split
      · rename_i e; subst e; rw [if_neg (fun e => hne e.symm)]
      · rfl
theorem keys_putK (M : List (Place × Int)) (x : Place) (v : Int) (y : Place) : y ∈ (putK M x v).map (·.1) ↔ y = x ∨ y ∈ M.map (·.1) := by
  induction M with
  | nil => simp [putK]
  | cons p l ih =>
    simp only [putK]
    split
    · rename_i e; subst e; simp
    · simp only [List.map_cons, List.mem_cons, ih]; constructor <;> (rintro (h | h | h) <;> simp [h])
theorem nodup_putK {M : List (Place × Int)} {x : Place} {v : Int} (h : (M.map (·.1)).Nodup) : ((putK M x v).map (·.1)).Nodup := by
  induction M with
  | nil => simp [putK]
  | cons p l ih =>
    simp only [List.map_cons, List.nodup_cons] at h
    simp only [putK]
    split
    · rename_i e; subst e; simp only [List.map_cons, List.nodup_cons]; exact h
    · rename_i hne
      simp only [List.map_cons, List.nodup_cons]
      exact ⟨fun hh => by rcases (keys_putK l x v p.1).1 hh with e | e; exact hne e.symm; exact h.1 e, ih h.2⟩
theorem keys_upK (d : Int) (M : List (Place × Int)) (xs : List Place) (y : Place) : y ∈ (upK d M xs).map (·.1) ↔ y ∈ xs ∨ y ∈ M.map (·.1) := by
  induction xs generalizing M with
  | nil => simp [upK]
  | cons x xs ih =>
    simp only [upK, ih, keys_putK, List.mem_cons]
    exact ⟨fun | .inl h => .inl (.inr h) | .inr (.inl h) => .inl (.inl h) | .inr (.inr h) => .inr h, fun | .inl (.inl h) => .inr (.inl h) | .inl (.inr h) => .inl h | .inr h => .inr (.inr h)⟩
theorem nodup_upK {d : Int} {M : List (Place × Int)} {xs : List Place} (h : (M.map (·.1)).Nodup) : ((upK d M xs).map (·.1)).Nodup := by
  induction xs generalizing M with
  | nil => exact h
  | cons x xs ih => exact ih (nodup_putK h)
theorem lk_upK {d : Int} (hd : -1 ≤ d ∧ d ≤ 1) {M : List (Place × Int)} {xs : List Place} {B : Nat} (hM : ∀ x, -(B : Int) ≤ lk M x ∧ lk M x ≤ B) (hB : B + xs.length ≤ 1000000000000000) (y : Place) : lk (upK d M xs) y = lk M y + d * xs.count y := by
  induction xs generalizing M B with
  | nil => simp [upK]
  | cons x xs ih =>
    have hw : IntKind.i64.wrap (lk M x + d) = lk M x + d := by
      have := hM x; rw [List.length_cons] at hB; exact w64 (by omega) (by omega)
    rw [List.length_cons] at hB
    rw [upK, hw, ih (B := B + 1) (fun z => ?_) (by omega), lk_putK, List.count_cons]
    · split
      · rename_i e; subst e; simp; rw [Int.mul_add]; omega
      · rename_i hne; have : (x == y) = false := by simpa using fun e => hne e.symm
        simp [this]
    · rw [lk_putK]; have := hM x; have := hM z; split <;> omega
theorem lk_mem {M : List (Place × Int)} (h : (M.map (·.1)).Nodup) {x : Place} {n : Int} (hx : (x, n) ∈ M) : lk M x = n := by
  induction M with
  | nil => cases hx
  | cons p l ih =>
    simp only [List.map_cons, List.nodup_cons] at h
    simp only [lk]
    rcases List.mem_cons.1 hx with rfl | hx
    · simp
    · rw [if_neg (fun e : x = p.1 => h.1 (e ▸ List.mem_map_of_mem (f := (·.1)) hx)), ih h.2 hx]
theorem lk_none {M : List (Place × Int)} {x : Place} (h : x ∉ M.map (·.1)) : lk M x = 0 := by
  induction M with
  | nil => rfl
  | cons p l ih =>
    simp only [List.map_cons, List.mem_cons, not_or] at h
    simp only [lk, if_neg h.1, ih h.2]
theorem zero_all {M : List (Place × Int)} (h : (M.map (·.1)).Nodup) : (∀ p ∈ M, p.2 = 0) ↔ ∀ x, lk M x = 0 := by
  constructor
  · intro k x
    by_cases hx : x ∈ M.map (·.1)
    · obtain ⟨p, hp, rfl⟩ := List.mem_map.1 hx
      rw [lk_mem h (n := p.2) hp]; exact k p hp
    · exact lk_none hx
  · intro k p hp
    rw [← lk_mem h (x := p.1) (n := p.2) hp]; exact k p.1
/-- what the map says at the end -/
theorem zero_count {W A : List Place} (hW : W.length ≤ 4000000) (hA : A.length ≤ 10000000000) : (∀ p ∈ upK (-1) (upK 1 [] W) A, p.2 = 0) ↔ ∀ x, W.count x = A.count x := by
  rw [zero_all (nodup_upK (nodup_upK (by simp)))]
  have h1 : ∀ y, lk (upK 1 [] W) y = W.count y := fun y => by
    rw [lk_upK (d := 1) (by omega) (B := 0) (fun x => by simp [lk]) (by omega)]; simp [lk]
  have h2 : ∀ y, lk (upK (-1) (upK 1 [] W) A) y = W.count y - A.count y := fun y => by
    rw [lk_upK (d := -1) (by omega) (B := W.length) (fun x => by rw [h1]; have := List.count_le_length (a := x) (l := W); omega) (by omega), h1]; omega
  constructor
  · intro k x; have := k x; rw [h2] at this; omega
  · intro k x; rw [h2, k x]; omega

/-! ### the operations -/
def pVs (x : Place) : List Value := [.bool x.mutex, .int .i64 x.obj, .bool x.send, .int .i64 x.w.g, .int .i64 x.w.cs, .int .i64 x.w.val]
theorem pVs_pV (x : Place) : Value.agg (pVs x).toArray = pV x := rfl
theorem mO_inj {M N : List (Place × Int)} (h : mO M = mO N) : M = N := by
  have h1 : mE 0 M = mE 0 N := by simpa [mO] using (congrArg (fun o => match o with | Obj.map es _ => es.toList | _ => []) h)
  apply List.ext_getElem?
  intro i
  have h2 := congrArg (fun l => l[i]?) h1
  simp only [mE_get] at h2
  cases hM : M[i]? <;> cases hN : N[i]? <;> simp [hM, hN] at h2 ⊢
  rename_i p q
  obtain ⟨⟨mx, o, s, ⟨g, c, v⟩⟩, n⟩ := p
  obtain ⟨⟨mx', o', s', ⟨g', c', v'⟩⟩, n'⟩ := q
  simp [pV] at h2
  simp [h2]
section
variable {P : Program} {T : TT} {all : Array Oper} {st st1 st2 : St} {G : St → Prop} {l : List (Nat × Bool)} {t : TypeId} {r : Nat} {M : List (Place × Int)} {x : Place}
theorem agg_key {c : Cx} {a : Act} {w : World} {φ : Nat → Option Hd} {fp : Nat → List Nat} (h : RelX c st a w φ fp) {k : Operand} {cs : List AV} (hk : evo st k = .agg cs) (hs : scs cs = some (pVs x)) : a.eval k = pV x := by
  have ex := h.ev k
  rw [hk] at ex
  generalize a.eval k = vx at ex
  generalize hF : ([] : List Nat) = F at ex
  cases ex with
  | agg hsx h1x => rw [scs_rep hsx hs, pVs_pV]
theorem OpOk.lkp {o : Oper} {m k : Operand} {cs : List AV} (hT : MapT P t) (ho : o.op = .lookup t m k false) (hm : evo st m = .sc (.map (some r))) (hk : evo st k = .agg cs) (hs : scs cs = some (pVs x)) (hr : (r, mO M) ∈ st.ob) :
    OpOk P T st o (st.put o.dst (.sc (.int .i64 (lk M x)))) := by
  intro c e1 e2 hTT hG a w K Q hrl hK
  subst e1 e2
  obtain ⟨φ, fp, h⟩ := hrl
  have hb := (h.obs _ hr).1
  refine wp_value (w' := w) (v := .int .i64 (lk M x)) ?_ (hK _ _ ⟨φ, fp, h.put o.dst (.sc (v := .int .i64 (lk M x)) rfl)⟩)
  have := run_lookupM hT hb x
  simp [execOp, ho, h.scv hm, agg_key h hk hs, this]
theorem OpOk.me {o : Oper} {m k : Operand} {cs : List AV} (hT : MapT P t) (ho : o.op = .mapEntry t m k) (hm : evo st m = .sc (.map (some r))) (hk : evo st k = .agg cs) (hs : scs cs = some (pVs x)) (hr : st.ob = [(r, mO M)]) :
    OpOk P T st o ((st.setO [(r, mO (addK M x))]).put o.dst (.tup [.sc (.int .i64 (lk M x)), .sc (.int .i64 (jK M x : Nat))])) := by
  intro c e1 e2 hTT hG a w K Q hrl hK
  subst e1 e2
  obtain ⟨φ, fp, h⟩ := hrl
  have hm0 : (r, mO M) ∈ st.ob := by simp [hr]
  have hb := (h.obs _ hm0).1
  obtain ⟨j, hj, _, hrun⟩ := run_mapEntryM hT hb x
  rw [posK_addK] at hj
  obtain ⟨rfl, _⟩ := Prod.mk.inj (Option.some.inj hj)
  have h2 := h.obSet (mO (addK M x)) [(r, mO (addK M x))] hm0 (by intro cur E fz; simp [mO]) (by simp)
  refine wp_value (v := .tuple #[.int .i64 (lk M x), .int .i64 (jK M x : Nat)]) ?_ (hK _ _ ⟨φ, fp, h2.put o.dst (.tup (vs := [.int .i64 (lk M x), .int .i64 (jK M x : Nat)]) (.cons0 (.sc rfl) (.cons0 (.sc rfl) .nil)))⟩)
  simp [execOp, ho, h.scv hm, agg_key h hk hs, hrun]
theorem OpOk.es {o : Oper} {m s v : Operand} {n : Int} (ho : o.op = .entryStore t m s v) (hm : evo st m = .sc (.map (some r))) (hs : evo st s = .sc (.int .i64 (jK M x : Nat))) (hv : evo st v = .sc (.int .i64 n)) (hr : st.ob = [(r, mO (addK M x))]) :
    OpOk P T st o ((st.setO [(r, mO (putK M x n))]).put o.dst .ud) := by
  intro c e1 e2 hTT hG a w K Q hrl hK
  subst e1 e2
  obtain ⟨φ, fp, h⟩ := hrl
  have hm0 : (r, mO (addK M x)) ∈ st.ob := by simp [hr]
  have hb := (h.obs _ hm0).1
  have hj := (posK_spec (posK_addK M x)).2
  rw [Nat.sub_zero] at hj
  have hrun := run_entryStoreM (P := c.P) hb hj n t
  rw [set_addK] at hrun
  have h2 := h.obSet (mO (putK M x n)) [(r, mO (putK M x n))] hm0 (by intro cur E fz; simp [mO]) (by simp)
  refine wp_skipv ?_ (hK _ _ ⟨φ, fp, h2.put o.dst .ud⟩)
  simp [execOp, ho, h.scv hm, h.scv hs, h.scv hv, hrun]
end
end Go.Proofs.AM
