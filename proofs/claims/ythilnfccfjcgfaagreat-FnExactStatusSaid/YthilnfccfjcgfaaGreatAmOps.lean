/- A part of the proof: the walk of functions of the program, or the rules of the walk. -/
import Derived.Test.YthilnfccfjcgfaaGreatAmRel
set_option linter.unusedSimpArgs false
set_option linter.unusedVariables false
namespace Go.Proofs.AM
open Go

def dOk (P : Program) (t : TypeId) : TyD → Prop
  | .int k => P.underlying t = some (.int k)
  | .bool => P.underlying t = some .bool
  | .str => P.underlying t = some .string
  | .slice E => P.underlying t = some (.slice E)
  | .ptr E => P.underlying t = some (.pointer E)
  | .struct fs => ∃ fields, P.underlying t = some (.struct fields) ∧ fields.size = fs.length ∧
      ∀ (j : Nat) (f : Field), fields[j]? = some f → ∃ (n : Nat) (i : TypeInfo), fs[j]? = some (f.offset, n) ∧ P.info? f.type = some i ∧ i.size = n ∧ 0 < n
  | .other => True

structure ZOk (zs : List AV) (vs : List Value) : Prop where
  rep : ∀ (Z : SzF) (w : World) (Sf : Fl → Nat → Prop) (φ : Nat → Option Hd), RepXs Z w Sf φ zs vs []
  one : ∀ v ∈ vs, v.oneCell' = true

structure TIOk (P : Program) (t : TypeId) (i : TI) : Prop where
  info : ∃ inf z, P.info? t = some inf ∧ inf.zero = some z ∧ inf.size = i.size ∧ inf.bytes = i.bytes ∧ ZOk i.zero z.cells.toList ∧ i.zero.length = i.size
  pos : 0 < i.size
  d : dOk P t i.d
def TOk (P : Program) (T : TT) : Prop := ∀ t i, T.get t = some i → TIOk P t i

theorem wp_value {P : Program} {o : Oper} {a : Act} {w w' : World} {v : Value} {K : Act → World → Prop} {Q : Exit → Act → World → Prop}
    (hr : (execOp a.eval o).run P w = .ok (.value v) w') (h : K (a.put o.dst v) w') : o.wp P a w K Q := by
  unfold Oper.wp; rw [hr]; exact h
theorem wp_skipv {P : Program} {o : Oper} {a : Act} {w w' : World} {K : Act → World → Prop} {Q : Exit → Act → World → Prop}
    (hr : (execOp a.eval o).run P w = .ok .skip w') (h : K (a.put o.dst undef) w') : o.wp P a w K Q := by
  unfold Oper.wp; rw [hr]; exact h

section
variable {c : Cx} {st st' : St} {a : Act} {w w' : World} {φ : Nat → Option Hd} {fp : Nat → List Nat} {o : Oper} {K : Act → World → Prop} {Q : Exit → Act → World → Prop}

theorem wp_move {x : Operand} (ho : o.op = .move x) (h : RelX c st a w φ fp) (hK : ∀ a' w', Rel c (st.put o.dst (evo st x)) a' w' → K a' w') : o.wp c.P a w K Q :=
  wp_value (v := a.eval x) (by simp [execOp, ho]) (hK _ _ ⟨φ, fp, h.put _ (h.ev x)⟩)
theorem wp_assign {x : Operand} (ho : o.op = .assign x) (h : RelX c st a w φ fp) (hK : ∀ a' w', Rel c (st.put o.dst (evo st x)) a' w' → K a' w') : o.wp c.P a w K Q :=
  wp_value (v := a.eval x) (by simp [execOp, ho]) (hK _ _ ⟨φ, fp, h.put _ (h.ev x)⟩)

theorem repX_sc {Z : SzF} {Sf : Fl → Nat → Prop} {v u : Value} {F : List Nat} (h : RepX Z w Sf φ (.sc v) u F) : u = v ∧ F = [] ∧ v.oneCell' = true := by
  cases h with | sc h => exact ⟨rfl, rfl, h⟩
/-- what an operand is, where it is known -/
theorem RelX.scv (h : RelX c st a w φ fp) {x : Operand} {v : Value} (hx : AM.evo st x = AV.sc v) : a.eval x = v := by
  have := h.ev x; rw [hx] at this; exact (repX_sc this).1

theorem wp_pick {x y z : Operand} {b : Bool} (ho : o.op = .pick x y z) (h : RelX c st a w φ fp) (hb : evo st x = .sc (.bool b))
    (hK : ∀ a' w', Rel c (st.put o.dst (if b then evo st y else evo st z)) a' w' → K a' w') : o.wp c.P a w K Q := by
  refine wp_value (v := if b then a.eval y else a.eval z) ?_ (hK _ _ ⟨φ, fp, h.put _ ?_⟩)
  · simp only [execOp, ho, h.scv hb]; cases b <;> simp [asBool]
  · cases b
    · exact h.ev z
    · exact h.ev y

theorem putAt_length (l : List AV) (j : Nat) (vs : List AV) : (putAt l j vs).length = l.length := by
  induction vs generalizing l j with
  | nil => rfl
  | cons v vs ih => simp [putAt, ih]

/-! ### allocation -/
theorem RelX.new (hG : c.Good) (h : RelX c st a w φ fp) (E : TypeId) (bx : Bool) (xs : List (List AV)) (cur : Array Value) (cap : Nat) (d : Option Tmp)
    (h1 : xs.length ≤ cap) (h2 : cap ≤ maxLen) (h3 : ∀ c' ∈ xs, c'.length = c.T.Z E) (h4 : cap * c.T.Z E ≤ cur.size) (h5 : ∀ v ∈ cur.toList, v.oneCell' = true)
    (h6 : RepXs c.T.Z w (c.Sf w φ) (if bx then φ else noφ) xs.flatten (cur.toList.take (xs.length * c.T.Z E)) []) :
    ∃ φ' fp', RelX c { st with hp := (st.nx, ⟨E, bx, xs⟩) :: st.hp, nx := st.nx + 1 } a (w.alloc (.cells cur E)) φ' fp' ∧ φ' st.nx = some ⟨E, xs.length, some (w.heap.size, 0, cap)⟩ := by
  have hn := h.dead st.nx (h.fresh st.nx (Nat.le_refl _))
  have hoth : ∀ b, b < w.heap.size → (w.alloc (.cells cur E)).heap[b]? = w.heap[b]? := fun b hb => heap_alloc_old w _ hb
  have hup : ∀ id hd, φ id = some hd → upd φ st.nx (some ⟨E, xs.length, some (w.heap.size, 0, cap)⟩) id = some hd := by
    intro id hd hh
    by_cases e : id = st.nx
    · rw [e, hn.1] at hh; cases hh
    · simpa [upd, e] using hh
  have hS : ∀ fl b, c.Sf w φ fl b → c.Sf (w.alloc (.cells cur E)) (upd φ st.nx (some ⟨E, xs.length, some (w.heap.size, 0, cap)⟩)) fl b ∧ (w.alloc (.cells cur E)).heap[b]? = w.heap[b]? :=
    fun fl b hb => ⟨Cx.Sf_mono (by simp) (fun id hd b' h1' h2' => by
      by_cases e : id = st.nx
      · simp [upd, e] at h1'; subst h1'; simp [Hd.blk] at h2'; exact .inr (by omega)
      · simp [upd, e] at h1'; exact .inl ⟨id, hd, h1', h2'⟩) hb, hoth b (h.slt hG hb)⟩
  refine ⟨upd φ st.nx (some ⟨E, xs.length, some (w.heap.size, 0, cap)⟩), upd fp st.nx [w.heap.size], ?_, by simp [upd]⟩
  refine h.turn hG (fun _ => false) st.nx ⟨E, bx, xs⟩ ⟨E, xs.length, some (w.heap.size, 0, cap)⟩ [w.heap.size] (by simp) rfl rfl rfl (fun b hb _ => hoth b hb) (fun b hb => ?_) ?_ ⟨by simp [hget], by simp [upd], by simp [upd]⟩
    (fun i _ hk => by cases hk) (fun i hi _ => ⟨by simp [upd, hi], by simp [upd, hi], ?_⟩) (Nat.le_succ _) (Nat.lt_succ_self _) rfl (fun i hi => ⟨fun _ => rfl, fun e => ?_⟩) (by simp) (fun b hb => ?_) ?_
  · simp [Hd.blk] at hb; exact .inr (by omega)
  · exact h.tm.mono hup (fun _ _ hb => ⟨hb, rfl⟩) (by simp)
  · cases hr : hget st.hp i with
    | none => exact .inl ⟨rfl, by simp [hget, hi, hr]⟩
    | some r =>
      refine .inr ⟨r, r, rfl, by simp [hget, hi, hr], fun hd hrr => hrr.mono ?_ (fun _ _ hb => ⟨hb, rfl⟩) (fun _ _ => rfl)⟩
      intro id hd' hh
      unfold rφ at hh ⊢
      split
      · rename_i hb; rw [if_pos hb] at hh; exact hup _ _ hh
      · rename_i hb; rw [if_neg hb] at hh; cases hh
  · have := h.kpn; omega
  · simp at hb; subst hb; exact ⟨by simp, .inr (Nat.le_refl _)⟩
  · refine ⟨rfl, rfl, cur, [], heap_alloc_new w _, h1, h2, h3, by simpa using h4, h5, ?_, rfl⟩
    refine h6.mono ?_ hS (by simp)
    intro id hd' hh
    unfold rφ
    cases bx
    · cases hh
    · exact hup _ _ hh


theorem TOk.z {P : Program} {T : TT} (hT : TOk P T) {t : TypeId} {i : TI} (h : T.get t = some i) : T.Z t = i.size := by simp [TT.Z, h]
theorem run_zeroV {P : Program} {t : TypeId} {inf : TypeInfo} {z : Value} (hi : P.info? t = some inf) (hz : inf.zero = some z) (w : World) : (zeroValue t).run P w = .ok z w := by
  simp [zeroValue, typeInfo, hi, hz]
theorem run_sizeO {P : Program} {t : TypeId} {inf : TypeInfo} (hi : P.info? t = some inf) (w : World) : (sizeOf t).run P w = .ok inf.size w := by
  simp [sizeOf, typeInfo, hi]

theorem wp_alloc {E : TypeId} {i : TI} (ho : o.op = .alloc E) (hT : TOk c.P c.T) (hG : c.Good) (h : RelX c st a w φ fp) (hi : c.T.get E = some i)
    (hK : ∀ a' w', Rel c { (st.put o.dst (.pt st.nx 0 0)) with hp := (st.nx, ⟨E, true, [i.zero]⟩) :: st.hp, nx := st.nx + 1 } a' w' → K a' w') : o.wp c.P a w K Q := by
  obtain ⟨⟨inf, z, q1, q2, q3, q4, q5, q6⟩, hp, _⟩ := hT E i hi
  have hZ := hT.z hi
  have hlen : z.cells.size = i.size := by have := (q5.rep c.T.Z w (c.Sf w φ) φ).length; simp at this; omega
  obtain ⟨φ', fp', hr, hφ⟩ := h.new hG E true [i.zero] z.cells 1 o.dst (by simp) (by simp [maxLen]) (by simp [hZ, q6]) (by simp [hZ, hlen]) q5.one
    (by simp only [List.flatten_cons, List.flatten_nil, List.append_nil, List.length_singleton, Nat.one_mul, if_true, hZ]
        rw [List.take_of_length_le (by simp [hlen])]; exact q5.rep _ _ _ _)
  refine wp_value (w' := w.alloc (.cells z.cells E)) (v := .pointer (some ⟨w.heap.size, 0, none⟩)) ?_ (hK _ _ ⟨φ', fp', ?_⟩)
  · simp [execOp, ho, Instr.alloc, run_zeroV q1 q2, newVar, newRow]
  · have := hr.put o.dst (x := .pt st.nx 0 0) (v := .pointer (some ⟨w.heap.size, 0, none⟩)) (by simpa using RepX.pt (i := 0) (j := 0) hφ)
    cases hd : o.dst <;> rw [hd] at this <;> exact this

/-- the cells of a value -/
theorem RepX.cells {Z : SzF} {Sf : Fl → Nat → Prop} {x : AV} {v : Value} {F : List Nat} (h : RepX Z w Sf φ x v F) (h1 : x.cells.all leafB = true) :
    RepXs Z w Sf φ x.cells v.cells.toList F ∧ ∀ u ∈ v.cells.toList, u.oneCell' = true := by
  have single : ∀ {x : AV} {v : Value} {F : List Nat}, RepX Z w Sf φ x v F → v.oneCell' = true → x.cells = [x] → RepXs Z w Sf φ x.cells v.cells.toList F ∧ ∀ u ∈ v.cells.toList, u.oneCell' = true := by
    intro x v F h hv hx
    have e : v.cells.toList = [v] := by cases v <;> first | rfl | (simp [Value.oneCell'] at hv)
    rw [hx, e]
    exact ⟨by simpa using RepXs.cons h .nil, by simpa using hv⟩
  cases h with
  | agg hs hv => exact ⟨by simpa [AV.cells, Value.cells] using hs, by simpa [Value.cells] using hv⟩
  | sc h => exact single (.sc h) h rfl
  | nl => exact single .nl rfl rfl
  | ud => simp [AV.cells, leafB] at h1
  | un => simp [AV.cells, leafB] at h1
  | uc h => exact single (.uc h) h rfl
  | tup hs => simp [AV.cells, leafB] at h1
  | own0 => exact single .own0 rfl rfl
  | own a1 a2 a3 a4 a5 a6 a7 => exact single (.own a1 a2 a3 a4 a5 a6 a7) rfl rfl
  | va h => exact single (.va h) (by cases h <;> rfl) rfl
  | vn h => exact single (.vn h) (by cases h <;> rfl) rfl
  | vp h => exact single (.vp h) (by cases h <;> rfl) rfl
  | rf k1 h2 => exact single (.rf k1 h2) h2.one rfl
  | pt k1 => exact single (.pt k1) rfl rfl
  | fn h => exact single (.fn h) rfl rfl

theorem wp_box {E : TypeId} {i : TI} {x : Operand} (ho : o.op = .box E x) (hT : TOk c.P c.T) (hG : c.Good) (h : RelX c st a w φ fp) (hi : c.T.get E = some i)
    (hl : (evo st x).cells.length = i.size) (hb : (evo st x).cells.all leafB = true)
    (hK : ∀ a' w', Rel c { (st.put o.dst (.pt st.nx 0 0)) with hp := (st.nx, ⟨E, true, [(evo st x).cells]⟩) :: st.hp, nx := st.nx + 1 } a' w' → K a' w') : o.wp c.P a w K Q := by
  have hZ := hT.z hi
  obtain ⟨k1, k2⟩ := (h.ev x).cells hb
  have hlen : (a.eval x).cells.size = i.size := by have := k1.length; simp at this; omega
  obtain ⟨φ', fp', hr, hφ⟩ := h.new hG E true [(evo st x).cells] (a.eval x).cells 1 o.dst (by simp) (by simp [maxLen]) (by simp [hZ, hl]) (by simp [hZ, hlen]) k2
    (by simp only [List.flatten_cons, List.flatten_nil, List.append_nil, List.length_singleton, Nat.one_mul, if_true, hZ]
        rw [List.take_of_length_le (by simp [hlen])]; exact k1)
  refine wp_value (w' := w.alloc (.cells (a.eval x).cells E)) (v := .pointer (some ⟨w.heap.size, 0, none⟩)) ?_ (hK _ _ ⟨φ', fp', ?_⟩)
  · simp [execOp, ho, Instr.box, newVar, newRow]
  · have := hr.put o.dst (x := .pt st.nx 0 0) (v := .pointer (some ⟨w.heap.size, 0, none⟩)) (by simpa using RepX.pt (i := 0) (j := 0) hφ)
    cases hd : o.dst <;> rw [hd] at this <;> exact this

/-! ### field addresses, extraction, arithmetic -/
theorem wp_fieldAddr_pt {t : TypeId} {i : TI} {x : Operand} {f off sz id e j : Nat} (ho : o.op = .fieldAddr t x f) (hT : TOk c.P c.T) (h : RelX c st a w φ fp) (hi : c.T.get t = some i) (hf : fieldOff i f = some (off, sz))
    (hx : evo st x = .pt id e j) (hK : ∀ a' w', Rel c (st.put o.dst (.pt id e (j + off))) a' w' → K a' w') : o.wp c.P a w K Q := by
  have hv := h.ev x
  rw [hx] at hv
  generalize hval : a.eval x = v at hv
  cases hv with
  | @pt _ _ _ _ _ E g o' cap hφ =>
    obtain ⟨_, hp, hd⟩ := hT t i hi
    unfold fieldOff at hf
    split at hf
    · rename_i fs hfs
      rw [hfs] at hd
      obtain ⟨fields, u1, u2, u3⟩ := hd
      have hlt : f < fields.size := by
        have := (List.getElem?_eq_some_iff.1 hf).1; omega
      obtain ⟨n, inf, q1, q2, q3, q4⟩ := u3 f fields[f] (by simp [hlt])
      rw [hf] at q1
      cases q1
      refine wp_value (w' := w) (v := .pointer (some ⟨g, o' + e * c.T.Z E + (j + fields[f].offset), none⟩)) ?_ (hK _ _ ⟨φ, fp, h.put _ (.pt hφ)⟩)
      have hadd : (⟨g, o' + e * c.T.Z E + j, none⟩ : Addr).add fields[f].offset = ⟨g, o' + e * c.T.Z E + (j + fields[f].offset), none⟩ := by rw [Addr.add_mid, Nat.add_assoc]
      have hne : inf.size ≠ 0 := by omega
      simp [execOp, ho, hval, Instr.fieldAt, run_underlying u1, hlt, Instr.sureAddr, fieldPlace, run_sizeO q2, hne, hadd]
    · cases hf

theorem wp_fieldAddr_vp {t : TypeId} {i : TI} {x : Operand} {f off sz : Nat} {fl : Fl} {cs : List AV} (ho : o.op = .fieldAddr t x f) (hT : TOk c.P c.T) (h : RelX c st a w φ fp) (hi : c.T.get t = some i) (hf : fieldOff i f = some (off, sz))
    (hx : evo st x = .vp fl cs) (hl : off ≤ cs.length) (hK : ∀ a' w', Rel c (st.put o.dst (.vp fl (cs.drop off))) a' w' → K a' w') : o.wp c.P a w K Q := by
  have hv := h.ev x
  rw [hx] at hv
  generalize hval : a.eval x = v at hv
  cases hv with
  | vp hv =>
  cases hv with
  | @vp _ _ g o' E' cur fz hS hb hoo h1 hs =>
    obtain ⟨_, hp, hd⟩ := hT t i hi
    unfold fieldOff at hf
    split at hf
    · rename_i fs hfs
      rw [hfs] at hd
      obtain ⟨fields, u1, u2, u3⟩ := hd
      have hlt : f < fields.size := by
        have := (List.getElem?_eq_some_iff.1 hf).1; omega
      obtain ⟨n, inf, q1, q2, q3, q4⟩ := u3 f fields[f] (by simp [hlt])
      rw [hf] at q1
      cases q1
      refine wp_value (w' := w) (v := .pointer (some ⟨g, o' + fields[f].offset, none⟩)) ?_ (hK _ _ ⟨φ, fp, h.put _ (.vp (.vp hS hb ?_ (fun v hv => h1 v (sub_win (by simp at *; omega) hv)) ?_))⟩)
      · have hadd : (⟨g, o', none⟩ : Addr).add fields[f].offset = ⟨g, o' + fields[f].offset, none⟩ := by rw [Addr.add_mid]
        have hne : inf.size ≠ 0 := by omega
        simp [execOp, ho, hval, Instr.fieldAt, run_underlying u1, hlt, Instr.sureAddr, fieldPlace, run_sizeO q2, hne, hadd]
      · simp; omega
      · have := hs.drop fields[f].offset
        rw [List.drop_take, List.drop_drop] at this
        simpa using this
    · cases hf

theorem wp_extract {x : Operand} {n : Nat} {vs : List AV} {y : AV} (ho : o.op = .extract x n) (h : RelX c st a w φ fp) (hx : evo st x = .tup vs) (hy : vs[n]? = some y)
    (hK : ∀ a' w', Rel c (st.put o.dst y) a' w' → K a' w') : o.wp c.P a w K Q := by
  have hv := h.ev x
  rw [hx] at hv
  generalize hval : a.eval x = v at hv
  generalize hF : ([] : List Nat) = F at hv
  cases hv with
  | tup hs =>
    subst hF
    obtain ⟨u, hu, hxu⟩ := hs.get hy
    refine wp_value (w' := w) (v := u) ?_ (hK _ _ ⟨φ, fp, h.put _ hxu⟩)
    simp [execOp, ho, hval, Instr.extract, hu]

theorem wp_not {x : Operand} {t : TypeId} {b : Bool} (ho : o.op = .unOp .not t x) (h : RelX c st a w φ fp) (hx : evo st x = .sc (.bool b))
    (hK : ∀ a' w', Rel c (st.put o.dst (.sc (.bool (!b)))) a' w' → K a' w') : o.wp c.P a w K Q :=
  wp_value (w' := w) (v := .bool (!b)) (by simp [execOp, ho, h.scv hx, Op.unary]) (hK _ _ ⟨φ, fp, h.put _ (.sc rfl)⟩)
theorem wp_neg {x : Operand} {t : TypeId} {k : IntKind} {n : Int} (ho : o.op = .unOp .neg t x) (h : RelX c st a w φ fp) (hx : evo st x = .sc (.int k n))
    (hK : ∀ a' w', Rel c (st.put o.dst (.sc (.int k (k.wrap (0 - n))))) a' w' → K a' w') : o.wp c.P a w K Q :=
  wp_value (w' := w) (v := .int k (k.wrap (0 - n))) (by simp [execOp, ho, h.scv hx, Op.unary, Op.intArith]) (hK _ _ ⟨φ, fp, h.put _ (.sc rfl)⟩)

theorem run_ariI {P : Program} {op : BinOp} {k : IntKind} {x y : Int} {v : AV} {t : TypeId} (h : ariI op k x y = some v) : ∃ u, v = .sc u ∧ u.oneCell' = true ∧ (binOp op t (.int k x) (.int k y)).run P w = .ok u w := by
  cases op <;> simp only [ariI, bitI, cmpI, Option.map_some, Option.map_none] at h <;> first
    | (cases h; done)
    | (obtain rfl := Option.some.inj h; refine ⟨_, rfl, rfl, ?_⟩; simp [binOp, Op.intArith, Op.intBits, Op.intCmp]; done)
    | (split at h
       · cases h
       · rename_i hne; obtain rfl := Option.some.inj h; exact ⟨_, rfl, rfl, by simp [binOp, Op.intDiv, hne]⟩)

theorem run_eqGuard_int {P : Program} {op : BinOp} {k k' : IntKind} {x y : Operand} {m n : Int} {t : TypeId} : (eqGuard op t x y (.int k m) (.int k' n)).run P w = .ok () w := by
  unfold eqGuard; cases op <;> simp

theorem wp_binA {x y : Operand} {op : BinOp} {t u : TypeId} {v : AV} (ho : o.op = .binOp op t x y u) (h : RelX c st a w φ fp) (hv : binA op (evo st x) (evo st y) = some v)
    (hK : ∀ a' w', Rel c (st.put o.dst v) a' w' → K a' w') : o.wp c.P a w K Q := by
  unfold binA at hv
  split at hv
  · rename_i k p k' q hx hy
    split at hv
    · rename_i hk
      subst hk
      obtain ⟨r, rfl, hr1, hr2⟩ := run_ariI (P := c.P) (w := w) (t := t) hv
      refine wp_value (w' := w) (v := r) ?_ (hK _ _ ⟨φ, fp, h.put _ (.sc hr1)⟩)
      simp only [execOp, ho, h.scv hx, h.scv hy]
      simp [run_eqGuard_int, hr2]
    · cases hv
  · rename_i p q hx hy
    unfold strS at hv
    split at hv
    · obtain rfl := Option.some.inj hv
      refine wp_value (w' := w) (v := .bool (p.toList == q.toList)) ?_ (hK _ _ ⟨φ, fp, h.put _ (.sc rfl)⟩)
      simp [execOp, ho, h.scv hx, h.scv hy, eqGuard, binOp, Op.stringOp]
    · obtain rfl := Option.some.inj hv
      refine wp_value (w' := w) (v := .bool (!(p.toList == q.toList))) ?_ (hK _ _ ⟨φ, fp, h.put _ (.sc rfl)⟩)
      simp [execOp, ho, h.scv hx, h.scv hy, eqGuard, binOp, Op.stringOp]
    · split at hv
      · rename_i hle
        obtain rfl := Option.some.inj hv
        refine wp_value (w' := w) (v := .string (p ++ q)) ?_ (hK _ _ ⟨φ, fp, h.put _ (.sc rfl)⟩)
        have : (p.size : Int) + (q.size : Int) ≤ 9223372036854775807 := by omega
        simp [execOp, ho, h.scv hx, h.scv hy, eqGuard, binOp, Op.stringOp, this]
      · cases hv
    · cases hv
  · cases hv

theorem wp_binB {x y : Operand} {op : BinOp} {t u : TypeId} {v : AV} (ho : o.op = .binOp op t x y u) (hT : TOk c.P c.T) (h : RelX c st a w φ fp) (hv : binB c.T op t (evo st x) (evo st y) = some v)
    (hK : ∀ a' w', Rel c (st.put o.dst v) a' w' → K a' w') : o.wp c.P a w K Q := by
  unfold binB at hv
  split at hv
  · rename_i p q hx hy
    split at hv
    · rename_i i hi
      split at hv
      · rename_i hb
        have hu := (hT t i hi).d
        have hd : i.d = .bool := by cases hdd : i.d <;> simp_all [isB]
        rw [hd] at hu
        have hu' : c.P.underlying t = some .bool := hu
        have he : (Op.equal t (.bool p) (.bool q)).run c.P w = .ok (p == q) w := by
          rw [Op.equal, show Op.maxDepth = 9999 + 1 from rfl, Op.equalIn]
          simp [run_underlying hu']
        split at hv
        · obtain rfl := Option.some.inj hv
          refine wp_value (w' := w) (v := .bool (p == q)) ?_ (hK _ _ ⟨φ, fp, h.put _ (.sc rfl)⟩)
          simp [execOp, ho, h.scv hx, h.scv hy, eqGuard, binOp, he]
        · obtain rfl := Option.some.inj hv
          refine wp_value (w' := w) (v := .bool (!(p == q))) ?_ (hK _ _ ⟨φ, fp, h.put _ (.sc rfl)⟩)
          simp [execOp, ho, h.scv hx, h.scv hy, eqGuard, binOp, he]
        · cases hv
      · cases hv
    · cases hv
  · exact wp_binA ho h hv hK

/-! ### looking -/
theorem repX_ofW {Z : SzF} {Sf : Fl → Nat → Prop} {fl : Fl} {x : AV} {v : Value} (h : RepW Z w (Sf fl) x v) (hfl : ∃ g, Sf fl g) (h0 : ∀ g, ¬ Sf .o g) (h1 : v.oneCell' = true) : RepX Z w Sf φ (setFl fl x) v [] := by
  cases h with
  | sc h => exact .sc h
  | nl => exact .nl
  | ud => simp [undef, Value.oneCell'] at h1
  | un => exact .un
  | uc h => exact .uc h
  | agg => simp [Value.oneCell'] at h1
  | tup => simp [Value.oneCell'] at h1
  | ls0 =>
    cases fl with
    | o => obtain ⟨g, hg⟩ := hfl; exact absurd hg (h0 g)
    | a => exact .va .ls0
    | n => exact .vn .ls0
  | ls a1 a2 a3 a4 a5 a6 a7 a8 =>
    cases fl with
    | o => exact absurd a1 (h0 _)
    | a => exact .va (.ls a1 a2 a3 a4 a5 a6 a7 a8)
    | n => exact .vn (.ls a1 a2 a3 a4 a5 a6 a7 a8)
  | vp a1 a2 a3 a4 a5 => exact .vp (.vp a1 a2 a3 a4 a5)
  | fn => exact .uc rfl
theorem repXs_ofW {Z : SzF} {Sf : Fl → Nat → Prop} {fl : Fl} {xs : List AV} {vs : List Value} (h : RepWs Z w (Sf fl) xs vs) (hfl : ∃ g, Sf fl g) (h0 : ∀ g, ¬ Sf .o g) (h1 : ∀ v ∈ vs, v.oneCell' = true) :
    RepXs Z w Sf φ (setFls fl xs) vs [] := by
  induction xs generalizing vs with
  | nil => cases h; exact .nil
  | cons x xs ih =>
    cases h with
    | cons h hs => exact .cons0 (repX_ofW h hfl h0 (h1 _ (by simp))) (ih hs fun v hv => h1 v (by simp [hv]))

theorem run_load1 {P : Program} {t : TypeId} {d : TypeDesc} (hu : P.underlying t = some d) (hd : d.isRow = false) {ad : Addr} {v : Value} (hc : w.cell? ad = some v) :
    (Instr.loadAt t (.pointer (some ad))).run P w = .ok v w := by
  have hagg : (isAgg t).run P w = .ok false w := by
    unfold isAgg
    rw [Sem.run_bind, run_underlying hu w]
    cases d <;> simp_all
  simp [Instr.loadAt, Instr.sureAddr, loadVar, hagg, hc]

/-- a value out of cells that lie in a block -/
theorem run_loadT {P : Program} {t : TypeId} {i : TI} (hT : TIOk P t i) {g o' : Nat} {E' : TypeId} {cur : Array Value} {fz : Nat × Nat} (hb : w.heap[g]? = some (.cells cur E' fz)) (ho : o' + i.size ≤ cur.size)
    {cs : List AV} {x : AV} (hx : ldV i cs = some x) {Z : SzF} {Sf : Fl → Nat → Prop} (hr : RepXs Z w Sf φ cs ((cur.toList.drop o').take i.size) []) (h1 : ∀ v ∈ (cur.toList.drop o').take i.size, v.oneCell' = true) :
    ∃ v, (Instr.loadAt t (.pointer (some ⟨g, o', none⟩))).run P w = .ok v w ∧ RepX Z w Sf φ x v [] := by
  obtain ⟨⟨inf, z, q1, q2, q3, q4, q5, q6⟩, hp, hd⟩ := hT
  have hlen : ((cur.toList.drop o').take i.size).length = i.size := by simp; omega
  have hcell : ∀ j v, ((cur.toList.drop o').take i.size)[j]? = some v → w.cell? ⟨g, o' + j, none⟩ = some v := by
    intro j v hv
    rw [cell_of_row w g _ cur E' fz hb]
    rw [List.getElem?_take] at hv
    split at hv
    · rw [List.getElem?_drop] at hv; simpa using hv
    · cases hv
  have one : ∀ {d : TypeDesc}, P.underlying t = some d → d.isRow = false → cs = [x] → ∃ v, (Instr.loadAt t (.pointer (some ⟨g, o', none⟩))).run P w = .ok v w ∧ RepX Z w Sf φ x v [] := by
    intro d hu hdd hcs
    subst hcs
    generalize hvs : (cur.toList.drop o').take i.size = vs at hr hcell
    have hl2 := hr.length
    match vs, hl2 with
    | [v], _ => exact ⟨v, run_load1 hu hdd (by simpa using hcell 0 v rfl), hr.uncons.1⟩
  have single : ∀ {l : List AV}, (match l with | [x] => some x | _ => none) = some x → l = [x] := by
    intro l hl
    split at hl
    · cases hl; rfl
    · cases hl
  unfold ldV at hx
  cases hid : i.d with
  | struct fs =>
    rw [hid] at hx hd
    cases hx
    obtain ⟨fields, u1, u2, u3⟩ := hd
    refine ⟨.agg ((cur.toList.drop o').take i.size).toArray, run_loadAt_mid w g o' t _ _ hcell u1 rfl (by simp [q1, q3, hlen]), .agg hr ?_⟩
    intro v hv; exact h1 v (by simpa using hv)
  | other => rw [hid] at hx; cases hx
  | int k => rw [hid] at hx hd; exact one hd rfl (single hx)
  | bool => rw [hid] at hx hd; exact one hd rfl (single hx)
  | str => rw [hid] at hx hd; exact one hd rfl (single hx)
  | slice E => rw [hid] at hx hd; exact one hd rfl (single hx)
  | ptr E => rw [hid] at hx hd; exact one hd rfl (single hx)

theorem flatten_at {xs : List (List AV)} {z e : Nat} {cs : List AV} (hz : ∀ c ∈ xs, c.length = z) (he : xs[e]? = some cs) :
    xs.flatten = (xs.take e).flatten ++ (cs ++ (xs.drop (e + 1)).flatten) ∧ (xs.take e).flatten.length = e * z ∧ cs.length = z := by
  induction xs generalizing e with
  | nil => simp at he
  | cons x xs ih =>
    cases e with
    | zero => simp at he; subst he; exact ⟨by simp, by simp, hz x (by simp)⟩
    | succ e =>
      simp at he
      obtain ⟨h1, h2, h3⟩ := ih (fun c hc => hz c (by simp [hc])) he
      refine ⟨by simp [h1], ?_, h3⟩
      simp [h2, hz x (by simp), Nat.add_mul, Nat.add_comm]

theorem flatten_len {xs : List (List AV)} {z : Nat} (hz : ∀ c ∈ xs, c.length = z) : xs.flatten.length = xs.length * z := by
  induction xs with
  | nil => simp
  | cons x xs ih => simp [ih (fun c hc => hz c (by simp [hc])), hz x (by simp), Nat.add_mul, Nat.add_comm]

/-- what a row's own cells hold, looked at -/
theorem repXs_lds {Z : SzF} {ψ : Nat → Option Hd} {xs : List AV} {vs : List Value} {F : List Nat} (h : RepXs Z w (c.Sf w φ) ψ xs vs F) (hψ : ∀ id h, ψ id = some h → φ id = some h) (hF : ∀ b ∈ F, c.N w φ b)
    (h1 : ∀ v ∈ vs, v.oneCell' = true) : RepXs Z w (c.Sf w φ) φ (lds xs) vs [] := by
  induction xs generalizing vs F with
  | nil => cases h; exact .nil
  | cons x xs ih =>
    cases h with
    | cons h hs =>
      refine .cons0 ?_ (ih hs (fun b hb => hF b (by simp [hb])) fun v hv => h1 v (by simp [hv]))
      have h1' := h1 _ (List.mem_cons_self)
      have hF' : ∀ b, b ∈ _ → c.N w φ b := fun b hb => hF b (List.mem_append.2 (.inl hb))
      cases h with
      | sc h => exact .sc h
      | nl => exact .nl
      | ud => exact .ud
      | un => exact .un
      | uc h => exact .uc h
      | agg => simp [Value.oneCell'] at h1'
      | tup => simp [Value.oneCell'] at h1'
      | own0 => exact .vn .ls0
      | own hb hc hm hz ho a6 a7 =>
        refine .vn (.ls (.inl (hF' _ (by simp))) hb hc hm hz (Nat.le_trans (Nat.add_le_add_left (Nat.mul_le_mul_right _ hc) _) ho) (fun v hv => a6 v (sub_all hv)) (a7.view (S := c.Sf w φ .n) ?_ ?_))
        · intro fl b hb
          cases fl with
          | o => exact hb.elim
          | a => exact .inr hb
          | n => exact hb
        · intro b hb; exact .inl (hF' b (by simp [hb]))
      | va h => exact .va h
      | vn h => exact .vn h
      | vp h => exact .vp h
      | rf p h => exact .rf (hψ _ _ p) h
      | pt p => exact .pt (hψ _ _ p)
      | fn h => exact .uc rfl

/-- the nested blocks of a row are no row's own -/
theorem RelX.nest (h : RelX c st a w φ fp) {id g : Nat} {F : List Nat} (hf : fp id = g :: F) (hg : ∀ hd, φ id = some hd → hd.blk = some g) {b : Nat} (hb : b ∈ F) : c.N w φ b := by
  have hm : b ∈ fp id := by rw [hf]; simp [hb]
  refine ⟨(h.rng id b hm).1, (h.rng id b hm).2, fun id' hd hφ hbl => ?_⟩
  have h1 := h.blkfp hφ hbl
  have e := h.disj id' id b h1 hm
  subst e
  rw [hg hd hφ] at hbl
  cases hbl
  have := h.nod id'
  rw [hf] at this
  exact (List.nodup_cons.1 this).1 hb

theorem rφ_le {r : Row} {φ : Nat → Option Hd} : ∀ id h, rφ r φ id = some h → φ id = some h := by
  intro id h hh
  unfold rφ at hh
  split at hh
  · exact hh
  · cases hh

/-- the part of a row at an element's cells -/
theorem RowRep.at_ {Z : SzF} {Sf : Fl → Nat → Prop} {ψ : Nat → Option Hd} {r : Row} {hd : Hd} {F : List Nat} (h : RowRep Z w Sf ψ r hd F) {g o' cap : Nat} (hl : hd.loc = some (g, o', cap)) {e : Nat} {cs : List AV} (he : r.xs[e]? = some cs) :
    ∃ cur Fa Fb Fc, w.heap[g]? = some (.cells cur r.E (0, 0)) ∧ (∀ v ∈ cur.toList, v.oneCell' = true) ∧ cs.length = Z r.E ∧ o' + e * Z r.E + Z r.E ≤ cur.size ∧
      F = g :: (Fa ++ Fb ++ Fc) ∧ RepXs Z w Sf ψ cs ((cur.toList.drop (o' + e * Z r.E)).take (Z r.E)) Fb := by
  obtain ⟨hE, hn, h⟩ := h
  rw [hl] at h
  obtain ⟨cur, F', hb, h1, h2, h3, h4, h5, h6, rfl⟩ := h
  obtain ⟨k1, k2, k3⟩ := flatten_at h3 he
  have hlt : e < r.xs.length := (List.getElem?_eq_some_iff.1 he).1
  have hle : (e + 1) * Z r.E ≤ r.xs.length * Z r.E := Nat.mul_le_mul_right _ hlt
  have hle2 : r.xs.length * Z r.E ≤ cap * Z r.E := Nat.mul_le_mul_right _ h1
  rw [Nat.add_mul, Nat.one_mul] at hle
  rw [k1] at h6
  obtain ⟨Fa, F2, rfl, p1, p2⟩ := h6.split
  obtain ⟨Fb, Fc, rfl, p3, p4⟩ := p2.split
  refine ⟨cur, Fa, Fb, Fc, hb, h5, k3, by omega, by rw [List.append_assoc], ?_⟩
  rw [k2, k3] at p3
  rw [List.drop_take, List.take_take, List.drop_drop] at p3
  rwa [Nat.min_eq_left (by omega)] at p3

theorem lds_take (l : List AV) (n : Nat) : lds (l.take n) = (lds l).take n := by
  induction l generalizing n with
  | nil => simp [lds]
  | cons x l ih => cases n <;> simp [lds, ih]
theorem lds_drop (l : List AV) (n : Nat) : lds (l.drop n) = (lds l).drop n := by
  induction l generalizing n with
  | nil => simp [lds]
  | cons x l ih => cases n <;> simp [lds, ih]
theorem setFls_take (fl : Fl) (l : List AV) (n : Nat) : setFls fl (l.take n) = (setFls fl l).take n := by
  induction l generalizing n with
  | nil => simp [setFls]
  | cons x l ih => cases n <;> simp [setFls, ih]
theorem RepXs.take0 {Z : SzF} {Sf : Fl → Nat → Prop} {xs : List AV} {vs : List Value} (h : RepXs Z w Sf φ xs vs []) (n : Nat) : RepXs Z w Sf φ (xs.take n) (vs.take n) [] := by
  induction n generalizing xs vs with
  | zero => simpa using RepXs.nil
  | succ n ih =>
    cases xs with
    | nil => cases h; simpa using RepXs.nil
    | cons x xs =>
      cases vs with
      | nil => have := h.length; simp at this
      | cons v vs => obtain ⟨h1, h2⟩ := h.uncons; simpa using RepXs.cons0 h1 (ih h2)
theorem RepXs.drop0 {Z : SzF} {Sf : Fl → Nat → Prop} {xs : List AV} {vs : List Value} (h : RepXs Z w Sf φ xs vs []) (n : Nat) : RepXs Z w Sf φ (xs.drop n) (vs.drop n) [] := by
  induction n generalizing xs vs with
  | zero => exact h
  | succ n ih =>
    cases xs with
    | nil => cases h; simpa using RepXs.nil
    | cons x xs =>
      cases vs with
      | nil => have := h.length; simp at this
      | cons v vs => obtain ⟨h1, h2⟩ := h.uncons; simpa using ih h2

theorem evLoad_run {t : TypeId} {x v : AV} {u : Value} (hT : TOk c.P c.T) (h : RelX c st a w φ fp) (hx : RepX c.T.Z w (c.Sf w φ) φ x u []) (hv : evLoad c.T st t x = some v) :
    ∃ ad y, u = .pointer (some ad) ∧ (Instr.loadAt t (.pointer (some ad))).run c.P w = .ok y w ∧ RepX c.T.Z w (c.Sf w φ) φ v y [] := by
  unfold evLoad at hv
  split at hv
  · rename_i i hi
    have hTi := hT t i hi
    split at hv
    · rename_i fl cs
      split at hv
      · rename_i hle
        cases hx with
        | vp hx =>
        cases hx with
        | @vp _ _ g o' E' cur fz hS hb hoo h1 hs =>
          have hr := hs.take i.size
          rw [List.take_take, Nat.min_eq_left hle] at hr
          have hr2 := repXs_ofW (φ := φ) hr ⟨g, hS⟩ (fun _ h => h) (fun v hv => h1 v (sub_win0 hle hv))
          obtain ⟨y, k1, k2⟩ := run_loadT hTi hb (by omega) hv hr2 (fun v hv => h1 v (sub_win0 hle hv))
          exact ⟨_, y, rfl, k1, k2⟩
      · cases hv
    · rename_i id e j
      split at hv
      · rename_i r hr
        split at hv
        · rename_i cs hce
          split at hv
          · rename_i hle
            cases hx with
            | @pt _ _ _ _ _ E g o' cap hφ =>
              obtain ⟨hd, q1, q2⟩ := h.rows id r hr
              rw [hφ] at q1
              cases q1
              have hE : E = r.E := q2.1
              subst hE
              obtain ⟨cur, Fa, Fb, Fc, hb, h1, hcl, hsz, hF, hrep⟩ := q2.at_ rfl hce
              have hld := repXs_lds (c := c) (φ := φ) hrep rφ_le (fun b hb => h.nest hF (by intro hd hh; rw [hφ] at hh; cases hh; rfl) (by simp [hb])) (fun v hv => h1 v (List.mem_of_mem_drop (List.mem_of_mem_take hv)))
              have hld2 := (hld.drop0 j).take0 i.size
              rw [List.drop_take, List.take_take, List.drop_drop, Nat.min_eq_left (by omega), ← lds_drop, ← lds_take] at hld2
              obtain ⟨y, k1, k2⟩ := run_loadT hTi hb (by omega) hv hld2 (fun v hv => h1 v (sub_all hv))
              exact ⟨_, y, rfl, k1, k2⟩
          · cases hv
        · cases hv
      · cases hv
    · cases hv
  · cases hv

theorem wp_load {t : TypeId} {x : Operand} {v : AV} (ho : o.op = .load t x) (hT : TOk c.P c.T) (h : RelX c st a w φ fp) (hv : evLoad c.T st t (evo st x) = some v)
    (hK : ∀ a' w', Rel c (st.put o.dst v) a' w' → K a' w') : o.wp c.P a w K Q := by
  obtain ⟨ad, y, e, k1, k2⟩ := evLoad_run hT h (h.ev x) hv
  refine wp_value (w' := w) (v := y) ?_ (hK _ _ ⟨φ, fp, h.put _ k2⟩)
  simp [execOp, ho, e, k1]

end
end Go.Proofs.AM
