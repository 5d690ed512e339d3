/- A part of the proof: the walk of functions of the program, or the rules of the walk. -/
import Derived.Test.YthilnfccfjcgfaaGreatAmCall2
import Derived.Test.YthilnfccfjcgfaaGreatAmData
import Derived.Orders
set_option linter.unusedSimpArgs false
set_option linter.unusedVariables false
namespace Go.Proofs.AM
open Go

/-! ### operations that only look -/
def pureOp : Op → Bool
  | .move _ => true
  | .assign _ => true
  | .pick _ _ _ => true
  | .build _ _ => true
  | .load _ _ => true
  | .fieldAddr _ _ _ => true
  | .indexAddr _ _ _ => true
  | .index _ _ _ => true
  | .slice _ _ _ _ _ => true
  | .binOp _ _ _ _ _ => true
  | .unOp _ _ _ => true
  | .extract _ _ => true
  | .call { callee := .builtin .len, .. } => true
  | .call { callee := .builtin .max, .. } => true
  | .call { callee := .builtin .min, .. } => true
  | _ => false

def ExtH (st st2 : St) : Prop := ∀ id r, hget st.hp id = some r → hget st2.hp id = some r

theorem evLoad_ext {T : TT} {st st2 : St} {t : TypeId} {x v : AV} (hx : ExtH st st2) (h : evLoad T st t x = some v) : evLoad T st2 t x = some v := by
  unfold evLoad at h ⊢
  split at h
  · rename_i i hi
    split at h
    · exact h
    · rename_i id e j
      split at h
      · rename_i r hr
        simp only [hx id r hr]
        exact h
      · cases h
    · cases h
  · cases h
theorem bndA_ext {st st2 : St} {l : Option Operand} {d : Nat} (h : ∀ x ∈ l, evo st2 x = evo st x) : bndA st2 l d = bndA st l d := by
  cases l with
  | none => rfl
  | some x => simp only [bndA, h x rfl]
theorem cutA_ext {st st2 : St} {E : TypeId} {l hh : Nat} {x v : AV} (hx : ExtH st st2) (h : cutA st E l hh x = some v) : cutA st2 E l hh x = some v := by
  unfold cutA at h ⊢
  split at h
  · exact h
  · exact h
  · rename_i id off len
    split at h
    · rename_i r hr; simp only [hx id r hr]; exact h
    · cases h
  · cases h
theorem evSlice_ext {T : TT} {st st2 : St} {t : TypeId} {x v : AV} {lo hi mx : Option Operand} (hx : ExtH st st2) (h1 : ∀ y ∈ lo, evo st2 y = evo st y) (h2 : ∀ y ∈ hi, evo st2 y = evo st y) (h3 : ∀ y ∈ mx, evo st2 y = evo st y)
    (h : evSlice T st t x lo hi mx = some v) : evSlice T st2 t x lo hi mx = some v := by
  unfold evSlice at h ⊢
  simp only [bndA_ext h1, bndA_ext h2]
  split at h
  · rename_i i hi'
    split at h
    · rename_i E hE
      split at h
      · cases h
      · rename_i hn
        rw [if_neg hn]
        split at h
        · rename_i hs
          rw [if_pos hs]
          split at h
          · split at h
            · rename_i l hh e1 e2
              exact cutA_ext hx h
            · cases h
          · rename_i m
            have : bndA st2 (some m) 1 = bndA st (some m) 1 := bndA_ext h3
            simp only [this]
            exact h
        · cases h
    · exact h
    · cases h
  · cases h

theorem opEval_local {T : TT} {st st' : St} {o : Oper} (hp : pureOp o.op = true) (h : opEval T st o = some st') :
    ∃ v, st' = st.put o.dst v ∧ ∀ st2, (∀ x ∈ o.op.operands.toList, evo st2 x = evo st x) → ExtH st st2 → opEval T st2 o = some (st2.put o.dst v) := by
  unfold opEval at h
  split at h
  · rename_i x ho
    obtain rfl := Option.some.inj h
    exact ⟨_, rfl, fun st2 h1 h2 => by unfold opEval; simp only [ho, h1 x (by simp [ho, Op.operands])]⟩
  · rename_i x ho
    obtain rfl := Option.some.inj h
    exact ⟨_, rfl, fun st2 h1 h2 => by unfold opEval; simp only [ho, h1 x (by simp [ho, Op.operands])]⟩
  · rename_i x y z ho
    split at h
    · rename_i hb
      obtain rfl := Option.some.inj h
      exact ⟨_, rfl, fun st2 h1 h2 => by unfold opEval; simp only [ho, h1 x (by simp [ho, Op.operands]), h1 y (by simp [ho, Op.operands]), h1 z (by simp [ho, Op.operands]), hb]⟩
    · rename_i hb
      obtain rfl := Option.some.inj h
      exact ⟨_, rfl, fun st2 h1 h2 => by unfold opEval; simp only [ho, h1 x (by simp [ho, Op.operands]), h1 y (by simp [ho, Op.operands]), h1 z (by simp [ho, Op.operands]), hb]⟩
    · cases h
  · rename_i E ho; rw [ho] at hp; cases hp
  · rename_i E x ho; rw [ho] at hp; cases hp
  · rename_i t parts ho
    split at h
    · rename_i i hi
      split at h
      · rename_i fs hd
        split at h
        · rename_i cs hf
          obtain rfl := Option.some.inj h
          refine ⟨_, rfl, fun st2 h1 h2 => ?_⟩
          have e : (parts.toList.map fun p => (p.1, evo st2 p.2)) = (parts.toList.map fun p => (p.1, evo st p.2)) := by
            refine List.map_congr_left fun p hp => ?_
            rw [h1 p.2 (by simp only [ho, Op.operands, List.mem_map]; exact ⟨p, hp, rfl⟩)]
          unfold opEval
          simp only [ho, hi, hd, e, hf]
        · cases h
      · cases h
    · cases h
  · rename_i ho; rw [ho] at hp; cases hp
  · rename_i ho; rw [ho] at hp; cases hp
  · rename_i t x ho
    split at h
    · rename_i v hv
      obtain rfl := Option.some.inj h
      exact ⟨_, rfl, fun st2 h1 h2 => by unfold opEval; simp only [ho, h1 x (by simp [ho, Op.operands]), evLoad_ext h2 hv]⟩
    · cases h
  · rename_i ho; rw [ho] at hp; cases hp
  · rename_i t x f ho
    split at h
    · rename_i i hi
      split at h
      · rename_i off sz hf
        split at h
        · rename_i id e j hx
          obtain rfl := Option.some.inj h
          exact ⟨_, rfl, fun st2 h1 h2 => by unfold opEval; simp only [ho, h1 x (by simp [ho, Op.operands]), hi, hf, hx]⟩
        · rename_i fl cs hx
          split at h
          · rename_i hl
            obtain rfl := Option.some.inj h
            exact ⟨_, rfl, fun st2 h1 h2 => by unfold opEval; simp only [ho, h1 x (by simp [ho, Op.operands]), hi, hf, hx, if_pos hl]⟩
          · cases h
        · cases h
      · cases h
    · cases h
  · rename_i t x ix ho
    split at h
    · rename_i i hi
      split at h
      · rename_i E hd
        split at h
        · rename_i ie hie
          split at h
          · rename_i k n hix
            split at h
            · rename_i fl E' xs hx
              split at h
              · rename_i hb
                split at h
                · rename_i y hy
                  obtain rfl := Option.some.inj h
                  exact ⟨_, rfl, fun st2 h1 h2 => by unfold opEval; simp only [ho, h1 x (by simp [ho, Op.operands]), h1 ix (by simp [ho, Op.operands]), hi, hd, hie, hix, hx, if_pos hb, hy]⟩
                · cases h
              · cases h
            · rename_i id off len hx
              split at h
              · rename_i hb
                split at h
                · rename_i r hr
                  split at h
                  · rename_i hrE
                    obtain rfl := Option.some.inj h
                    exact ⟨_, rfl, fun st2 h1 h2 => by unfold opEval; simp only [ho, h1 x (by simp [ho, Op.operands]), h1 ix (by simp [ho, Op.operands]), hi, hd, hie, hix, hx, if_pos hb, h2 id r hr, if_pos hrE]⟩
                  · cases h
                · cases h
              · cases h
            · cases h
          · cases h
        · cases h
      · cases h
    · cases h
  · rename_i t x ix ho
    split at h
    · rename_i i hi
      split at h
      · rename_i hd
        split at h
        · rename_i k n hix
          split at h
          · rename_i s hx
            split at h
            · rename_i h0
              split at h
              · rename_i b hb
                obtain rfl := Option.some.inj h
                exact ⟨_, rfl, fun st2 h1 h2 => by unfold opEval; simp only [ho, h1 x (by simp [ho, Op.operands]), h1 ix (by simp [ho, Op.operands]), hi, hd, hix, hx, if_pos h0, hb]⟩
              · cases h
            · cases h
          · cases h
        · cases h
      · cases h
    · cases h
  · rename_i t x lo hi mx ho
    split at h
    · rename_i v hv
      obtain rfl := Option.some.inj h
      refine ⟨_, rfl, fun st2 h1 h2 => ?_⟩
      unfold opEval
      simp only [ho, h1 x (by simp [ho, Op.operands])]
      rw [evSlice_ext h2 (fun y hy => h1 y ?_) (fun y hy => h1 y ?_) (fun y hy => h1 y ?_) hv]
      · obtain rfl := Option.mem_def.1 hy; simp [ho, Op.operands]
      · obtain rfl := Option.mem_def.1 hy; simp [ho, Op.operands]
      · obtain rfl := Option.mem_def.1 hy; simp [ho, Op.operands]
    · cases h
  · rename_i op t x y u ho
    split at h
    · rename_i v hv
      obtain rfl := Option.some.inj h
      exact ⟨_, rfl, fun st2 h1 h2 => by unfold opEval; simp only [ho, h1 x (by simp [ho, Op.operands]), h1 y (by simp [ho, Op.operands]), hv]⟩
    · cases h
  · rename_i t x ho
    split at h
    · rename_i b hx
      obtain rfl := Option.some.inj h
      exact ⟨_, rfl, fun st2 h1 h2 => by unfold opEval; simp only [ho, h1 x (by simp [ho, Op.operands]), hx]⟩
    · cases h
  · rename_i t x ho
    split at h
    · rename_i k n hx
      obtain rfl := Option.some.inj h
      exact ⟨_, rfl, fun st2 h1 h2 => by unfold opEval; simp only [ho, h1 x (by simp [ho, Op.operands]), hx]⟩
    · cases h
  · rename_i x n ho
    split at h
    · rename_i vs hx
      split at h
      · rename_i y hy
        obtain rfl := Option.some.inj h
        exact ⟨_, rfl, fun st2 h1 h2 => by unfold opEval; simp only [ho, h1 x (by simp [ho, Op.operands]), hx, hy]⟩
      · cases h
    · cases h
  · rename_i as ts ho
    split at h
    · rename_i x t ha ht
      have hm : x ∈ o.op.operands.toList := by simp [ho, Op.operands, Call.operands, ha]
      split at h
      · rename_i i hi
        split at h
        · rename_i E hd
          split at h
          · rename_i n hl
            obtain rfl := Option.some.inj h
            exact ⟨_, rfl, fun st2 h1 h2 => by unfold opEval; simp only [ho, ha, ht, hi, hd, h1 x hm, hl]⟩
          · cases h
        · rename_i hd
          split at h
          · rename_i s hl
            obtain rfl := Option.some.inj h
            exact ⟨_, rfl, fun st2 h1 h2 => by unfold opEval; simp only [ho, ha, ht, hi, hd, h1 x hm, hl]⟩
          · cases h
        · cases h
      · cases h
    · cases h
  · rename_i ho; rw [ho] at hp; cases hp
  · rename_i as ts ho
    split at h
    · rename_i x y ha
      have hm : x ∈ o.op.operands.toList := by simp [ho, Op.operands, Call.operands, ha]
      have hm2 : y ∈ o.op.operands.toList := by simp [ho, Op.operands, Call.operands, ha]
      split at h
      · rename_i k p k' q hx hy
        split at h
        · rename_i e
          obtain rfl := Option.some.inj h
          exact ⟨_, rfl, fun st2 h1 h2 => by unfold opEval; simp only [ho, ha, h1 x hm, h1 y hm2, hx, hy, if_pos e]⟩
        · cases h
      · cases h
    · cases h
  · rename_i as ts ho
    split at h
    · rename_i x y ha
      have hm : x ∈ o.op.operands.toList := by simp [ho, Op.operands, Call.operands, ha]
      have hm2 : y ∈ o.op.operands.toList := by simp [ho, Op.operands, Call.operands, ha]
      split at h
      · rename_i k p k' q hx hy
        split at h
        · rename_i e
          obtain rfl := Option.some.inj h
          exact ⟨_, rfl, fun st2 h1 h2 => by unfold opEval; simp only [ho, ha, h1 x hm, h1 y hm2, hx, hy, if_pos e]⟩
        · cases h
      · cases h
    · cases h
  · cases h

/-! ### regions whose order is drawn -/
structure AgreeAt (all : Array Oper) (o : Oper) (st st2 : St) : Prop where
  len : st2.tm.length = st.tm.length
  kp : st2.kp = st.kp
  at_ : ∀ t ∈ o.looksAt all, tmGet st2.tm t = tmGet st.tm t

section
variable {all : Array Oper} {o : Oper} {st st2 st3 : St}
theorem AgreeAt.refl : AgreeAt all o st st := ⟨rfl, rfl, fun _ _ => rfl⟩
theorem AgreeAt.trans (h : AgreeAt all o st st2) (k : AgreeAt all o st2 st3) : AgreeAt all o st st3 := ⟨k.len.trans h.len, k.kp.trans h.kp, fun t ht => (k.at_ t ht).trans (h.at_ t ht)⟩
theorem AgreeAt.ev (h : AgreeAt all o st st2) : ∀ x ∈ o.op.operands.toList, evo st2 x = evo st x := by
  intro x hx
  cases x with
  | tmp t => exact h.at_ t (List.mem_append_left _ (List.mem_filterMap.2 ⟨.tmp t, hx, rfl⟩))
  | _ => rfl
theorem AgreeAt.wanted (h : AgreeAt all o st st2) : wantedA all st2 o = wantedA all st o := by
  unfold wantedA
  cases hg : o.guard with
  | none => rfl
  | some gw =>
    obtain ⟨j, want⟩ := gw
    simp only []
    cases hj : all[j]? with
    | none => rfl
    | some oj =>
      simp only []
      cases hd : oj.dst with
      | none => rfl
      | some d =>
        simp only []
        rw [h.at_ d (List.mem_append_right _ (by simp [hg, hj, hd]))]
theorem AgreeAt.put {d : Option Tmp} {v : AV} (hd : ∀ t, d = some t → t ∉ o.looksAt all) : AgreeAt all o st (st.put d v) := by
  cases d with
  | none => exact .refl
  | some d =>
    refine ⟨by simp [St.put], rfl, fun t ht => ?_⟩
    have hne : d ≠ t := fun e => hd d rfl (e ▸ ht)
    simp [St.put, tmGet, List.getD_eq_getElem?_getD, List.getElem?_set_ne hne]
theorem AgreeAt.put2 {d : Option Tmp} {v : AV} (hd : ∀ t, d = some t → t ∉ o.looksAt all) : AgreeAt all o (st.put d v) st := by
  cases d with
  | none => exact .refl
  | some d =>
    refine ⟨by simp [St.put], rfl, fun t ht => ?_⟩
    have hne : d ≠ t := fun e => hd d rfl (e ▸ ht)
    simp [St.put, tmGet, List.getD_eq_getElem?_getD, List.getElem?_set_ne hne]
end

/-! ### maps from places to numbers, kept beside the rows -/
def pV (x : Place) : Value := .agg #[.bool x.mutex, .int .i64 x.obj, .bool x.send, .int .i64 x.w.g, .int .i64 x.w.cs, .int .i64 x.w.val]
def mE : Nat → List (Place × Int) → List MapEntry
  | _, [] => []
  | i, p :: l => ⟨pV p.1, .int .i64 p.2, i⟩ :: mE (i + 1) l
def mO (M : List (Place × Int)) : Obj := .map (mE 0 M).toArray M.length
def lk : List (Place × Int) → Place → Int
  | [], _ => 0
  | p :: l, x => if x = p.1 then p.2 else lk l x
/-- what is found in one is found in the other -/
def LkE (o o2 : Obj) : Prop := ∀ x n, (∃ M, o = mO M ∧ lk M x = n) → ∃ M, o2 = mO M ∧ lk M x = n
def ObE (a b : List (Nat × Obj)) : Prop := ∀ r o, (r, o) ∈ a → ∃ o2, (r, o2) ∈ b ∧ LkE o o2
theorem ObE.refl (a : List (Nat × Obj)) : ObE a a := fun _ o h => ⟨o, h, fun _ _ h => h⟩
theorem ObE.trans {a b c : List (Nat × Obj)} (h : ObE a b) (k : ObE b c) : ObE a c := fun r o hr => by
  obtain ⟨o2, h1, h2⟩ := h r o hr
  obtain ⟨o3, k1, k2⟩ := k r o2 h1
  exact ⟨o3, k1, fun x n hx => k2 x n (h2 x n hx)⟩
def St.setO (st : St) (ob : List (Nat × Obj)) : St := { st with ob := ob }
theorem setO_self {st : St} {ob : List (Nat × Obj)} (h : st.ob = ob) : st.setO ob = st := by subst h; rfl
def St.rows (st : St) (ns : List (Nat × Row)) : St := { st with hp := ns ++ st.hp, nx := st.nx + ns.length }
def St.WF (st : St) : Prop := ∀ id r, hget st.hp id = some r → id < st.nx

/-- looks only: and comes to the same where more rows lie -/
def RStep (P : Program) (T : TT) (all : Array Oper) (st : St) (o : Oper) (v : AV) : Prop :=
  ∀ st2, AgreeAt all o st st2 → ExtH st st2 → ObE st.ob st2.ob → (wantedA all st2 o = some true ∧ OpOk P T st2 o (st2.put o.dst v)) ∨ (wantedA all st2 o = some false ∧ v = .ud)
/-- lays new rows -/
def CStep (P : Program) (T : TT) (all : Array Oper) (st : St) (o : Oper) (x : AV) (ns : List (Nat × Row)) (ob' : List (Nat × Obj)) : Prop :=
  (∀ id r, hget ns id = some r → st.nx ≤ id ∧ id < st.nx + ns.length) ∧ ObE st.ob ob' ∧ ∀ st2, AgreeAt all o st st2 → st2.hp = st.hp → st2.nx = st.nx → st2.ob = st.ob → wantedA all st2 o = some true ∧ OpOk P T st2 o (((st2.rows ns).setO ob').put o.dst x)

inductive Dl (P : Program) (T : TT) (all : Array Oper) : St → List (Nat × Bool) → St → Prop where
  | nil {st : St} : Dl P T all st [] st
  | r {st st' : St} {i : Nat} {o : Oper} {v : AV} {l : List (Nat × Bool)} (ho : all[i]? = some o) (h : RStep P T all st o v) (hr : Dl P T all (st.put o.dst v) l st') : Dl P T all st ((i, false) :: l) st'
  | c {st st' : St} {i : Nat} {o : Oper} {x : AV} {ns : List (Nat × Row)} {ob' : List (Nat × Obj)} {l : List (Nat × Bool)} (ho : all[i]? = some o) (h : CStep P T all st o x ns ob') (hr : Dl P T all (((st.rows ns).setO ob').put o.dst x) l st') : Dl P T all st ((i, true) :: l) st'

def direct (all : Array Oper) (i j : Nat) : Bool :=
  match all[i]? with
  | some o => o.after.any fun e => Region.binds .any e && e.on == j
  | none => false
def star (all : Array Oper) : Nat → Nat → Nat → Bool
  | 0, _, _ => false
  | f + 1, i, j => if direct all i j then true else match all[i]? with
    | some o => o.after.any fun e => Region.binds .any e && star all f e.on j
    | none => false
def hasD (d : Option Tmp) (l : List Tmp) : Bool :=
  match d with
  | some d => l.contains d
  | none => false
/-- 'a' may stand ahead of 'b' -/
def pw (all : Array Oper) (a b : Nat × Bool) : Bool :=
  match all[a.1]?, all[b.1]? with
  | some oa, some ob => a.1 != b.1 && !(oa.dst == ob.dst && oa.dst.isSome) && !hasD ob.dst (oa.looksAt all) && !direct all a.1 b.1 && ((!hasD oa.dst (ob.looksAt all) && !a.2) || star all all.size b.1 a.1)
  | _, _ => false

theorem put_comm {st : St} {d e : Option Tmp} {v u : AV} (h : (d == e && d.isSome) = false) : (st.put d v).put e u = (st.put e u).put d v := by
  cases d with
  | none => cases e <;> rfl
  | some d =>
    cases e with
    | none => rfl
    | some e =>
      have hne : d ≠ e := by simpa using h
      simp only [St.put, List.set_comm _ _ hne]
theorem put_rows {st : St} {d : Option Tmp} {v : AV} {ns : List (Nat × Row)} : (st.put d v).rows ns = (st.rows ns).put d v := by cases d <;> rfl
theorem put_ob {st : St} {d : Option Tmp} {v : AV} : (st.put d v).ob = st.ob := by cases d <;> rfl
theorem put_setO {st : St} {d : Option Tmp} {v : AV} {ob : List (Nat × Obj)} : (st.put d v).setO ob = (st.setO ob).put d v := by cases d <;> rfl
theorem put_hp {st : St} {d : Option Tmp} {v : AV} : (st.put d v).hp = st.hp := by cases d <;> rfl
theorem put_nx {st : St} {d : Option Tmp} {v : AV} : (st.put d v).nx = st.nx := by cases d <;> rfl
theorem WF_put {st : St} {d : Option Tmp} {v : AV} (h : st.WF) : (st.put d v).WF := by intro id r hr; rw [put_hp] at hr; rw [put_nx]; exact h id r hr
theorem WF_rows {st : St} {ns : List (Nat × Row)} (h : st.WF) (hn : ∀ id r, hget ns id = some r → st.nx ≤ id ∧ id < st.nx + ns.length) : (st.rows ns).WF := by
  intro id r hr
  simp only [St.rows, hget_append] at hr
  show id < st.nx + ns.length
  cases e : hget ns id with
  | some r2 => exact (hn id r2 e).2
  | none => rw [e] at hr; have := h id r hr; omega
theorem ext_rows {st : St} {ns : List (Nat × Row)} (h : st.WF) (hn : ∀ id r, hget ns id = some r → st.nx ≤ id ∧ id < st.nx + ns.length) : ExtH st (st.rows ns) := by
  intro id r hr
  simp only [St.rows, hget_append]
  cases e : hget ns id with
  | some r2 => have := (hn id r2 e).1; have := h id r hr; omega
  | none => exact hr
theorem agree_rows {all : Array Oper} {o : Oper} {st : St} {ns : List (Nat × Row)} : AgreeAt all o st (st.rows ns) := ⟨rfl, rfl, fun _ _ => rfl⟩
theorem agree_rows2 {all : Array Oper} {o : Oper} {st : St} {ns : List (Nat × Row)} : AgreeAt all o (st.rows ns) st := ⟨rfl, rfl, fun _ _ => rfl⟩

def Step1 (P : Program) (T : TT) (all : Array Oper) (st : St) (o : Oper) (st1 : St) : Prop :=
  (wantedA all st o = some true ∧ OpOk P T st o st1) ∨ (wantedA all st o = some false ∧ st1 = st.put o.dst .ud)

section
variable {P : Program} {T : TT} {all : Array Oper}

theorem hasD_false {d : Option Tmp} {l : List Tmp} (h : hasD d l = false) : ∀ t, d = some t → t ∉ l := by
  intro t ht; subst ht; simpa [hasD] using h

theorem pw_spec {a b : Nat × Bool} (h : pw all a b = true) : ∃ oa ob, all[a.1]? = some oa ∧ all[b.1]? = some ob ∧ a.1 ≠ b.1 ∧ (oa.dst == ob.dst && oa.dst.isSome) = false ∧ hasD ob.dst (oa.looksAt all) = false ∧ direct all a.1 b.1 = false ∧
    ((hasD oa.dst (ob.looksAt all) = false ∧ a.2 = false) ∨ star all all.size b.1 a.1 = true) := by
  unfold pw at h
  split at h
  · rename_i oa ob h1 h2
    simp only [Bool.and_eq_true, Bool.or_eq_true, bne_iff_ne, Bool.not_eq_true'] at h
    exact ⟨oa, ob, h1, h2, h.1.1.1.1, h.1.1.1.2, h.1.1.2, h.1.2, h.2.imp id id⟩
  · cases h

def StepR (P : Program) (T : TT) (all : Array Oper) (st : St) (o : Oper) (b : Bool) (st1 : St) : Prop :=
  (b = false ∧ ∃ v, RStep P T all st o v ∧ st1 = st.put o.dst v) ∨ (b = true ∧ ∃ x ns ob', CStep P T all st o x ns ob' ∧ st1 = ((st.rows ns).setO ob').put o.dst x)
theorem StepR.step {st st1 : St} {o : Oper} {b : Bool} (h : StepR P T all st o b st1) : Step1 P T all st o st1 := by
  rcases h with ⟨_, v, h, rfl⟩ | ⟨_, x, ns, ob', h, rfl⟩
  · rcases h st .refl (fun _ _ h => h) (.refl _) with h | ⟨h, rfl⟩
    · exact .inl h
    · rename_i hh; exact .inr ⟨hh, rfl⟩
  · exact .inl (h.2.2 st .refl rfl rfl rfl)

theorem Dl.take {st st' : St} {l : List (Nat × Bool)} (h : Dl P T all st l st') : st.WF → l.Pairwise (fun a b => pw all a b = true) → ∀ {i : Nat} {b : Bool}, (i, b) ∈ l → (∀ p ∈ l, p.1 ≠ i → star all all.size i p.1 = false) →
    ∃ o st1, all[i]? = some o ∧ StepR P T all st o b st1 ∧ st1.WF ∧ Dl P T all st1 (l.filter fun p => p.1 != i) st' := by
  have self : ∀ (l : List (Nat × Bool)) (j : Nat), (∀ q ∈ l, j ≠ q.1) → (l.filter fun p => p.1 != j) = l := by
    intro l j hl
    rw [List.filter_eq_self]
    intro q hq
    simpa using fun e => hl q hq e.symm
  induction h with
  | nil => intro _ _ i b hi; cases hi
  | @r st st' j oj vj l ho hs hr ih =>
    intro hwf hpw i b hi hfree
    rw [List.pairwise_cons] at hpw
    have hne : ∀ q ∈ l, j ≠ q.1 := fun q hq => (pw_spec (hpw.1 q hq)).choose_spec.choose_spec.2.2.1
    by_cases hij : i = j
    · subst hij
      have hb : b = false := by
        rcases List.mem_cons.1 hi with e | e
        · cases e; rfl
        · exact absurd rfl (hne _ e)
      subst hb
      refine ⟨oj, _, ho, .inl ⟨rfl, vj, hs, rfl⟩, WF_put hwf, ?_⟩
      rw [List.filter_cons_of_neg (by simp), self l i hne]
      exact hr
    · have hil : (i, b) ∈ l := by
        rcases List.mem_cons.1 hi with e | e
        · cases e; exact absurd rfl hij
        · exact e
      obtain ⟨oi, st1, hoi, hstep, hwf1, hrest⟩ := ih (WF_put hwf) hpw.2 hil (fun p hp => hfree p (by simp [hp]))
      obtain ⟨oa, ob, h1, h2, h3, h4, h5, h6, h7⟩ := pw_spec (hpw.1 _ hil)
      rw [ho] at h1; cases h1
      rw [hoi] at h2; cases h2
      have hns : star all all.size i j = false := hfree (j, false) (by simp) (fun e => hij e.symm)
      have h8 : hasD oj.dst (oi.looksAt all) = false := by
        rcases h7 with h7 | h7
        · exact h7.1
        · rw [hns] at h7; cases h7
      have a1 : AgreeAt all oi (st.put oj.dst vj) st := .put2 (hasD_false h8)
      have hf : ((j, false) :: l).filter (fun p => p.1 != i) = (j, false) :: l.filter (fun p => p.1 != i) := List.filter_cons_of_pos (by simpa using fun e => hij e.symm)
      rcases hstep with ⟨rfl, v, hv, rfl⟩ | ⟨rfl, x, ns, ob', hv, rfl⟩
      · refine ⟨oi, st.put oi.dst v, hoi, .inl ⟨rfl, v, fun st2 k1 k2 k3 => hv st2 (a1.trans k1) (fun id r hr2 => k2 id r (by rw [put_hp] at hr2; exact hr2)) (by rw [put_ob]; exact k3), rfl⟩, WF_put hwf, ?_⟩
        rw [hf]
        refine .r ho (v := vj) (fun st2 k1 k2 k3 => hs st2 ((AgreeAt.put (hasD_false h5)).trans k1) (fun id r hr2 => k2 id r (by rw [put_hp]; exact hr2)) (by rw [put_ob] at k3; exact k3)) ?_
        rw [← put_comm h4]
        exact hrest
      · refine ⟨oi, ((st.rows ns).setO ob').put oi.dst x, hoi, .inr ⟨rfl, x, ns, ob', ⟨by have := hv.1; rwa [put_nx] at this, by have := hv.2.1; rwa [put_ob] at this, fun st2 k1 k2 k3 k4 => hv.2.2 st2 (a1.trans k1) (by rw [put_hp]; exact k2) (by rw [put_nx]; exact k3) (by rw [put_ob]; exact k4)⟩, rfl⟩, ?_, ?_⟩
        · exact WF_put (WF_rows hwf (by have := hv.1; rwa [put_nx] at this))
        rw [hf]
        have hext := ext_rows hwf (by have := hv.1; rwa [put_nx] at this)
        refine .r ho (v := vj) (fun st2 k1 k2 k3 => hs st2 (((show AgreeAt all oj st ((st.rows ns).setO ob') from ⟨rfl, rfl, fun _ _ => rfl⟩).trans (AgreeAt.put (hasD_false h5))).trans k1) (fun id r hr2 => k2 id r (by rw [put_hp]; exact hext id r hr2)) (by rw [put_ob] at k3; have h9 := hv.2.1; rw [put_ob] at h9; exact h9.trans k3)) ?_
        rw [← put_comm h4, ← put_setO, ← put_rows]
        exact hrest
  | @c st st' j oj xj nj obj l ho hs hr ih =>
    intro hwf hpw i b hi hfree
    rw [List.pairwise_cons] at hpw
    have hne : ∀ q ∈ l, j ≠ q.1 := fun q hq => (pw_spec (hpw.1 q hq)).choose_spec.choose_spec.2.2.1
    by_cases hij : i = j
    · subst hij
      have hb : b = true := by
        rcases List.mem_cons.1 hi with e | e
        · cases e; rfl
        · exact absurd rfl (hne _ e)
      subst hb
      refine ⟨oj, _, ho, .inr ⟨rfl, xj, nj, _, hs, rfl⟩, WF_put (WF_rows hwf hs.1), ?_⟩
      rw [List.filter_cons_of_neg (by simp), self l i hne]
      exact hr
    · have hil : (i, b) ∈ l := by
        rcases List.mem_cons.1 hi with e | e
        · cases e; exact absurd rfl hij
        · exact e
      obtain ⟨oa, ob, h1, h2, h3, h4, h5, h6, h7⟩ := pw_spec (hpw.1 _ hil)
      have hns : star all all.size i j = false := hfree (j, true) (by simp) (fun e => hij e.symm)
      rcases h7 with h7 | h7
      · cases h7.2
      · rw [hns] at h7; cases h7
end

def tailOk (all : Array Oper) (m : Nat) : Bool :=
  (List.range all.size).all fun i => decide (i < m) || ((List.range i).all fun k => direct all i k || (decide (k < m) && star all all.size i k)) && (match all[i]? with | some o => o.after.all fun e => !Region.binds .any e || decide (e.on < i) | none => false)
def pwAll (all : Array Oper) : List (Nat × Bool) → Bool
  | [] => true
  | a :: l => l.all (fun b => pw all a b) && pwAll all l
def predsOk (all : Array Oper) (m : Nat) (l : List (Nat × Bool)) : Bool :=
  l.all fun p => decide (p.1 < m) && (match all[p.1]? with | some o => o.after.all fun e => !Region.binds .any e || decide (e.on < m) && e.on != p.1 | none => false)
def drawOk (all : Array Oper) (m : Nat) (l : List (Nat × Bool)) : Bool :=
  decide (l.length ≤ m) && decide (m ≤ all.size) && ((List.range m).all fun i => l.any fun p => p.1 == i) && pwAll all l && predsOk all m l && tailOk all m

theorem pwAll_spec {all : Array Oper} {l : List (Nat × Bool)} (h : pwAll all l = true) : l.Pairwise (fun a b => pw all a b = true) := by
  induction l with
  | nil => exact .nil
  | cons a l ih =>
    simp only [pwAll, Bool.and_eq_true, List.all_eq_true] at h
    exact .cons h.1 (ih h.2)

end Go.Proofs.AM
