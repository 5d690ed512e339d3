/- A part of the proof: the walk of functions of the program, or the rules of the walk. -/
import Derived.Test.YthilnfccfjcgfaaGreatAmMore
set_option linter.unusedSimpArgs false
set_option linter.unusedVariables false
namespace Go.Proofs.AM
open Go

section
variable {c : Cx} {st st' : St} {a : Act} {w w' : World} {φ φ' : Nat → Option Hd} {fp : Nat → List Nat} {o : Oper} {K : Act → World → Prop} {Q : Exit → Act → World → Prop}

theorem opEval_sound (hT : TOk c.P c.T) (hG : c.Good) (h : RelX c st a w φ fp) (he : opEval c.T st o = some st') (hK : ∀ a' w', Rel c st' a' w' → K a' w') : o.wp c.P a w K Q := by
  unfold opEval at he
  split at he
  · rename_i x ho; obtain rfl := Option.some.inj he; exact wp_move ho h hK
  · rename_i x ho; obtain rfl := Option.some.inj he; exact wp_assign ho h hK
  · rename_i x y z ho
    split at he
    · rename_i hb; obtain rfl := Option.some.inj he; exact wp_pick (b := true) ho h hb hK
    · rename_i hb; obtain rfl := Option.some.inj he; exact wp_pick (b := false) ho h hb hK
    · cases he
  · rename_i E ho
    split at he
    · rename_i i hi; obtain rfl := Option.some.inj he; exact wp_alloc ho hT hG h hi hK
    · cases he
  · rename_i E x ho
    split at he
    · rename_i i hi
      split at he
      · rename_i hc; obtain rfl := Option.some.inj he; exact wp_box ho hT hG h hi hc.1 hc.2 hK
      · cases he
    · cases he
  · rename_i t parts ho
    split at he
    · rename_i i hi
      split at he
      · rename_i fs hd
        split at he
        · rename_i cs hf; obtain rfl := Option.some.inj he; exact wp_build ho hT h hi hd hf hK
        · cases he
      · cases he
    · cases he
  · rename_i t len parts ho
    split at he
    · rename_i i hi
      split at he
      · rename_i E hd
        split at he
        · rename_i ie hie
          split at he
          · rename_i cs ks hc
            split at he
            · cases he
            · rename_i hdup
              split at he
              · rename_i hp
                obtain rfl := Option.some.inj he
                refine wp_buildSlice' ho hT hG h hi hd hie hc (by simpa using hdup) hp.1 hp.2.1 hp.2.2 ?_
                intro a' w' hh
                refine hK a' w' ?_
                have e2 := (sweep_nx (st := st) ks).1
                cases hdst : o.dst <;> rw [hdst] at hh <;> simpa [St.put, e2] using hh
              · cases he
          · cases he
        · cases he
      · cases he
    · cases he
  · rename_i t l cp ho
    split at he
    · rename_i i hi
      split at he
      · rename_i E hd
        split at he
        · rename_i ie hie
          split at he
          · rename_i k n k' m hl hc
            split at he
            · rename_i hb
              obtain rfl := Option.some.inj he
              obtain ⟨h0, rfl, h1, h2⟩ := hb
              exact wp_makeSlice ho hT hG h hi hd hie hl hc h0 h1 h2 hK
            · cases he
          · cases he
        · cases he
      · cases he
    · cases he
  · rename_i t x ho
    split at he
    · rename_i v hv; obtain rfl := Option.some.inj he; exact wp_load ho hT h hv hK
    · cases he
  · rename_i t x y ho
    split at he
    · rename_i v hv; obtain rfl := Option.some.inj he; exact wp_store ho hT hG h hv hK
    · cases he
  · rename_i t x f ho
    split at he
    · rename_i i hi
      split at he
      · rename_i off sz hf
        split at he
        · rename_i id e j hx; obtain rfl := Option.some.inj he; exact wp_fieldAddr_pt ho hT h hi hf hx hK
        · rename_i fl cs hx
          split at he
          · rename_i hl; obtain rfl := Option.some.inj he; exact wp_fieldAddr_vp ho hT h hi hf hx hl hK
          · cases he
        · cases he
      · cases he
    · cases he
  · rename_i t x ix ho
    split at he
    · rename_i i hi
      split at he
      · rename_i E hd
        split at he
        · rename_i ie hie
          split at he
          · rename_i k n hix
            split at he
            · rename_i fl E' xs hx
              split at he
              · rename_i hb
                split at he
                · rename_i y hy
                  obtain rfl := Option.some.inj he
                  obtain ⟨h0, rfl⟩ := hb
                  exact wp_indexA_ls ho hT h hi hd hie hix hx h0 hy hK
                · cases he
              · cases he
            · rename_i id off len hx
              split at he
              · rename_i hb
                split at he
                · rename_i r hr
                  split at he
                  · rename_i hrE
                    obtain rfl := Option.some.inj he
                    exact wp_indexA_rf ho hT h hi hd hie hix hx hb.1 hb.2 hr hrE hK
                  · cases he
                · cases he
              · cases he
            · cases he
          · cases he
        · cases he
      · cases he
    · cases he
  · rename_i t x ix ho
    split at he
    · rename_i i hi
      split at he
      · rename_i hd
        split at he
        · rename_i k n hix
          split at he
          · rename_i s hx
            split at he
            · rename_i h0
              split at he
              · rename_i b hb; obtain rfl := Option.some.inj he; exact wp_indexStr ho hT h hi hd hix hx h0 hb hK
              · cases he
            · cases he
          · cases he
        · cases he
      · cases he
    · cases he
  · rename_i t x lo hi mx ho
    split at he
    · rename_i v hv; obtain rfl := Option.some.inj he; exact wp_slice ho hT h hv hK
    · cases he
  · rename_i op t x y u ho
    split at he
    · rename_i v hv; obtain rfl := Option.some.inj he; exact wp_binB ho hT h hv hK
    · cases he
  · rename_i t x ho
    split at he
    · rename_i b hx; obtain rfl := Option.some.inj he; exact wp_not ho h hx hK
    · cases he
  · rename_i t x ho
    split at he
    · rename_i k n hx; obtain rfl := Option.some.inj he; exact wp_neg ho h hx hK
    · cases he
  · rename_i x n ho
    split at he
    · rename_i vs hx
      split at he
      · rename_i y hy; obtain rfl := Option.some.inj he; exact wp_extract ho h hx hy hK
      · cases he
    · cases he
  · rename_i as ts ho
    split at he
    · rename_i x t ha ht
      have ha' : as = #[x] := by cases as; simp_all
      have ht' : ts = #[t] := by cases ts; simp_all
      subst ha' ht'
      split at he
      · rename_i i hi
        split at he
        · rename_i E hd
          split at he
          · rename_i n hl; obtain rfl := Option.some.inj he; exact wp_len ho hT h hi hl hd hK
          · cases he
        · rename_i hd
          split at he
          · rename_i s hl
            obtain rfl := Option.some.inj he
            have hl' : evo st x = .sc (.string s) := by
              unfold strL at hl
              split at hl
              · rename_i s' hs; cases hl; exact hs
              · cases hl
            exact wp_lenS ho hT h hi hl' hd hK
          · cases he
        · cases he
      · cases he
    · cases he
  · rename_i as ts ho
    split at he
    · rename_i s x t t' ha ht
      have ha' : as = #[s, x] := by cases as; simp_all
      have ht' : ts = #[t, t'] := by cases ts; simp_all
      subst ha' ht'
      split at he
      · rename_i e; subst e; exact wp_append ho hT hG h he hK
      · cases he
    · cases he
  · rename_i as ts ho
    split at he
    · rename_i x y ha
      have ha' : as = #[x, y] := by cases as; simp_all
      subst ha'
      split at he
      · rename_i k p k' q hx hy
        split at he
        · rename_i e; subst e; obtain rfl := Option.some.inj he; exact wp_max ho h hx hy hK
        · cases he
      · cases he
    · cases he
  · rename_i as ts ho
    split at he
    · rename_i x y ha
      have ha' : as = #[x, y] := by cases as; simp_all
      subst ha'
      split at he
      · rename_i k p k' q hx hy
        split at he
        · rename_i e; subst e; obtain rfl := Option.some.inj he; exact wp_min ho h hx hy hK
        · cases he
      · cases he
    · cases he
  · cases he

end

/-! ### the judgement -/
/-- a loop from the head of its body on -/
def LW (P : Program) (x : Code) (Q : Exit → Act → World → Prop) (a : Act) (w : World) : Prop :=
  ∀ (b : Frame) (k : List Item) (cs : List Frame), ∃ e a' w', Q e a' w' ∧ Arrives P (lone (b.at a (.code x :: .inLoop x :: k)) cs w) b k cs e a' w'
theorem LW.loop {P : Program} {x : Code} {Q : Exit → Act → World → Prop} {a : Act} {w : World} (h : LW P x Q a w) : (Code.loop x).wp P Q a w := by
  intro b k cs
  obtain ⟨e, a', w', hq, harr⟩ := h b k cs
  exact ⟨e, a', w', hq, .of_steps (.one step_loop) harr⟩
theorem LW.of {P : Program} {x : Code} {Q : Exit → Act → World → Prop} {a : Act} {w : World} (h : x.wp P (Exit.then (LW P x Q) Q) a w) : LW P x Q a w := by
  intro b k cs
  obtain ⟨e, a₁, w₁, hq, harr⟩ := h b (.inLoop x :: k) cs
  cases e with
  | normal =>
    obtain ⟨e₂, a₂, w₂, hq₂, harr₂⟩ := hq b k cs
    exact ⟨e₂, a₂, w₂, hq₂, .of_steps (Steps.trans harr (.one step_inLoop)) harr₂⟩
  | exit id => exact ⟨_, a₁, w₁, hq, .pass (x := .inLoop x) rfl (fun _ _ => .inl (by simp)) harr⟩
  | goto l => exact ⟨_, a₁, w₁, hq, .pass (x := .inLoop x) rfl (fun _ _ => .inl (by simp)) harr⟩
  | ret => exact ⟨_, a₁, w₁, hq, .pass (x := .inLoop x) rfl (fun _ _ => .inl (by simp)) harr⟩
  | panic ch => exact ⟨_, a₁, w₁, hq, .pass (x := .inLoop x) rfl (fun _ _ => .inl (by simp)) harr⟩
  | outgrown => exact ⟨_, a₁, w₁, hq, .pass (x := .inLoop x) rfl (fun _ _ => .inl (by simp)) harr⟩

inductive K where
  | seq (c : Code)
  | blk (id : Nat)
  | lp (c : Code)
inductive Ctl where
  | code (c : Code)
  | lw (c : Code)
  | ops (all : Array Oper) (os : List Oper)
  | ex (e : Exit)

def KQ (P : Program) (R : Exit → Act → World → Prop) : List K → Exit → Act → World → Prop
  | [] => R
  | .seq b :: k => Exit.then (b.wp P (KQ P R k)) (KQ P R k)
  | .blk id :: k => Exit.inBlock id (KQ P R k)
  | .lp x :: k => Exit.then (LW P x (KQ P R k)) (KQ P R k)

def post (c : Cx) (Q : Exit → St → Prop) : Exit → Act → World → Prop := fun e a w => ∃ st, Q e st ∧ Rel c st a w
def runC (P : Program) (R : Exit → Act → World → Prop) : Ctl → Act → World → Prop
  | .code x => x.wp P R
  | .lw x => LW P x R
  | .ops all os => wpList P all R os
  | .ex e => R e

def Go (P : Program) (T : TT) (Q : Exit → St → Prop) (x : Ctl) (k : List K) (st : St) : Prop :=
  ∀ c : Cx, c.P = P → c.T = T → TOk P T → c.Good → ∀ a w, Rel c st a w → runC P (KQ P (post c Q) k) x a w

section
variable {P : Program} {T : TT} {Q : Exit → St → Prop} {k : List K} {st st' : St}
theorem Go.seq {x y : Code} (h : Go P T Q (.code x) (.seq y :: k) st) : Go P T Q (.code (.seq x y)) k st :=
  fun c e1 e2 hT hG a w hr => wp_seq (h c e1 e2 hT hG a w hr)
theorem Go.skip (h : Go P T Q (.ex .normal) k st) : Go P T Q (.code .skip) k st :=
  fun c e1 e2 hT hG a w hr => wp_skip (h c e1 e2 hT hG a w hr)
theorem Go.label {l : Nat} (h : Go P T Q (.ex .normal) k st) : Go P T Q (.code (.label l)) k st :=
  fun c e1 e2 hT hG a w hr => wp_label (h c e1 e2 hT hG a w hr)
theorem Go.ret (h : Go P T Q (.ex .ret) k st) : Go P T Q (.code .ret) k st :=
  fun c e1 e2 hT hG a w hr => wp_ret (h c e1 e2 hT hG a w hr)
theorem Go.exit {id : Nat} (h : Go P T Q (.ex (.exit id)) k st) : Go P T Q (.code (.exit id)) k st :=
  fun c e1 e2 hT hG a w hr => wp_exit (h c e1 e2 hT hG a w hr)
theorem Go.block {id : Nat} {x : Code} (h : Go P T Q (.code x) (.blk id :: k) st) : Go P T Q (.code (.block id x)) k st :=
  fun c e1 e2 hT hG a w hr => wp_block (h c e1 e2 hT hG a w hr)
theorem Go.cond {x : Operand} {y z : Code} {b : Bool} (hc : evo st x = .sc (.bool b)) (h1 : b = true → Go P T Q (.code y) k st) (h2 : b = false → Go P T Q (.code z) k st) : Go P T Q (.code (.cond x y z)) k st := by
  intro c e1 e2 hT hG a w hr
  obtain ⟨φ, fp, hx⟩ := hr
  refine wp_cond_split (t := b) (hx.scv hc) (fun hb => h1 hb c e1 e2 hT hG a w ⟨φ, fp, hx⟩) (fun hb => h2 hb c e1 e2 hT hG a w ⟨φ, fp, hx⟩)
theorem Go.loop {x : Code} (h : Go P T Q (.lw x) k st) : Go P T Q (.code (.loop x)) k st :=
  fun c e1 e2 hT hG a w hr => (h c e1 e2 hT hG a w hr : LW _ _ _ _ _).loop
theorem Go.lw {x : Code} (h : Go P T Q (.code x) (.lp x :: k) st) : Go P T Q (.lw x) k st :=
  fun c e1 e2 hT hG a w hr => LW.of (h c e1 e2 hT hG a w hr)
theorem Go.region {id : Nat} {all : Array Oper} (h : Go P T Q (.ops all all.toList) k st) : Go P T Q (.code (.region id all false)) k st := by
  intro c e1 e2 hT hG a w hr
  refine wp_region ?_
  have := wpOps_eq_wpList (P := P) (ops := all) (Q := KQ P (post c Q) k) all.toList 0 (fun j => by simp)
  rw [Array.length_toList, ← List.range_eq_range'] at this
  rw [this]
  exact h c e1 e2 hT hG a w hr
theorem Go.xseq {y : Code} (h : Go P T Q (.code y) k st) : Go P T Q (.ex .normal) (.seq y :: k) st :=
  fun c e1 e2 hT hG a w hr => h c e1 e2 hT hG a w hr
theorem Go.xblk {id : Nat} (h : Go P T Q (.ex .normal) k st) : Go P T Q (.ex .normal) (.blk id :: k) st :=
  fun c e1 e2 hT hG a w hr => h c e1 e2 hT hG a w hr
theorem Go.xlp {x : Code} (h : Go P T Q (.lw x) k st) : Go P T Q (.ex .normal) (.lp x :: k) st :=
  fun c e1 e2 hT hG a w hr => h c e1 e2 hT hG a w hr
theorem Go.rseq {y : Code} (h : Go P T Q (.ex .ret) k st) : Go P T Q (.ex .ret) (.seq y :: k) st :=
  fun c e1 e2 hT hG a w hr => h c e1 e2 hT hG a w hr
theorem Go.rblk {id : Nat} (h : Go P T Q (.ex .ret) k st) : Go P T Q (.ex .ret) (.blk id :: k) st :=
  fun c e1 e2 hT hG a w hr => h c e1 e2 hT hG a w hr
theorem Go.rlp {x : Code} (h : Go P T Q (.ex .ret) k st) : Go P T Q (.ex .ret) (.lp x :: k) st :=
  fun c e1 e2 hT hG a w hr => h c e1 e2 hT hG a w hr
theorem Go.eseq {y : Code} {i : Nat} (h : Go P T Q (.ex (.exit i)) k st) : Go P T Q (.ex (.exit i)) (.seq y :: k) st :=
  fun c e1 e2 hT hG a w hr => h c e1 e2 hT hG a w hr
theorem Go.elp {x : Code} {i : Nat} (h : Go P T Q (.ex (.exit i)) k st) : Go P T Q (.ex (.exit i)) (.lp x :: k) st :=
  fun c e1 e2 hT hG a w hr => h c e1 e2 hT hG a w hr
theorem Go.eblk {i : Nat} (h : Go P T Q (.ex .normal) k st) : Go P T Q (.ex (.exit i)) (.blk i :: k) st := by
  intro c e1 e2 hT hG a w hr
  have := h c e1 e2 hT hG a w hr
  show Exit.inBlock i (KQ P (post c Q) k) (.exit i) a w
  unfold Exit.inBlock
  simp only [if_true]
  exact this
theorem Go.eblk' {i j : Nat} (hne : i ≠ j) (h : Go P T Q (.ex (.exit i)) k st) : Go P T Q (.ex (.exit i)) (.blk j :: k) st := by
  intro c e1 e2 hT hG a w hr
  have := h c e1 e2 hT hG a w hr
  show Exit.inBlock j (KQ P (post c Q) k) (.exit i) a w
  unfold Exit.inBlock
  simp only [if_neg hne]
  exact this
theorem Go.done {e : Exit} (h : Q e st) : Go P T Q (.ex e) [] st :=
  fun c _ _ _ _ a w hr => ⟨st, h, hr⟩
theorem Go.nil {all : Array Oper} (h : Go P T Q (.ex .normal) k st) : Go P T Q (.ops all []) k st :=
  fun c e1 e2 hT hG a w hr => h c e1 e2 hT hG a w hr
theorem Go.weak {x : Ctl} (hw : ∀ c a w, Rel c st a w → Rel c st' a w) (h : Go P T Q x k st') : Go P T Q x k st :=
  fun c e1 e2 hT hG a w hr => h c e1 e2 hT hG a w (hw c a w hr)

theorem wanted_of {c : Cx} {a : Act} {w : World} {φ : Nat → Option Hd} {fp : Nat → List Nat} {all : Array Oper} {o : Oper} {b : Bool} (h : RelX c st a w φ fp) (hw : wantedA all st o = some b) : Region.wanted o (yielded all a.tmps) = b := by
  unfold wantedA at hw
  unfold Region.wanted
  split at hw
  · rename_i hg; rw [hg]; cases hw; rfl
  · rename_i j want hg
    rw [hg]
    show (yielded all a.tmps j == some want) = b
    split at hw
    · rename_i oj hj
      split at hw
      · rename_i d hd
        have hv := h.ev (.tmp d)
        have he : a.eval (.tmp d) = a.tmps.getD d undef := rfl
        have hy : ∀ x : Bool, a.tmps.getD d undef = .bool x → yielded all a.tmps j = some x := by
          intro x hx
          have hx' : a.tmps[d]? = some (.bool x) := by
            rw [Array.getD_eq_getD_getElem?] at hx
            cases hh : a.tmps[d]? with
            | none => rw [hh] at hx; simp [undef] at hx
            | some v => rw [hh] at hx; simpa using hx
          unfold yielded
          rw [hj]
          simp [hd, hx']
        have hyu : a.tmps.getD d undef = undef → yielded all a.tmps j = none := by
          intro hx
          unfold yielded
          rw [hj]
          simp only [Option.bind_some, hd]
          rw [Array.getD_eq_getD_getElem?] at hx
          cases hh : a.tmps[d]? with
          | none => rfl
          | some v => rw [hh] at hx; simp at hx; subst hx; rfl
        split at hw
        · rename_i ht
          have e := h.scv (x := .tmp d) ht
          rw [he] at e
          rw [hy true e]
          obtain rfl := Option.some.inj hw
          cases want <;> rfl
        · rename_i ht
          have e := h.scv (x := .tmp d) ht
          rw [he] at e
          rw [hy false e]
          obtain rfl := Option.some.inj hw
          cases want <;> rfl
        · rename_i ht
          have e : AM.evo st (.tmp d) = .ud := ht
          rw [e] at hv
          rw [he] at hv
          generalize hval : a.tmps.getD d undef = v at hv
          cases hv
          rw [hyu hval]
          cases hw
          rfl
        · cases hw
      · cases hw
    · cases hw

theorem Go.op {all : Array Oper} {o : Oper} {os : List Oper} (hg : wantedA all st o = some true) (ho : opEval T st o = some st') (h : Go P T Q (.ops all os) k st') : Go P T Q (.ops all (o :: os)) k st := by
  intro c e1 e2 hT hG a w hr
  subst e1 e2
  obtain ⟨φ, fp, hx⟩ := hr
  show wpList _ _ _ _ _ _
  unfold wpList
  rw [if_pos (wanted_of hx hg)]
  exact .inl (opEval_sound hT hG hx ho fun a' w' h' => h c rfl rfl hT hG a' w' h')
theorem Go.op0 {all : Array Oper} {o : Oper} {os : List Oper} (hg : wantedA all st o = some false) (h : Go P T Q (.ops all os) k (st.put o.dst .ud)) : Go P T Q (.ops all (o :: os)) k st := by
  intro c e1 e2 hT hG a w hr
  obtain ⟨φ, fp, hx⟩ := hr
  show wpList _ _ _ _ _ _
  unfold wpList
  rw [if_neg (by rw [wanted_of hx hg]; simp)]
  exact h c e1 e2 hT hG _ w ⟨φ, fp, hx.put o.dst .ud⟩
theorem Go.run {all : Array Oper} {os os' : List Oper} (hr : evalOps T all st os = (st', os')) (h : Go P T Q (.ops all os') k st') : Go P T Q (.ops all os) k st := by
  induction os generalizing st with
  | nil => simp only [evalOps, Prod.mk.injEq] at hr; obtain ⟨rfl, rfl⟩ := hr; exact h
  | cons o os ih =>
    unfold evalOps at hr
    split at hr
    · rename_i hg
      split at hr
      · rename_i st2 ho; exact Go.op hg ho (ih hr)
      · obtain ⟨rfl, rfl⟩ := Prod.mk.inj hr; exact h
    · rename_i hg; exact Go.op0 hg (ih hr)
    · obtain ⟨rfl, rfl⟩ := Prod.mk.inj hr; exact h
/-- both ways of what is not known yet -/
theorem Go.split {x : Ctl} {d : Nat} {b : Bool} (hd : tmGet st.tm d = .sc (.bool b)) (h1 : b = true → Go P T Q x k { st with tm := st.tm.set d (.sc (.bool true)) }) (h2 : b = false → Go P T Q x k { st with tm := st.tm.set d (.sc (.bool false)) }) : Go P T Q x k st := by
  have key : ∀ u, tmGet st.tm d = u → { st with tm := st.tm.set d u } = st := by
    intro u hu
    have : st.tm.set d u = st.tm := by
      subst hu
      apply List.ext_getElem
      · simp
      · intro i h1 h2
        rw [List.getElem_set]
        split
        · rename_i e; subst e; simp [tmGet, List.getD_eq_getElem?_getD, h2]
        · rfl
    rw [this]
  cases b with
  | true => have := h1 rfl; rwa [key _ hd] at this
  | false => have := h2 rfl; rwa [key _ hd] at this
end
end Go.Proofs.AM
