/- A part of the proof: the walk of functions of the program, or the rules of the walk. -/
import Derived.Test.YthilnfccfjcgfaaGreatAmMap4
import Derived.Maps.RangeRun
set_option linter.unusedSimpArgs false
set_option linter.unusedVariables false
namespace Go.Proofs.AM
open Go Go.ChangeMaps
attribute [go_sem] St.setO

section
variable {P : Program} {T : TT} {all : Array Oper} {st st1 st2 : St} {G : St → Prop} {l : List (Nat × Bool)} {t : TypeId} {r it : Nat} {Q : Exit → St → Prop} {k : List K} {os : List Oper} {o : Oper} {xx : Ctl}
theorem DlK.lkp {i : Nat} {m q : Operand} {cs : List AV} (M : List (Place × Int)) (x : Place) (hT : MapT P t) (hr : DlK P T all st1 l G) (hi : pickL all.toList i = some o := by rfl)
    (hg : wantedA all st o = some true := by (simp only [go_sem, Nat.reduceEqDiff, Nat.reduceLT, Nat.reduceLeDiff, Nat.reduceAdd, Nat.reduceSub, reduceCtorEq] <;> rfl))
    (ho : o.op = .lookup t m q false := by rfl) (hm : evo st m = .sc (.map (some r)) := by (simp only [go_sem] <;> rfl)) (hk : evo st q = .agg cs := by (simp only [go_sem] <;> rfl)) (hs : scs cs = some (pVs x) := by rfl)
    (hb : st.ob = [(r, mO M)] := by rfl) (e : st.put o.dst (.sc (.int .i64 (lk M x))) = st1 := by (simp only [go_sem] <;> rfl)) : DlK P T all st ((i, false) :: l) G := by
  subst e
  obtain ⟨stm, h1, h2⟩ := hr
  refine ⟨stm, .r (picked hi) (fun st2 k1 k2 k3 => .inl ⟨by rw [k1.wanted]; exact hg, ?_⟩) h1, h2⟩
  obtain ⟨o2, p1, p2⟩ := k3 r (mO M) (by simp [hb])
  obtain ⟨M2, rfl, p3⟩ := p2 x _ ⟨M, rfl, rfl⟩
  rw [← p3]
  exact .lkp hT ho (by rw [k1.ev m (by simp [ho, Op.operands])]; exact hm) (by rw [k1.ev q (by simp [ho, Op.operands])]; exact hk) hs p1
theorem DlK.me {i : Nat} {m q : Operand} {cs : List AV} (M : List (Place × Int)) (x : Place) (hT : MapT P t) (hr : DlK P T all st1 l G) (hi : pickL all.toList i = some o := by rfl)
    (hg : wantedA all st o = some true := by (simp only [go_sem, Nat.reduceEqDiff, Nat.reduceLT, Nat.reduceLeDiff, Nat.reduceAdd, Nat.reduceSub, reduceCtorEq] <;> rfl))
    (ho : o.op = .mapEntry t m q := by rfl) (hm : evo st m = .sc (.map (some r)) := by (simp only [go_sem] <;> rfl)) (hk : evo st q = .agg cs := by (simp only [go_sem] <;> rfl)) (hs : scs cs = some (pVs x) := by rfl)
    (hb : st.ob = [(r, mO M)] := by rfl) (e : (st.setO [(r, mO (addK M x))]).put o.dst (.tup [.sc (.int .i64 (lk M x)), .sc (.int .i64 (jK M x : Nat))]) = st1 := by (simp only [go_sem, St.setO] <;> rfl)) : DlK P T all st ((i, true) :: l) G := by
  subst e
  obtain ⟨stm, h1, h2⟩ := hr
  refine ⟨stm, .c (picked hi) (ns := []) (ob' := [(r, mO (addK M x))]) (x := .tup [.sc (.int .i64 (lk M x)), .sc (.int .i64 (jK M x : Nat))]) ⟨by simp [hget], ?_, fun st2 k1 k2 k3 k4 => ⟨by rw [k1.wanted]; exact hg, ?_⟩⟩ ?_, h2⟩
  · intro r2 o2 h
    rw [hb] at h
    obtain ⟨rfl, rfl⟩ := Prod.mk.inj (List.mem_singleton.1 h)
    refine ⟨_, List.mem_singleton.2 rfl, fun y n hn => ?_⟩
    obtain ⟨M1, e1, e2⟩ := hn
    obtain rfl := mO_inj e1
    exact ⟨_, rfl, by rw [lk_addK]; exact e2⟩
  · exact .me hT ho (by rw [k1.ev m (by simp [ho, Op.operands])]; exact hm) (by rw [k1.ev q (by simp [ho, Op.operands])]; exact hk) hs (k4.trans hb)
  · exact h1
theorem Go.es {m s v : Operand} (M : List (Place × Int)) (x : Place) (n : Int) (h : Go P T Q (.ops all os) k st2)
    (hg : wantedA all st o = some true := by (simp only [go_sem, Nat.reduceEqDiff, Nat.reduceLT, Nat.reduceLeDiff, Nat.reduceAdd, Nat.reduceSub, reduceCtorEq] <;> rfl)) (ho : o.op = .entryStore t m s v := by rfl)
    (hm : evo st m = .sc (.map (some r)) := by (simp only [go_sem] <;> rfl)) (hs : evo st s = .sc (.int .i64 (jK M x : Nat)) := by (simp only [go_sem] <;> rfl)) (hv : evo st v = .sc (.int .i64 n) := by (simp only [go_sem] <;> rfl))
    (hr : st.ob = [(r, mO (addK M x))] := by rfl) (e : (st.setO [(r, mO (putK M x n))]).put o.dst .ud = st2 := by (simp only [go_sem, St.setO] <;> rfl)) : Go P T Q (.ops all (o :: os)) k st := by
  subst e
  exact .by hg (.es ho hm hs hv hr) h

/-- many ways out -/
def OpOkS (P : Program) (T : TT) (st : St) (o : Oper) (S : St → Prop) : Prop :=
  ∀ c : Cx, c.P = P → c.T = T → TOk P T → c.Good → ∀ (a : Act) (w : World) (K : Act → World → Prop) (Q : Exit → Act → World → Prop), Rel c st a w → (∀ s' a' w', S s' → Rel c s' a' w' → K a' w') → o.wp P a w K Q
theorem Go.byS {S : St → Prop} (hg : wantedA all st o = some true) (hs : OpOkS P T st o S) (h : ∀ s', S s' → Go P T Q (.ops all os) k s') : Go P T Q (.ops all (o :: os)) k st := by
  intro c e1 e2 hT hG a w hr
  obtain ⟨φ, fp, hx⟩ := hr
  show wpList _ _ _ _ _ _
  unfold wpList
  rw [if_pos (wanted_of hx hg)]
  exact .inl (hs c e1 e2 hT hG a w _ _ ⟨φ, fp, hx⟩ fun s' a' w' hS h' => h s' hS c e1 e2 hT hG a' w' h')
theorem OpOkS.mkm (ho : o.op = .makeMap t none) (hb : st.ob = []) : OpOkS P T st o fun s => ∃ r, s = (st.put o.dst (.sc (.map (some r)))).setO [(r, mO [])] := by
  intro c e1 e2 hTT hG a w K Q hrl hK
  subst e1 e2
  obtain ⟨φ, fp, h⟩ := hrl
  have h2 := h.obNew hG (mO [])
  rw [hb] at h2
  refine wp_value (v := .map (some w.heap.size)) (w' := w.alloc (mO [])) ?_ (hK _ _ _ ⟨w.heap.size, rfl⟩ ⟨φ, fp, by rw [put_setO]; exact h2.put o.dst (.sc (v := .map (some w.heap.size)) rfl)⟩)
  simp [execOp, ho, Instr.makeMap, newObj, Sem.run, mO, mE]
theorem Go.mkm (h : ∀ r, Go P T Q (.ops all os) k ((st.put o.dst (.sc (.map (some r)))).setO [(r, mO [])]))
    (hg : wantedA all st o = some true := by (simp only [go_sem, Nat.reduceEqDiff, Nat.reduceLT, Nat.reduceLeDiff, Nat.reduceAdd, Nat.reduceSub, reduceCtorEq] <;> rfl)) (ho : o.op = .makeMap t none := by rfl) (hb : st.ob = [] := by rfl) : Go P T Q (.ops all (o :: os)) k st :=
  .byS hg (.mkm ho hb) (fun s hs => by obtain ⟨r, rfl⟩ := hs; exact h r)
/-- a round's object -/
def iO (r L : Nat) (seen : Array Nat) : Obj := .mapIter (some r) L seen L
theorem mE_mem {M : List (Place × Int)} {e : MapEntry} (h : e ∈ mE 0 M) : ∃ j p, M[j]? = some p ∧ e = ⟨pV p.1, .int .i64 p.2, j⟩ := by
  obtain ⟨j, hj⟩ := List.getElem?_of_mem h
  rw [mE_get] at hj
  cases hp : M[j]? with
  | none => rw [hp] at hj; cases hj
  | some p => rw [hp] at hj; exact ⟨j, p, hp, by rw [← Option.some.inj hj, Nat.zero_add]⟩
theorem lt_of_get {α : Type} {l : List α} {j : Nat} {p : α} (h : l[j]? = some p) : j < l.length := (List.getElem?_eq_some_iff.1 h).1
theorem mO_eq (M : List (Place × Int)) : mO M = .map (mE 0 M).toArray M.length := rfl
theorem OpOkS.rg {m : Operand} {M : List (Place × Int)} (hT : MapT P t) (ho : o.op = .range t m) (hm : evo st m = .sc (.map (some r))) (hb : st.ob = [(r, mO M)]) :
    OpOkS P T st o fun s => ∃ it, it ≠ r ∧ s = (st.put o.dst (.sc (.pointer (some ⟨it, 0, none⟩)))).setO [(it, iO r M.length #[]), (r, mO M)] := by
  intro c e1 e2 hTT hG a w K Q hrl hK
  subst e1 e2
  obtain ⟨φ, fp, h⟩ := hrl
  have hm0 : (r, mO M) ∈ st.ob := by simp [hb]
  have hbl := (h.obs _ hm0).1
  have hlt := h.obLt hm0
  have h2 := h.obNew hG (iO r M.length #[])
  rw [hb] at h2
  obtain ⟨K0, E0, ty, _⟩ := hT.ty
  have hg : (getObj r).run c.P w = .ok (.map (mE 0 M).toArray M.length) w := by simp [getObj, Sem.run, hbl, mO]
  have hn : ∀ ob, (newObj ob).run c.P w = .ok w.heap.size (w.alloc ob) := fun ob => by simp [newObj, Sem.run]
  refine wp_value (v := .pointer (some ⟨w.heap.size, 0, none⟩)) (w' := w.alloc (iO r M.length #[])) ?_ (hK _ _ _ ⟨w.heap.size, by simp at hlt; omega, rfl⟩ ⟨φ, fp, by rw [put_setO]; exact h2.put o.dst (.sc (v := .pointer (some ⟨w.heap.size, 0, none⟩)) rfl)⟩)
  simp [execOp, ho, h.scv hm, Instr.range, run_underlying ty, hg, hn, iO]
theorem OpOkS.nx {m : Operand} {M : List (Place × Int)} {seen : Array Nat} (ho : o.op = .next m false) (hm : evo st m = .sc (.pointer (some ⟨it, 0, none⟩))) (hne : it ≠ r) (hb : st.ob = [(it, iO r M.length seen), (r, mO M)]) :
    OpOkS P T st o fun s => ((∀ j, j < M.length → seen.contains j = true) ∧ s = st.put o.dst (.tup [.sc (.bool false)])) ∨
      ∃ j x n, M[j]? = some (x, n) ∧ seen.contains j = false ∧ s = (st.setO [(it, iO r M.length (seen.push j)), (r, mO M)]).put o.dst (.tup [.sc (.bool true), .un, .sc (.int .i64 n)]) := by
  intro c e1 e2 hTT hG a w K Q hrl hK
  subst e1 e2
  obtain ⟨φ, fp, h⟩ := hrl
  have hm0 : (r, mO M) ∈ st.ob := by simp [hb]
  have hm1 : (it, iO r M.length seen) ∈ st.ob := by simp [hb]
  have hbl := (h.obs _ hm0).1
  have hbi := (h.obs _ hm1).1
  have hold : ∀ x ∈ (mE 0 M).toArray.toList, x.born < M.length := by
    intro x hx
    obtain ⟨j, p, hj, rfl⟩ := mE_mem (by simpa using hx)
    exact lt_of_get hj
  rcases run_next_at (P := c.P) w o.type it r M.length M.length seen (mE 0 M).toArray M.length hbi hbl hold (Nat.le_refl _) with ⟨h1, h2⟩ | ⟨e, he, w1, hw1, h2⟩
  · refine wp_value (v := .tuple #[.bool false]) (w' := w) ?_ (hK _ _ _ (.inl ⟨?_, rfl⟩) ⟨φ, fp, h.put o.dst (.tup (vs := [.bool false]) (.cons0 (.sc rfl) .nil))⟩)
    · simp [execOp, ho, h.scv hm, h2]
    · intro j hj
      have hp : M[j]? = some M[j] := List.getElem?_eq_getElem hj
      cases hc : seen.contains j with
      | true => rfl
      | false =>
        have hmem : (⟨pV M[j].1, .int .i64 M[j].2, j⟩ : MapEntry) ∈ leftOf (mE 0 M).toArray seen := by
          unfold leftOf
          rw [Array.mem_filter]
          refine ⟨?_, by simp only [hc]; rfl⟩
          rw [List.mem_toArray]
          exact List.mem_of_getElem? (i := j) (by rw [mE_get, hp]; simp)
        have : leftOf (mE 0 M).toArray seen = #[] := Array.eq_empty_of_size_eq_zero h1
        rw [this] at hmem
        simp at hmem
  · have he2 : e ∈ leftOf (mE 0 M).toArray seen := by simpa using he
    unfold leftOf at he2
    rw [Array.mem_filter] at he2
    obtain ⟨he3, he4⟩ := he2
    obtain ⟨j, p, hj, rfl⟩ := mE_mem (List.mem_toArray.1 he3)
    obtain ⟨x, n⟩ := p
    have h3 : RelX c st a w1 φ fp := by rcases hw1 with rfl | rfl; exact h; exact h.drew
    have h4 := h3.obSet (iO r M.length (seen.push j)) [(it, iO r M.length (seen.push j)), (r, mO M)] hm1 (by intro cur E fz; simp [iO]) (by
      intro p hp
      rcases List.mem_cons.1 hp with rfl | hp
      · exact .inl rfl
      · rw [List.mem_singleton.1 hp]; exact .inr ⟨hm0, fun e => hne e.symm⟩)
    refine wp_value (v := .tuple #[.bool true, pV x, .int .i64 n]) ?_ (hK _ _ _ (.inr ⟨j, x, n, hj, by simpa using he4, rfl⟩) ⟨φ, fp, h4.put o.dst (.tup (vs := [.bool true, pV x, .int .i64 n]) (.cons0 (.sc rfl) (.cons0 .un (.cons0 (.sc rfl) .nil))))⟩)
    simp only [execOp, ho, h.scv hm, Sem.run_bind, h2, Result.andThen_ok, Sem.run_pure]
    rfl
theorem OpOk.en {m : Operand} {M : List (Place × Int)} {seen : Array Nat} {j : Nat} {x : Place} {n : Int} (ho : o.op = .entry m) (hm : evo st m = .sc (.pointer (some ⟨it, 0, none⟩))) (hj : M[j]? = some (x, n)) (hb : st.ob = [(it, iO r M.length (seen.push j)), (r, mO M)]) :
    OpOk P T st o (st.put o.dst (.tup [.un, .sc (.int .i64 n)])) := by
  intro c e1 e2 hTT hG a w K Q hrl hK
  subst e1 e2
  obtain ⟨φ, fp, h⟩ := hrl
  have hbl := (h.obs (r, mO M) (by simp [hb])).1
  have hbi := (h.obs (it, iO r M.length (seen.push j)) (by simp [hb])).1
  have hmem : (⟨pV x, .int .i64 n, j⟩ : MapEntry) ∈ (mE 0 M).toArray.toList := by
    simp only; exact List.mem_of_getElem? (i := j) (by rw [mE_get, hj]; simp)
  have hnd : ((mE 0 M).toArray.toList.map (·.born)).Nodup := by
    have : (mE 0 M).map (·.born) = List.range M.length := by
      apply List.ext_getElem?
      intro i
      rw [List.getElem?_map, mE_get]
      cases hp : M[i]? with
      | none => rw [List.getElem?_eq_none_iff] at hp; symm; simp; omega
      | some p => have := lt_of_get hp; symm; rw [List.getElem?_eq_getElem (by simpa using this)]; simp
    simp only [this]
    exact List.nodup_range
  have hrun := run_entry_at (P := c.P) w it r M.length seen (mE 0 M).toArray M.length ⟨pV x, .int .i64 n, j⟩ hbi hbl hmem hnd
  refine wp_value (v := .tuple #[pV x, .int .i64 n]) (w' := w) ?_ (hK _ _ ⟨φ, fp, h.put o.dst (.tup (vs := [pV x, .int .i64 n]) (.cons0 .un (.cons0 (.sc rfl) .nil)))⟩)
  simp [execOp, ho, h.scv hm, hrun]
theorem Go.rg {m : Operand} (M : List (Place × Int)) (hT : MapT P t) (h : ∀ it, it ≠ r → Go P T Q (.ops all os) k ((st.put o.dst (.sc (.pointer (some ⟨it, 0, none⟩)))).setO [(it, iO r M.length #[]), (r, mO M)]))
    (hg : wantedA all st o = some true := by (simp only [go_sem, Nat.reduceEqDiff, Nat.reduceLT, Nat.reduceLeDiff, Nat.reduceAdd, Nat.reduceSub, reduceCtorEq] <;> rfl)) (ho : o.op = .range t m := by rfl)
    (hm : evo st m = .sc (.map (some r)) := by (simp only [go_sem] <;> rfl)) (hb : st.ob = [(r, mO M)] := by rfl) : Go P T Q (.ops all (o :: os)) k st :=
  .byS hg (.rg hT ho hm hb) (fun s hs => by obtain ⟨it, h1, rfl⟩ := hs; exact h it h1)
theorem Go.nx {m : Operand} {M : List (Place × Int)} {seen : Array Nat} (hne : it ≠ r) (h1 : (∀ j, j < M.length → seen.contains j = true) → Go P T Q (.ops all os) k (st.put o.dst (.tup [.sc (.bool false)])))
    (h2 : ∀ j x n, M[j]? = some (x, n) → seen.contains j = false → Go P T Q (.ops all os) k ((st.setO [(it, iO r M.length (seen.push j)), (r, mO M)]).put o.dst (.tup [.sc (.bool true), .un, .sc (.int .i64 n)])))
    (hg : wantedA all st o = some true := by (simp only [go_sem, Nat.reduceEqDiff, Nat.reduceLT, Nat.reduceLeDiff, Nat.reduceAdd, Nat.reduceSub, reduceCtorEq] <;> rfl)) (ho : o.op = .next m false := by rfl)
    (hm : evo st m = .sc (.pointer (some ⟨it, 0, none⟩)) := by (simp only [go_sem] <;> rfl)) (hb : st.ob = [(it, iO r M.length seen), (r, mO M)] := by rfl) : Go P T Q (.ops all (o :: os)) k st :=
  .byS hg (.nx ho hm hne hb) (fun s hs => by
    rcases hs with ⟨a, rfl⟩ | ⟨j, x, n, a, b, rfl⟩
    · exact h1 a
    · exact h2 j x n a b)
theorem Go.en {m : Operand} {M : List (Place × Int)} {seen : Array Nat} {j : Nat} {x : Place} {n : Int} (hj : M[j]? = some (x, n)) (h : Go P T Q (.ops all os) k st2)
    (hg : wantedA all st o = some true := by (simp only [go_sem, Nat.reduceEqDiff, Nat.reduceLT, Nat.reduceLeDiff, Nat.reduceAdd, Nat.reduceSub, reduceCtorEq] <;> rfl)) (ho : o.op = .entry m := by rfl)
    (hm : evo st m = .sc (.pointer (some ⟨it, 0, none⟩)) := by (simp only [go_sem] <;> rfl)) (hb : st.ob = [(it, iO r M.length (seen.push j)), (r, mO M)] := by rfl)
    (e : st.put o.dst (.tup [.un, .sc (.int .i64 n)]) = st2 := by (simp only [go_sem] <;> rfl)) : Go P T Q (.ops all (o :: os)) k st := by
  subst e
  exact .by hg (.en ho hm hj hb) h
/-- a loop over a row, with the objects that change -/
theorem Go.rngO {body : Code} {J : Nat → St} (keep : List Nat) (u : Nat → List (Nat × AV)) (uh : Nat → List (Nat × Row)) (uo : Nat → List (Nat × Obj)) (H : Nat → Prop) (N : Nat) (h0 : H 0)
    (hs : ∀ i, i ≤ N → H i → (i < N → H (i + 1) → Go P T Q (.lw body) k (J (i + 1))) → Go P T Q (.code body) (.lp body :: k) (J i))
    (e : ∀ i : Nat, ((((st.cut keep st.nx).srt).setL (u i)).setH (uh i)).setO (uo i) = J i := by (intro i; simp only [go_sem, St.setO, Nat.reduceEqDiff, Nat.reduceLT, Nat.reduceLeDiff, Nat.reduceAdd, Nat.reduceSub, reduceCtorEq]; rfl))
    (e0 : (st.cut keep st.nx).srt = J 0 := by (simp only [go_sem, St.setO, Nat.reduceEqDiff, Nat.reduceLT, Nat.reduceLeDiff, Nat.reduceAdd, Nat.reduceSub, reduceCtorEq, *]; try rfl)) : Go P T Q (.lw body) k st :=
  Go.cutN keep (Go.eq e0 (Go.iterH J H N hs 0 (Nat.zero_le _) h0))
/-- the round over a map -/
theorem Go.rngM {body : Code} {J : Array Nat → St} (keep : List Nat) (M : List (Place × Int)) (it r : Nat)
    (hs : ∀ seen : Array Nat, (∀ j p, M[j]? = some p → seen.contains j = true → p.2 = 0) →
      (∀ j p, M[j]? = some p → seen.contains j = false → p.2 = 0 → Go P T Q (.lw body) k (J (seen.push j))) → Go P T Q (.code body) (.lp body :: k) (J seen))
    (e : ∀ s : Array Nat, ((st.cut keep st.nx).srt).setO [(it, iO r M.length s), (r, mO M)] = J s := by (intro s; simp only [go_sem, St.setO, Nat.reduceEqDiff, Nat.reduceLT, Nat.reduceLeDiff, Nat.reduceAdd, Nat.reduceSub, reduceCtorEq]; rfl))
    (e0 : (st.cut keep st.nx).srt = J #[] := by (simp only [go_sem, St.setO, Nat.reduceEqDiff, Nat.reduceLT, Nat.reduceLeDiff, Nat.reduceAdd, Nat.reduceSub, reduceCtorEq, *]; try rfl)) : Go P T Q (.lw body) k st := by
  refine Go.cutN keep (Go.eq e0 (Go.loopW J (fun s => ∀ j p, M[j]? = some p → s.contains j = true → p.2 = 0) (fun s => ((List.range M.length).filter fun j => !s.contains j).length) (fun s hH ih => ?_) #[] (by simp)))
  refine hs s hH fun j p hj hc hp => ih _ ?_ ?_
  · have hjl := lt_of_get hj
    have hle : ∀ l : List Nat, (l.filter fun q => !(s.push j).contains q).length ≤ (l.filter fun q => !s.contains q).length ∧ (j ∈ l → (l.filter fun q => !(s.push j).contains q).length < (l.filter fun q => !s.contains q).length) := by
      intro l
      induction l with
      | nil => simp
      | cons q l ihl =>
        simp only [List.filter_cons, Array.contains_push]
        have h1 := ihl.1
        by_cases hq : q = j
        · subst hq
          simp only [BEq.rfl, Bool.or_true, Bool.not_true, Bool.false_eq_true, if_false, hc, Bool.not_false, if_true, List.length_cons]
          simp only [Array.contains_push] at h1
          exact ⟨by omega, fun _ => by omega⟩
        · have hb : (q == j) = false := by simpa using hq
          simp only [hb, Bool.or_false, List.mem_cons]
          have h2 := ihl.2
          simp only [Array.contains_push] at h1 h2
          split
          · simp only [List.length_cons]; exact ⟨by omega, fun h => by rcases h with h | h; exact absurd h.symm hq; have := h2 h; omega⟩
          · exact ⟨h1, fun h => by rcases h with h | h; exact absurd h.symm hq; exact h2 h⟩
    exact (hle _).2 (List.mem_range.2 hjl)
  · intro j2 p2 h2 hc2
    rw [Array.contains_push] at hc2
    by_cases hq : j2 = j
    · subst hq; rw [hj] at h2; cases h2; exact hp
    · have hb : (j2 == j) = false := by simpa using hq
      rw [hb, Bool.or_false] at hc2
      exact hH j2 p2 h2 hc2
end
end Go.Proofs.AM
