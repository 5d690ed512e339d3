/- A part of the proof: the walk of functions of the program, or the rules of the walk. -/
import Derived.Test.YthilnfccfjcgfaaGreatAmSplit
set_option linter.unusedSimpArgs false
set_option linter.unusedVariables false
namespace Go.Proofs.AM
open Go

/-- what a branch found: kept out of the rewriting until it is asked for -/
def Hb (p : Prop) : Prop := p
@[simp] theorem Hb_iff {p : Prop} : Hb p ↔ p := Iff.rfl
attribute [go_sem] decide_true decide_false Nat.zero_add Nat.add_zero Nat.sub_zero List.take_length List.map_append List.length_append List.length_map Int.toNat_natCast List.getElem?_map Option.map_some Option.map_none noAss noAss_map

attribute [go_sem ←] List.map_take List.map_drop
section
variable {P : Program} {T : TT} {Q : Exit → St → Prop} {k : List K} {st st' st1 st2 : St} {x : Ctl}
theorem Go.o {all : Array Oper} {o : Oper} {os : List Oper} (hg : Go P T Q (.ops all os) k st')
    (h : ev0 T all st o = some st' := by (simp only [go_sem, Nat.reduceEqDiff, Nat.reduceLT, Nat.reduceLeDiff, Nat.reduceAdd, Nat.reduceSub, reduceCtorEq, *]; rfl)) : Go P T Q (.ops all (o :: os)) k st := Go.one h hg
theorem Go.cs {d : Nat} {b : Bool} {y z : Code} (h1 : Hb (b = true) → Go P T Q (.code y) k st1) (h2 : Hb (b = false) → Go P T Q (.code z) k st2)
    (hd : tmGet st.tm d = .sc (.bool b) := by (simp only [go_sem]; rfl)) (e1 : ({ st with tm := st.tm.set d (.sc (.bool true)) } : St) = st1 := by (simp only [go_sem]; rfl))
    (e2 : ({ st with tm := st.tm.set d (.sc (.bool false)) } : St) = st2 := by (simp only [go_sem]; rfl)) : Go P T Q (.code (.cond (.tmp d) y z)) k st := by
  subst e1 e2; exact Go.condS hd h1 h2
theorem Go.cT {d : Operand} {y z : Code} (h1 : Go P T Q (.code y) k st) (hd : evo st d = .sc (.bool true) := by simp only [go_sem]) : Go P T Q (.code (.cond d y z)) k st := Go.condT hd h1
theorem Go.cF {d : Operand} {y z : Code} (h1 : Go P T Q (.code z) k st) (hd : evo st d = .sc (.bool false) := by simp only [go_sem]) : Go P T Q (.code (.cond d y z)) k st := Go.condF hd h1
theorem Go.sp (d : Nat) {b : Bool} (h1 : Hb (b = true) → Go P T Q x k st1) (h2 : Hb (b = false) → Go P T Q x k st2)
    (hd : tmGet st.tm d = .sc (.bool b) := by (simp only [go_sem]; rfl)) (e1 : ({ st with tm := st.tm.set d (.sc (.bool true)) } : St) = st1 := by (simp only [go_sem]; rfl))
    (e2 : ({ st with tm := st.tm.set d (.sc (.bool false)) } : St) = st2 := by (simp only [go_sem]; rfl)) : Go P T Q x k st := by
  subst e1 e2; exact Go.split hd h1 h2
theorem Go.cl {all : Array Oper} {o : Oper} {os : List Oper} {fv : Operand} {xs : Array Operand} {ts : Array TypeId} {f : FuncId} {caps as : List AV} {res : AV}
    (hc : FnC P T false f as [] res []) (h : Go P T Q (.ops all os) k st2)
    (hg : wantedA all st o = some true := by (simp only [go_sem, Nat.reduceEqDiff, Nat.reduceLT, Nat.reduceLeDiff, Nat.reduceAdd, Nat.reduceSub, reduceCtorEq] <;> rfl)) (ho : o.op = .call { callee := .value fv, args := xs, argTypes := ts } := by rfl) (hfv : evo st fv = .fn f caps := by first | rfl | (simp only [go_sem]; rfl))
    (ha : Les (passVs st (xs.toList.map (evo st) ++ caps)) (as.map argV) := by exact .of (by simp only [go_sem, Nat.reduceEqDiff, Nat.reduceLT, Nat.reduceLeDiff, Nat.reduceAdd, Nat.reduceSub, reduceCtorEq, *] <;> rfl))
    (e : st.land o.dst res = st2 := by (simp only [go_sem]; rfl)) : Go P T Q (.ops all (o :: os)) k st := by
  subst e; exact Go.call hg ho hfv hc ha h
theorem FnC.ini {P : Program} {T : TT} {vw : Bool} {f : FuncId} {fn : Func} {body : Code} {args : List AV} {rows : List Row} {res : AV} {rows' : List (Option Row)} {nt : Nat} {rs : Array ResultVar} {st : St}
    (hnt : fn.ntmps = nt) (hrs : fn.results = rs)
    (h : Go P T (RetQ T rs.toList vw 0 res rows') (.code body) [] st) (hf : P.funcs[f]? = some fn := by kernel_rfl) (hb : fn.body = some body := by rfl) (hn : (fn.name == "runtime.NumGoroutine") = false := by rfl)
    (hrow : rows'.all Option.isNone = true := by rfl) (e : st0 args rows 0 nt = st := by (unfold st0; simp only [go_sem]; rfl)) : FnC P T vw f args rows res rows' := by
  subst e
  exact fnOf 0 hf hnt hrs hn hb (Nat.zero_le _) hrow h
theorem Go.it {body : Code} (I : Nat → St) (H : Nat → Prop) (N : Nat) (keep : List Nat) (n : Nat) (h0 : H 0) (hs : ∀ i, i ≤ N → H i → (i < N → H (i + 1) → Go P T Q (.lw body) k (I (i + 1))) → Go P T Q (.code body) (.lp body :: k) (I i)) (e : st.cut keep n = I 0) (hn : st.kp ≤ n := by exact Nat.zero_le _) :
    Go P T Q (.lw body) k st := Go.cut keep n hn (Go.eq e (Go.iterH I H N hs 0 (Nat.zero_le _) h0))
end
section
variable {P : Program} {T : TT} {all : Array Oper} {st st1 st2 : St} {G : St → Prop} {l : List (Nat × Bool)}
theorem DlK.o {i : Nat} {o : Oper} (hr : DlK P T all st1 l G) (ho : pickL all.toList i = some o := by rfl)
    (h : ev1 T all st o = some st1 := by (simp only [go_sem, Nat.reduceEqDiff, Nat.reduceLT, Nat.reduceLeDiff, Nat.reduceAdd, Nat.reduceSub, reduceCtorEq, *]; rfl)) : DlK P T all st ((i, false) :: l) G := DlK.op ho h hr
theorem DlK.sp (d : Nat) {b : Bool} (h1 : Hb (b = true) → DlK P T all st1 l G) (h2 : Hb (b = false) → DlK P T all st2 l G)
    (hd : tmGet st.tm d = .sc (.bool b) := by (simp only [go_sem]; rfl)) (e1 : ({ st with tm := st.tm.set d (.sc (.bool true)) } : St) = st1 := by (simp only [go_sem]; rfl))
    (e2 : ({ st with tm := st.tm.set d (.sc (.bool false)) } : St) = st2 := by (simp only [go_sem]; rfl)) : DlK P T all st l G := by
  subst e1 e2; exact DlK.split hd h1 h2
theorem DlK.cl {i : Nat} {o : Oper} {fv : Operand} {xs : Array Operand} {ts : Array TypeId} {f : FuncId} {caps as : List AV} {res res' : AV}
    (hc : FnC P T false f as [] res []) (hr : DlK P T all st2 l G)
    (hi : pickL all.toList i = some o := by rfl) (hg : wantedA all st o = some true := by (simp only [go_sem, Nat.reduceEqDiff, Nat.reduceLT, Nat.reduceLeDiff, Nat.reduceAdd, Nat.reduceSub, reduceCtorEq] <;> rfl)) (ho : o.op = .call { callee := .value fv, args := xs, argTypes := ts } := by rfl) (hfv : evo st fv = .fn f caps := by first | rfl | (simp only [go_sem]; rfl))
    (ha : Les (passVs st (xs.toList.map (evo st) ++ caps)) (as.map argV) := by exact .of (by simp only [go_sem, Nat.reduceEqDiff, Nat.reduceLT, Nat.reduceLeDiff, Nat.reduceAdd, Nat.reduceSub, reduceCtorEq, *] <;> rfl))
    (hl : ∀ n, landV n res = (res', []) := by exact fun _ => rfl) (e : st.put o.dst res' = st2 := by (simp only [go_sem]; rfl)) : DlK P T all st ((i, false) :: l) G := by
  subst e; exact DlK.call hi hg ho hfv hc ha hl hr
theorem DlK.cc {i : Nat} {o : Oper} {fv : Operand} {xs : Array Operand} {ts : Array TypeId} {f : FuncId} {caps as : List AV} {res : AV}
    (hc : FnC P T false f as [] res []) (hr : DlK P T all st2 l G)
    (hi : pickL all.toList i = some o := by rfl) (hg : wantedA all st o = some true := by (simp only [go_sem, Nat.reduceEqDiff, Nat.reduceLT, Nat.reduceLeDiff, Nat.reduceAdd, Nat.reduceSub, reduceCtorEq] <;> rfl)) (ho : o.op = .call { callee := .value fv, args := xs, argTypes := ts } := by rfl) (hfv : evo st fv = .fn f caps := by first | rfl | (simp only [go_sem]; rfl))
    (ha : Les (passVs st (xs.toList.map (evo st) ++ caps)) (as.map argV) := by exact .of (by simp only [go_sem, Nat.reduceEqDiff, Nat.reduceLT, Nat.reduceLeDiff, Nat.reduceAdd, Nat.reduceSub, reduceCtorEq, *] <;> rfl))
    (e : st.land o.dst res = st2 := by (simp only [go_sem]; rfl)) : DlK P T all st ((i, true) :: l) G := by
  subst e; exact DlK.callC hi hg ho hfv hc ha hr
end
theorem RetQ.mk {T : TT} {st : St} {rs : List ResultVar} {res y : AV} {ks : List Nat} {e : Exit} (hl : y = res) (he : e = .normal ∨ e = .ret := by first | exact .inr rfl | exact .inl rfl) (hk : st.kp = 0 := by rfl)
    (h : retA T st rs = some (y, ks) := by (simp only [go_sem]; rfl)) (hd : dup ks = false := by rfl) (hn : noA false res = true := by first | rfl | simp only [go_sem]) : RetQ T rs false 0 res [] e st := .mk1 he hk h hd hn hl
/-! ### loops and ways that meet, with little print -/
def St.setL (st : St) : List (Nat × AV) → St
  | [] => st
  | (d, v) :: l => St.setL { st with tm := st.tm.set d v } l
def St.setH (st : St) : List (Nat × Row) → St
  | [] => st
  | (i, r) :: l => St.setH { st with hp := hset st.hp i r } l
/-- the rows in order -/
def insR (p : Nat × Row) : List (Nat × Row) → List (Nat × Row)
  | [] => [p]
  | q :: l => if p.1 < q.1 then q :: insR p l else p :: q :: l
def srtR : List (Nat × Row) → List (Nat × Row)
  | [] => []
  | p :: l => insR p (srtR l)
def St.srt (st : St) : St := { st with hp := srtR st.hp }
theorem hget_insR (p : Nat × Row) (l : List (Nat × Row)) (i : Nat) : hget (insR p l) i = if i = p.1 then some p.2 else hget l i := by
  induction l with
  | nil => rfl
  | cons q l ih =>
    obtain ⟨k, r⟩ := q
    unfold insR
    split
    · rename_i h
      rw [hget_cons, ih, hget_cons]
      by_cases e : i = k
      · subst e; rw [if_pos rfl, if_neg (by omega)]; simp
      · simp [e]
    · rfl
theorem hget_srtR (l : List (Nat × Row)) (i : Nat) : hget (srtR l) i = hget l i := by
  induction l with
  | nil => rfl
  | cons p l ih => obtain ⟨k, r⟩ := p; rw [srtR, hget_insR, hget_cons, ih]
theorem RelX.srt {c : Cx} {st : St} {a : Act} {w : World} {φ : Nat → Option Hd} {fp : Nat → List Nat} (h : RelX c st a w φ fp) : RelX c st.srt a w φ fp :=
  { h with
    rows := fun id r hr => h.rows id r (by rw [← hget_srtR]; exact hr)
    dead := fun id hr => h.dead id (by rw [← hget_srtR]; exact hr)
    fresh := fun id hn => by show hget (srtR _) id = _; rw [hget_srtR]; exact h.fresh id hn
    kept := fun id hlt hne => h.kept id hlt (by rw [← hget_srtR]; exact hne) }
attribute [go_sem] St.setL St.setH insR srtR St.srt
section
variable {P : Program} {T : TT} {Q : Exit → St → Prop} {k : List K} {st st' st1 st2 S : St} {x : Ctl}
theorem Go.cutN (keep : List Nat) (h : Go P T Q x k (st.cut keep st.nx).srt) : Go P T Q x k st := by
  intro c e1 e2 hT hG a w hr
  obtain ⟨φ, fp, hx⟩ := hr
  exact h c e1 e2 hT hG a w ⟨_, _, (hx.cut hG keep st.nx hx.kpn).srt⟩
theorem Go.srt (h : Go P T Q x k st.srt) : Go P T Q x k st := by
  intro c e1 e2 hT hG a w hr
  obtain ⟨φ, fp, hx⟩ := hr
  exact h c e1 e2 hT hG a w ⟨_, _, hx.srt⟩
/-- a loop over a row: what changes from round to round is told, all else stays as it is -/
theorem Go.rng {body : Code} {J : Nat → St} (keep : List Nat) (u : Nat → List (Nat × AV)) (uh : Nat → List (Nat × Row)) (H : Nat → Prop) (N : Nat) (h0 : H 0)
    (hs : ∀ i, i ≤ N → H i → (i < N → H (i + 1) → Go P T Q (.lw body) k (J (i + 1))) → Go P T Q (.code body) (.lp body :: k) (J i))
    (e : ∀ i : Nat, (((st.cut keep st.nx).srt).setL (u i)).setH (uh i) = J i := by (intro i; simp only [go_sem, Nat.reduceEqDiff, Nat.reduceLT, Nat.reduceLeDiff, Nat.reduceAdd, Nat.reduceSub, reduceCtorEq]; rfl))
    (e0 : (st.cut keep st.nx).srt = J 0 := by (simp only [go_sem, Nat.reduceEqDiff, Nat.reduceLT, Nat.reduceLeDiff, Nat.reduceAdd, Nat.reduceSub, reduceCtorEq, *]; try rfl)) : Go P T Q (.lw body) k st :=
  Go.cutN keep (Go.eq e0 (Go.iterH J H N hs 0 (Nat.zero_le _) h0))
theorem Go.back (keep : List Nat) (h : Go P T Q x k S) (e : (st.cut keep S.nx).srt = S := by (simp only [go_sem, Nat.reduceEqDiff, Nat.reduceLT, Nat.reduceLeDiff, Nat.reduceAdd, Nat.reduceSub, reduceCtorEq, *]; try rfl))
    (hk : st.kp ≤ S.nx := by first | exact Nat.zero_le _ | decide) : Go P T Q x k st := Go.cut keep S.nx hk (Go.srt (Go.eq e h))
/-- ways that meet -/
theorem Go.jn {A B : Code} {S : St} (R : Prop) (h1 : (R → Go P T Q (.code B) k S) → Go P T Q (.code A) (.seq B :: k) st) (h2 : R → Go P T Q (.code B) k S) : Go P T Q (.code (.seq A B)) k st := .seq (h1 h2)
theorem Go.jx {B : Code} (keep : List Nat) (h : Go P T Q (.code B) k S) (e : (st.cut keep st.nx).srt = S := by (simp only [go_sem, Nat.reduceEqDiff, Nat.reduceLT, Nat.reduceLeDiff, Nat.reduceAdd, Nat.reduceSub, reduceCtorEq, *]; try rfl)) : Go P T Q (.ex .normal) (.seq B :: k) st :=
  .xseq (.cutN keep (.eq e h))
end
theorem all_step {α : Type} {f : α → Bool} {l : List α} {i : Nat} {x : α} (hx : l[i]? = some x) (h : (l.take i).all f = true) (hf : f x = true) : (l.take (i + 1)).all f = true := by
  rw [List.take_add_one, hx]; simp [List.all_append, h, hf]
theorem all_no {α : Type} {f : α → Bool} {l : List α} {i : Nat} {x : α} (hx : l[i]? = some x) (hf : f x = false) : l.all f = false := by
  rw [List.all_eq_false]; exact ⟨x, List.mem_of_getElem? hx, by simp [hf]⟩
theorem all_yes {α : Type} {f : α → Bool} {l : List α} {i : Nat} (h : (l.take i).all f = true) (hi : l.length ≤ i) : l.all f = true := by
  rwa [List.take_of_length_le hi] at h
theorem RetQ.mkL {T : TT} {st : St} {rs : List ResultVar} {res y : AV} {ks : List Nat} {e : Exit} (hl : Le y res) (he : e = .normal ∨ e = .ret := by first | exact .inr rfl | exact .inl rfl) (hk : st.kp = 0 := by rfl)
    (h : retA T st rs = some (y, ks) := by (simp only [go_sem]; rfl)) (hd : dup ks = false := by rfl) (hn : noA false y = true := by first | rfl | simp only [go_sem]) : RetQ T rs false 0 res [] e st := .mk0 he hk h hd hl hn
end Go.Proofs.AM
