/- A part of the proof: the walk of functions of the program, or the rules of the walk. -/
import Derived.Test.YthilnfccfjcgfaaGreatAmTab
set_option linter.unusedSimpArgs false
set_option linter.unusedVariables false
namespace Go.Proofs.AM
open Go

attribute [go_sem] evalOps opEval evo tmGet hget hset St.put AV.cells putAt fieldOff evLoad ldV setFl setFls setFlV lds ld1 wantedA cst1 cstV leafB binA binB ariI bitI cmpI strS isB lenA strL srcA evAppend close close1 isIn dup St.sweep
  sw1 sws sw2 sw3 sw2s sw3s swRow swHp evStore fillA chunk rep0 passL0 passL0s passL passLs passV passVs argV land1 lands land2 land2s landV St.land closeR retOne retAll retA noA noAs noAss bndA lenC cutA cutT sliceL strA evSlice ev1 pureOp noRefs
attribute [go_sem] Bool.false_eq_true if_true if_false true_and and_true and_self Bool.true_and Bool.and_true Bool.and_self Bool.false_and Bool.and_false List.getD_cons_zero List.getD_cons_succ List.set_cons_zero List.set_cons_succ List.getElem?_cons_zero List.getElem?_cons_succ List.drop_succ_cons List.drop_zero List.take_succ_cons List.take_zero List.length_cons List.length_nil
  List.replicate_succ List.replicate_zero List.map_cons List.map_nil List.cons_append List.nil_append List.append_nil List.all_cons List.all_nil List.getElem?_nil List.getD_nil List.drop_nil List.take_nil List.flatMap_cons List.flatMap_nil

theorem Go.bound {P : Program} {T : TT} {Q : Exit → St → Prop} {k : List K} {st : St} {x : Ctl} (d : Nat) {fl : Fl} {E : TypeId} {xs : List (List AV)} (hd : tmGet st.tm d = .ls fl E xs) (h : xs.length ≤ maxLen → Go P T Q x k st) : Go P T Q x k st := by
  intro c e1 e2 hT hG a w hr
  refine h ?_ c e1 e2 hT hG a w hr
  obtain ⟨φ, fp, hx⟩ := hr
  have hv := hx.ev (.tmp d)
  have hd' : evo st (.tmp d) = .ls fl E xs := hd
  rw [hd'] at hv
  generalize a.eval (.tmp d) = vv at hv
  generalize hF : ([] : List Nat) = F at hv
  cases hv with
  | own0 => exact Nat.zero_le _
  | own => cases hF
  | va h => cases h with
    | ls0 => exact Nat.zero_le _
    | ls hS hb hc hm => omega
  | vn h => cases h with
    | ls0 => exact Nat.zero_le _
    | ls hS hb hc hm => omega
theorem Go.boundR {P : Program} {T : TT} {Q : Exit → St → Prop} {k : List K} {st : St} {x : Ctl} (id : Nat) {r : Row} (hd : hget st.hp id = some r) (h : r.xs.length ≤ maxLen → Go P T Q x k st) : Go P T Q x k st := by
  intro c e1 e2 hT hG a w hr
  refine h ?_ c e1 e2 hT hG a w hr
  obtain ⟨φ, fp, hx⟩ := hr
  obtain ⟨hd', h1, h2, h3, h4⟩ := hx.rows id r hd
  split at h4
  · rw [h4.1]; exact Nat.zero_le _
  · obtain ⟨cur, F', hb, k1, k2, _⟩ := h4; omega

theorem w64 {n : Int} (h1 : -9223372036854775808 ≤ n) (h2 : n ≤ 9223372036854775807) : IntKind.i64.wrap n = n := by rw [IntKind.wrap_i64]; omega
theorem mxl : maxLen = 9223372036854775807 := rfl
theorem fnOf {P : Program} {T : TT} {vw : Bool} {f : FuncId} {fn : Func} {body : Code} {args : List AV} {rows : List Row} {res : AV} {rows' : List (Option Row)} {nt : Nat} {rs : Array ResultVar} (kp : Nat)
    (hf : P.funcs[f]? = some fn) (hnt : fn.ntmps = nt) (hrs : fn.results = rs) (hn : (fn.name == "runtime.NumGoroutine") = false) (hb : fn.body = some body) (hkp : kp ≤ rows.length) (hrow : (rows'.drop kp).all Option.isNone = true)
    (h : Go P T (RetQ T rs.toList vw kp res rows') (.code body) [] (st0 args rows kp nt)) : FnC P T vw f args rows res rows' := by
  subst hnt hrs
  exact fn_of_go kp hf hn hb hkp hrow h
end Go.Proofs.AM
