/- A part of the proof: the walk of functions of the program, or the rules of the walk. -/
import Derived.Test.YthilnfccfjcgfaaGreatAmLoop
set_option linter.unusedSimpArgs false
set_option linter.unusedVariables false
namespace Go.Proofs.AM
open Go
section
variable {P : Program} {T : TT} {Q : Exit → St → Prop} {k : List K} {st st' : St} {x : Ctl}
/-- a cond that writes down what it found -/
theorem Go.condS {d : Nat} {b : Bool} {y z : Code} (hd : tmGet st.tm d = .sc (.bool b)) (h1 : b = true → Go P T Q (.code y) k { st with tm := st.tm.set d (.sc (.bool true)) }) (h2 : b = false → Go P T Q (.code z) k { st with tm := st.tm.set d (.sc (.bool false)) }) : Go P T Q (.code (.cond (.tmp d) y z)) k st := by
  refine Go.split hd (fun hb => ?_) (fun hb => ?_)
  · subst hb
    refine Go.cond (b := true) ?_ (fun _ => h1 rfl) (fun h => by cases h)
    have hl : d < st.tm.length := by
      rcases Nat.lt_or_ge d st.tm.length with hh | hh
      · exact hh
      · simp [tmGet, List.getD_eq_getElem?_getD, List.getElem?_eq_none hh] at hd
    simp [evo, tmGet, List.getD_eq_getElem?_getD, hl]
  · subst hb
    refine Go.cond (b := false) ?_ (fun h => by cases h) (fun _ => h2 rfl)
    have hl : d < st.tm.length := by
      rcases Nat.lt_or_ge d st.tm.length with hh | hh
      · exact hh
      · simp [tmGet, List.getD_eq_getElem?_getD, List.getElem?_eq_none hh] at hd
    simp [evo, tmGet, List.getD_eq_getElem?_getD, hl]
theorem Go.condT {d : Operand} {y z : Code} (hd : evo st d = .sc (.bool true)) (h1 : Go P T Q (.code y) k st) : Go P T Q (.code (.cond d y z)) k st := Go.cond hd (fun _ => h1) (fun h => by cases h)
theorem Go.condF {d : Operand} {y z : Code} (hd : evo st d = .sc (.bool false)) (h1 : Go P T Q (.code z) k st) : Go P T Q (.code (.cond d y z)) k st := Go.cond hd (fun h => by cases h) (fun _ => h1)
theorem DlK.split {all : Array Oper} {l : List (Nat × Bool)} {G : St → Prop} {d : Nat} {b : Bool} (hd : tmGet st.tm d = .sc (.bool b)) (h1 : b = true → DlK P T all { st with tm := st.tm.set d (.sc (.bool true)) } l G) (h2 : b = false → DlK P T all { st with tm := st.tm.set d (.sc (.bool false)) } l G) : DlK P T all st l G := by
  have key : ∀ u, tmGet st.tm d = u → { st with tm := st.tm.set d u } = st := by
    intro u hu
    have : st.tm.set d u = st.tm := by
      subst hu
      apply List.ext_getElem
      · simp
      · intro i h1 h2
        rw [List.getElem_set]
        split
        · rename_i e; subst e; simp [tmGet, List.getD_eq_getElem?_getD, h2]
        · rfl
    rw [this]
  cases b with
  | true => have := h1 rfl; rwa [key _ hd] at this
  | false => have := h2 rfl; rwa [key _ hd] at this
end
end Go.Proofs.AM
