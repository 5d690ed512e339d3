/- A part of the proof: the walk of functions of the program, or the rules of the walk. -/
import Derived.Test.YthilnfccfjcgfaaGreatA1O0
import Derived.Below
set_option linter.unusedSimpArgs false
set_option linter.unusedVariables false
namespace Go.Proofs.AM
open Go Go.RowKit
section
variable {Z : SzF} {w : World} {Sf : Fl → Nat → Prop} {φ : Nat → Option Hd}
theorem repX_a {x : AV} {v : Value} (h : RepW Z w (Sf .a) x v) (h1 : v.oneCell' = true) : RepX Z w Sf φ (setFl .a x) v [] := by
  cases h with
  | sc h => exact .sc h
  | nl => exact .nl
  | ud => simp [undef, Value.oneCell'] at h1
  | un => exact .un
  | uc h => exact .uc h
  | agg => simp [Value.oneCell'] at h1
  | tup => simp [Value.oneCell'] at h1
  | ls0 => exact .va .ls0
  | ls a1 a2 a3 a4 a5 a6 a7 a8 => exact .va (.ls a1 a2 a3 a4 a5 a6 a7 a8)
  | vp a1 a2 a3 a4 a5 => exact .vp (.vp a1 a2 a3 a4 a5)
  | fn => exact .uc rfl
theorem repXs_a {xs : List AV} {vs : List Value} (h : RepWs Z w (Sf .a) xs vs) (h1 : ∀ v ∈ vs, v.oneCell' = true) : RepXs Z w Sf φ (setFls .a xs) vs [] := by
  induction xs generalizing vs with
  | nil => cases h; exact .nil
  | cons x xs ih =>
    cases h with
    | cons h hs => exact .cons0 (repX_a h (h1 _ (by simp))) (ih hs fun v hv => h1 v (by simp [hv]))
theorem reads_agg {S : Nat → Prop} {ys : List AV} {cs : Array Value} (h : RepWs Z w S ys cs.toList) (h1 : ∀ v ∈ cs.toList, v.oneCell' = true) : RepX Z w (Sa S) φ (argV (.agg ys)) (.agg cs) [] := by
  have := RepX.agg (Z := Z) (w := w) (Sf := Sa S) (φ := φ) (repXs_a (Sf := Sa S) (φ := φ) h h1) h1
  simpa [argV, setFlV] using this
theorem reads_one {S : Nat → Prop} {y : AV} {v : Value} (h : RepWs Z w S [y] [v]) (h1 : v.oneCell' = true) (hy : ∀ l, y ≠ .agg l) (hf : ∀ f l, y ≠ .fn f l) : RepX Z w (Sa S) φ (argV y) v [] := by
  cases h with
  | cons h _ =>
    have := repX_a (Sf := Sa S) (φ := φ) h h1
    cases y <;> first | exact absurd rfl (hy _) | exact absurd rfl (hf _ _) | simpa [argV, setFlV] using this
end
theorem FnC.closes {P : Program} {T : TT} {f : FuncId} {args : List AV} (hc : FnC P T false f args [] (.sc (.bool true)) []) (hT : TOk P T) (W : World) (vs : List Value)
    (hvs : RepXs T.Z W (Sa fun b => b < W.heap.size) noφ (args.map argV) vs []) : Calls P f vs.toArray W fun e W' => e = .returned (.bool true) ∧ Below W.heap.size W W' := by
  have := hc.2 W vs (fun b => b < W.heap.size) noφ noF hT (fun b hb => ⟨hb, by simp [noF]⟩) hvs (by simp) (fun i _ => ⟨rfl, rfl⟩) (by simp [noF]) (by simp [noF]) (by simp [noF])
  refine Calls.mono this ?_
  rintro e w' ⟨v, fr, fp', rfl, hv, _, _, _, _, _, _, _, _, hext⟩
  obtain ⟨rfl, _, _⟩ := repX_sc hv
  exact ⟨rfl, hext.os, hext.tape, hext.out, hext.size, fun k hk => hext.same k hk (by simp [noF])⟩
end Go.Proofs.AM
