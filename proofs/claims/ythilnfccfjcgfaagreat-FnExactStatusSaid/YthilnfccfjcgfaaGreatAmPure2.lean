/- A part of the proof: the walk of functions of the program, or the rules of the walk. -/
import Derived.Test.YthilnfccfjcgfaaGreatAmPure
set_option linter.unusedSimpArgs false
set_option linter.unusedVariables false
namespace Go.Proofs.AM
theorem casesPlaces_snoc (g : Gor) (n : Int) (k : Nat) (xs : List Case) (x : Case) : casesPlaces g n k (xs ++ [x]) = casesPlaces g n k xs ++ casePlace g n (k + xs.length) x := by
  induction xs generalizing k with
  | nil => simp [casesPlaces]
  | cons y ys ih => simp [casesPlaces, ih, Nat.add_assoc, Nat.add_comm 1]
theorem casePlace_len (g : Gor) (n : Int) (k : Nat) (x : Case) : (casePlace g n k x).length ≤ 1 := by unfold casePlace; split <;> simp
theorem casesPlaces_len (g : Gor) (n : Int) (k : Nat) (xs : List Case) : (casesPlaces g n k xs).length ≤ xs.length := by
  induction xs generalizing k with
  | nil => simp [casesPlaces]
  | cons y ys ih => simp only [casesPlaces, List.length_append, List.length_cons]; have := ih (k + 1); have := casePlace_len g n k y; omega
theorem casesPlaces_at (g : Gor) (n : Int) {xs : List Case} {i : Nat} {x : Case} (hx : xs[i]? = some x) : casesPlaces g n 0 (xs.take (i + 1)) = casesPlaces g n 0 (xs.take i) ++ casePlace g n i x := by
  have hlt : i < xs.length := (List.getElem?_eq_some_iff.1 hx).1
  rw [take_snoc hx, casesPlaces_snoc, List.length_take, Nat.min_eq_left (by omega), Nat.zero_add]
theorem placesP_len {p : Prog} {g : Gor} (n : Int) (h : AtOk p g) : (placesP p g n).length ≤ 4 := by
  unfold placesP
  simp only []
  split
  · simp
  · split
    · simp
    · split
      · rename_i h11
        obtain ⟨_, _, h3⟩ := h.sel h11
        have := casesPlaces_len g n 0 (selAtP p (instrAtP p g).a).cases
        simp [selTopOkP] at h3
        omega
      · split <;> simp
theorem gorsWant_snoc (p : Prog) (k : Nat) (gs : List Gor) (g : Gor) : gorsWant p k (gs ++ [g]) = gorsWant p k gs ++ gorWant p (k + gs.length) g := by
  induction gs generalizing k with
  | nil => simp [gorsWant]
  | cons y ys ih => simp [gorsWant, ih, Nat.add_assoc, Nat.add_comm 1]
theorem gorsWant_at (p : Prog) {gs : List Gor} {i : Nat} {g : Gor} (hx : gs[i]? = some g) : gorsWant p 0 (gs.take (i + 1)) = gorsWant p 0 (gs.take i) ++ gorWant p i g := by
  have hlt : i < gs.length := (List.getElem?_eq_some_iff.1 hx).1
  rw [take_snoc hx, gorsWant_snoc, List.length_take, Nat.min_eq_left (by omega), Nat.zero_add]
theorem gorWant_len {p : Prog} {g : Gor} (k : Nat) (hp : progOkP p = true) (h : gor1OkP p g = true) : (gorWant p k g).length ≤ 4 := by
  unfold gorWant; split
  · exact placesP_len _ (atOk hp h)
  · simp
theorem gorsWant_len {p : Prog} (k : Nat) {gs : List Gor} (hp : progOkP p = true) (h : gs.all (gorInP p) = true) : (gorsWant p k gs).length ≤ 4 * gs.length := by
  induction gs generalizing k with
  | nil => simp [gorsWant]
  | cons g gs ih =>
    simp only [List.all_cons, Bool.and_eq_true] at h
    have h1 : gor1OkP p g = true := by have := h.1; simp only [gorInP, Bool.and_eq_true] at this; exact this.1
    have := ih (k + 1) h.2
    have := gorWant_len k hp h1
    simp only [gorsWant, List.length_append, List.length_cons]
    omega
theorem chansPlaces_snoc (k : Nat) (cs : List Chan) (c : Chan) : chansPlaces k (cs ++ [c]) = chansPlaces k cs ++ chanPlaces (k + cs.length) c := by
  induction cs generalizing k with
  | nil => simp [chansPlaces]
  | cons y ys ih => simp [chansPlaces, ih, Nat.add_assoc, Nat.add_comm 1]
theorem chansPlaces_at {cs : List Chan} {i : Nat} {c : Chan} (hx : cs[i]? = some c) : chansPlaces 0 (cs.take (i + 1)) = chansPlaces 0 (cs.take i) ++ c.sends.map (sendPlace i) ++ c.recvs.map (recvPlace i) := by
  have hlt : i < cs.length := (List.getElem?_eq_some_iff.1 hx).1
  rw [take_snoc hx, chansPlaces_snoc, List.length_take, Nat.min_eq_left (by omega), Nat.zero_add, chanPlaces, List.append_assoc]
theorem musPlaces_snoc (k : Nat) (ms : List Mutex) (m : Mutex) : musPlaces k (ms ++ [m]) = musPlaces k ms ++ m.wait.map (muPlace (k + ms.length)) := by
  induction ms generalizing k with
  | nil => simp [musPlaces]
  | cons y ys ih => simp [musPlaces, ih, Nat.add_assoc, Nat.add_comm 1]
theorem musPlaces_at {ms : List Mutex} {i : Nat} {m : Mutex} (hx : ms[i]? = some m) : musPlaces 0 (ms.take (i + 1)) = musPlaces 0 (ms.take i) ++ m.wait.map (muPlace i) := by
  have hlt : i < ms.length := (List.getElem?_eq_some_iff.1 hx).1
  rw [take_snoc hx, musPlaces_snoc, List.length_take, Nat.min_eq_left (by omega), Nat.zero_add]
/-- how much an engine may hold -/
structure FitE (e : Eng) : Prop where
  chans : e.chans.length ≤ 1000
  mus : e.mus.length ≤ 1000
  sends : ∀ c ∈ e.chans, c.sends.length ≤ 1048576
  recvs : ∀ c ∈ e.chans, c.recvs.length ≤ 1048576
  wait : ∀ m ∈ e.mus, m.wait.length ≤ 1048576
theorem chansPlaces_len (k : Nat) {cs : List Chan} (h1 : ∀ c ∈ cs, c.sends.length ≤ 1048576) (h2 : ∀ c ∈ cs, c.recvs.length ≤ 1048576) : (chansPlaces k cs).length ≤ 2097152 * cs.length := by
  induction cs generalizing k with
  | nil => simp [chansPlaces]
  | cons c cs ih =>
    have := ih (k + 1) (fun x hx => h1 x (by simp [hx])) (fun x hx => h2 x (by simp [hx]))
    have := h1 c (by simp)
    have := h2 c (by simp)
    simp only [chansPlaces, chanPlaces, List.length_append, List.length_map, List.length_cons]
    omega
theorem musPlaces_len (k : Nat) {ms : List Mutex} (h1 : ∀ m ∈ ms, m.wait.length ≤ 1048576) : (musPlaces k ms).length ≤ 1048576 * ms.length := by
  induction ms generalizing k with
  | nil => simp [musPlaces]
  | cons c cs ih =>
    have := ih (k + 1) (fun x hx => h1 x (by simp [hx]))
    have := h1 c (by simp)
    simp only [musPlaces, List.length_append, List.length_map, List.length_cons]
    omega
theorem stateGo_snoc (s : Int) (k : Nat) (gs : List Gor) (g : Gor) : stateGo s k (gs ++ [g]) = stateGo s k gs ++ (if g.state = s then [((k + gs.length : Nat) : Int)] else []) := by
  induction gs generalizing k with
  | nil => simp [stateGo]
  | cons y ys ih =>
    have e : k + 1 + ys.length = k + (ys.length + 1) := by omega
    simp only [List.cons_append, stateGo, ih, List.append_assoc, List.length_cons, e]
theorem stateGo_at (s : Int) {gs : List Gor} {i : Nat} {g : Gor} (hx : gs[i]? = some g) : stateGo s 0 (gs.take (i + 1)) = stateGo s 0 (gs.take i) ++ (if g.state = s then [(i : Int)] else []) := by
  have hlt : i < gs.length := (List.getElem?_eq_some_iff.1 hx).1
  rw [take_snoc hx, stateGo_snoc, List.length_take, Nat.min_eq_left (by omega), Nat.zero_add]
theorem stateGo_len (s : Int) (k : Nat) (gs : List Gor) : (stateGo s k gs).length ≤ gs.length := by
  induction gs generalizing k with
  | nil => simp [stateGo]
  | cons y ys ih => simp only [stateGo, List.length_append, List.length_cons]; have := ih (k + 1); split <;> simp <;> omega
theorem count_at {α : Type} [DecidableEq α] {xs : List α} {i : Nat} {y x : α} (hx : xs[i]? = some y) : (xs.take (i + 1)).count x = (xs.take i).count x + (if x = y then 1 else 0) := by
  rw [take_snoc hx, List.count_append]; congr 1
  by_cases h : x = y
  · subst h; simp
  · rw [if_neg h]; simp [Ne.symm h]
def acC (cs : List Chan) (i : Nat) : List Place := chansPlaces 0 (cs.take i)
def acS (cs : List Chan) (i : Nat) (x : Chan) (j : Nat) : List Place := chansPlaces 0 (cs.take i) ++ (x.sends.take j).map (sendPlace i)
def acR (cs : List Chan) (i : Nat) (x : Chan) (j : Nat) : List Place := chansPlaces 0 (cs.take i) ++ x.sends.map (sendPlace i) ++ (x.recvs.take j).map (recvPlace i)
def acM (cs : List Chan) (ms : List Mutex) (i : Nat) : List Place := chansPlaces 0 cs ++ musPlaces 0 (ms.take i)
def acW (cs : List Chan) (ms : List Mutex) (i : Nat) (m : Mutex) (j : Nat) : List Place := acM cs ms i ++ (m.wait.take j).map (muPlace i)
theorem acC_0 (cs : List Chan) : acC cs 0 = [] := by simp [acC, chansPlaces]
theorem acS_0 (cs : List Chan) (i : Nat) (x : Chan) : acS cs i x 0 = acC cs i := by simp [acS, acC]
theorem acS_s {cs : List Chan} {i : Nat} {x : Chan} {j : Nat} {y : Waiter} (h : x.sends[j]? = some y) : acS cs i x (j + 1) = acS cs i x j ++ [sendPlace i y] := by simp [acS, take_snoc h]
theorem acS_e {cs : List Chan} {i : Nat} {x : Chan} {j : Nat} (h : x.sends.length ≤ j) : acS cs i x j = acR cs i x 0 := by simp [acS, acR, List.take_of_length_le h]
theorem acR_s {cs : List Chan} {i : Nat} {x : Chan} {j : Nat} {y : Waiter} (h : x.recvs[j]? = some y) : acR cs i x (j + 1) = acR cs i x j ++ [recvPlace i y] := by simp [acR, take_snoc h]
theorem acR_e {cs : List Chan} {i : Nat} {x : Chan} {j : Nat} (hx : cs[i]? = some x) (h : x.recvs.length ≤ j) : acR cs i x j = acC cs (i + 1) := by simp [acR, acC, chansPlaces_at hx, List.take_of_length_le h]
theorem acC_e {cs : List Chan} (ms : List Mutex) {i : Nat} (h : cs.length ≤ i) : acC cs i = acM cs ms 0 := by simp [acC, acM, musPlaces, List.take_of_length_le h]
theorem acW_0 (cs : List Chan) (ms : List Mutex) (i : Nat) (m : Mutex) : acW cs ms i m 0 = acM cs ms i := by simp [acW]
theorem acW_s {cs : List Chan} {ms : List Mutex} {i : Nat} {m : Mutex} {j : Nat} {y : Int} (h : m.wait[j]? = some y) : acW cs ms i m (j + 1) = acW cs ms i m j ++ [muPlace i y] := by simp [acW, take_snoc h]
theorem acW_e {cs : List Chan} {ms : List Mutex} {i : Nat} {m : Mutex} {j : Nat} (hx : ms[i]? = some m) (h : m.wait.length ≤ j) : acW cs ms i m j = acM cs ms (i + 1) := by simp [acW, acM, musPlaces_at hx, List.take_of_length_le h]
theorem acM_e {e : Eng} {i : Nat} (h : e.mus.length ≤ i) : acM e.chans e.mus i = allPlaces e := by simp [acM, allPlaces, List.take_of_length_le h]
theorem acC_len {e : Eng} (hf : FitE e) (i : Nat) : (acC e.chans i).length ≤ 2097152000 := by
  have := chansPlaces_len 0 (cs := e.chans.take i) (fun c hc => hf.sends c (List.mem_of_mem_take hc)) (fun c hc => hf.recvs c (List.mem_of_mem_take hc))
  have := hf.chans
  simp only [acC, List.length_take] at *; omega
theorem acS_len {e : Eng} (hf : FitE e) {i : Nat} {x : Chan} (hx : e.chans[i]? = some x) (j : Nat) : (acS e.chans i x j).length ≤ 2099000000 := by
  have := acC_len hf i
  have := hf.sends x (List.mem_of_getElem? hx)
  simp only [acC, acS, List.length_append, List.length_map, List.length_take] at *; omega
theorem acR_len {e : Eng} (hf : FitE e) {i : Nat} {x : Chan} (hx : e.chans[i]? = some x) (j : Nat) : (acR e.chans i x j).length ≤ 2101000000 := by
  have := acC_len hf i
  have := hf.sends x (List.mem_of_getElem? hx)
  have := hf.recvs x (List.mem_of_getElem? hx)
  simp only [acC, acR, List.length_append, List.length_map, List.length_take] at *; omega
theorem acM_len {e : Eng} (hf : FitE e) (i : Nat) : (acM e.chans e.mus i).length ≤ 3200000000 := by
  have h1 := chansPlaces_len 0 (cs := e.chans) hf.sends hf.recvs
  have h2 := musPlaces_len 0 (ms := e.mus.take i) (fun c hc => hf.wait c (List.mem_of_mem_take hc))
  have := hf.chans
  have := hf.mus
  simp only [acM, List.length_append, List.length_take] at *; omega
theorem acW_len {e : Eng} (hf : FitE e) {i : Nat} {m : Mutex} (hx : e.mus[i]? = some m) (j : Nat) : (acW e.chans e.mus i m j).length ≤ 3202000000 := by
  have := acM_len hf i
  have := hf.wait m (List.mem_of_getElem? hx)
  simp only [acW, List.length_append, List.length_map, List.length_take] at *; omega
/-- how much an engine that is asked may hold -/
structure FitG (e : Eng) : Prop where
  sends : ∀ c ∈ e.chans, c.sends.length ≤ 1048576
  recvs : ∀ c ∈ e.chans, c.recvs.length ≤ 1048576
  wait : ∀ m ∈ e.mus, m.wait.length ≤ 1048576
  gs : e.gs.length ≤ 1048576
theorem fitE {p : Prog} {e : Eng} (h : FitG e) (hp : progOkP p = true) (ho : objectsP p e = true) : FitE e := by
  simp only [progOkP, Bool.and_eq_true, decide_eq_true_eq] at hp
  simp only [objectsP, Bool.and_eq_true, decide_eq_true_eq] at ho
  exact ⟨by omega, by omega, h.sends, h.recvs, h.wait⟩
end Go.Proofs.AM
