/- A part of the proof: the walk of functions of the program, or the rules of the walk. -/
import Derived.Test.YthilnfccfjcgfaaGreatAmData
set_option linter.unusedSimpArgs false
set_option linter.unusedVariables false
namespace Go.Proofs.AM
/-! ### what the functions answer, over plain data -/
deriving instance Inhabited for Instr, Case, Select, Proc, Prog, Item, Gor, Waiter, Chan, Mutex, Eng, Place, Pick, Deed, Log
def idxP (xs : List Int) (n : Int) : Int := if n ∈ xs then (xs.idxOf n : Int) else -1
theorem idx_found {xs : List Int} {n : Int} {i : Nat} (h : n ∉ xs.take i) (hx : xs[i]? = some n) : idxP xs n = i := by
  have hm : n ∈ xs := List.mem_of_getElem? hx
  unfold idxP; rw [if_pos hm]
  have hlt : i < xs.length := (List.getElem?_eq_some_iff.1 hx).1
  have e : xs = xs.take i ++ n :: xs.drop (i + 1) := by
    have := List.take_append_drop i xs
    rw [List.drop_eq_getElem_cons hlt, (List.getElem?_eq_some_iff.1 hx).2] at this
    exact this.symm
  rw [e, List.idxOf_append, if_neg h]; simp; omega
theorem idx_none {xs : List Int} {n : Int} (h : n ∉ xs) : idxP xs n = -1 := by unfold idxP; rw [if_neg h]
theorem idx_has {xs : List Int} {n : Int} : decide (0 ≤ idxP xs n) = decide (n ∈ xs) := by unfold idxP; split <;> simp_all
def isValP (n : Int) : Bool := decide (0 ≤ n) && decide (n ≤ 999)
def isRegP (n : Int) : Bool := decide (0 ≤ n) && decide (n < 6)
def isChanP (p : Prog) (n : Int) : Bool := decide (-1 ≤ n) && decide (n < p.caps.length)
def sharedP (op : Int) : Bool := decide (8 ≤ op) && decide (op ≤ 15)
def fieldsP (op : Int) : Int :=
  if op = 1 then 0 else if op = 6 ∨ op = 10 ∨ op = 11 ∨ op = 12 ∨ op = 13 ∨ op = 15 then 1 else if op = 2 ∨ op = 7 ∨ op = 8 ∨ op = 14 then 2
  else if op = 3 ∨ op = 4 ∨ op = 5 ∨ op = 9 then 3 else -1
def restP (i : Instr) (k : Int) : Bool := (decide (0 < k) || decide (i.a = 0)) && (decide (1 < k) || decide (i.b = 0)) && (decide (2 < k) || decide (i.c = 0))
def inP (n lo hi : Int) : Bool := decide (lo ≤ n) && decide (n ≤ hi)
def withinP (n lo hi : Int) : Bool := decide (lo ≤ n) && decide (n < hi)
theorem take_snoc {α : Type} {l : List α} {i : Nat} {x : α} (h : l[i]? = some x) : l.take (i + 1) = l.take i ++ [x] := by rw [List.take_add_one, h]; rfl
theorem in_within (n lo hi : Int) : inP n lo (hi - 1) = withinP n lo hi := by unfold inP withinP; rw [Bool.eq_iff_iff]; simp; omega
def instrOkP (p : Prog) (n : Int) (i : Instr) : Bool :=
  decide (0 ≤ fieldsP i.op) && restP i (fieldsP i.op) &&
  (if i.op = 2 then isRegP i.a && isValP i.b
  else if i.op = 3 ∨ i.op = 4 ∨ i.op = 5 then isRegP i.a && isRegP i.b && isRegP i.c
  else if i.op = 6 then withinP i.a 0 n
  else if i.op = 7 then isRegP i.a && withinP i.b 0 n
  else if i.op = 8 then isChanP p i.a && isRegP i.b
  else if i.op = 9 then isChanP p i.a && isRegP i.b && isRegP i.c
  else if i.op = 10 then isChanP p i.a
  else if i.op = 11 then withinP i.a 0 p.sels.length
  else if i.op = 12 ∨ i.op = 13 then withinP i.a 0 p.mus
  else if i.op = 14 then withinP i.a 0 p.procs.length && isRegP i.b
  else if i.op = 15 then isRegP i.a else true)
/-- what is left to ask where the fields that an instruction does not use are 0 -/
def instrArmP (p : Prog) (n : Int) (i : Instr) : Bool :=
  if i.op = 1 then true else if i.op = 2 then isRegP i.a && isValP i.b
  else if i.op = 3 ∨ i.op = 4 ∨ i.op = 5 then isRegP i.a && isRegP i.b && isRegP i.c
  else if i.op = 6 then withinP i.a 0 n
  else if i.op = 7 then isRegP i.a && withinP i.b 0 n
  else if i.op = 8 then isChanP p i.a && isRegP i.b
  else if i.op = 9 then isChanP p i.a && isRegP i.b && isRegP i.c
  else if i.op = 10 then isChanP p i.a
  else if i.op = 11 then withinP i.a 0 p.sels.length
  else if i.op = 12 ∨ i.op = 13 then withinP i.a 0 p.mus
  else if i.op = 14 then withinP i.a 0 p.procs.length && isRegP i.b
  else if i.op = 15 then isRegP i.a else false
theorem fields_ops {op : Int} : 0 ≤ fieldsP op ↔ (1 ≤ op ∧ op ≤ 15) := by unfold fieldsP; (repeat' split) <;> omega
theorem instr_arm (p : Prog) (n : Int) {i : Instr} (h : 0 ≤ fieldsP i.op → restP i (fieldsP i.op) = true) : instrOkP p n i = instrArmP p n i := by
  by_cases hf : 0 ≤ fieldsP i.op
  · rw [instrOkP, h hf, decide_eq_true hf]
    have h1 := fields_ops.1 hf
    have h2 : i.op = 1 ∨ i.op = 2 ∨ i.op = 3 ∨ i.op = 4 ∨ i.op = 5 ∨ i.op = 6 ∨ i.op = 7 ∨ i.op = 8 ∨ i.op = 9 ∨ i.op = 10 ∨ i.op = 11 ∨ i.op = 12 ∨ i.op = 13 ∨ i.op = 14 ∨ i.op = 15 := by omega
    unfold instrArmP
    rcases h2 with h | h | h | h | h | h | h | h | h | h | h | h | h | h | h <;> simp [h]
  · rw [instrOkP, decide_eq_false hf]
    rw [fields_ops] at hf
    unfold instrArmP
    repeat rw [if_neg (by omega)]
    rfl
def caseOkP (p : Prog) (n : Int) (x : Case) : Bool := isChanP p x.ch && isRegP x.reg && isRegP x.ok && !(x.send && !decide (x.ok = 0)) && withinP x.to 0 n
/-- a case ahead has the channel -/
def nmP (ch : Int) (y : Case) : Bool := !(decide (0 ≤ ch) && decide (ch = y.ch))
def metP (ys : List Case) (ch : Int) : Bool := !ys.all (nmP ch)
def metL (ys : List Case) : List Int := (ys.filter fun y => !decide (y.ch = -1)).map Case.ch
theorem metL_snoc (ys : List Case) (x : Case) : metL (ys ++ [x]) = metL ys ++ (if x.ch = -1 then [] else [x.ch]) := by
  unfold metL; rw [List.filter_append, List.map_append]; by_cases h : x.ch = -1 <;> simp [h]
theorem metL_len (ys : List Case) : (metL ys).length ≤ ys.length := by unfold metL; rw [List.length_map]; exact List.length_filter_le _ _
theorem metL_has (ys : List Case) {ch : Int} (h : -1 ≤ ch) : decide (ch ∈ metL ys) = metP ys ch := by
  unfold metP metL
  rw [Bool.eq_iff_iff]
  simp only [decide_eq_true_eq, List.mem_map, List.mem_filter, Bool.not_eq_true', List.all_eq_false, nmP, decide_eq_false_iff_not, Bool.and_eq_true, Bool.not_eq_true, Bool.not_eq_false]
  constructor
  · rintro ⟨y, ⟨hy, h1⟩, rfl⟩; exact ⟨y, hy, by omega, rfl⟩
  · rintro ⟨y, hy, h1, h2⟩; exact ⟨y, ⟨hy, by omega⟩, h2.symm⟩
def selGoP (p : Prog) (n : Int) : List Case → List Case → Bool
  | _, [] => true
  | ys, x :: xs => caseOkP p n x && !metP ys x.ch && selGoP p n (ys ++ [x]) xs
def selectOkP (p : Prog) (n : Int) (s : Select) : Bool := selGoP p n [] s.cases && withinP s.els (-1) n
def selAtP (p : Prog) (a : Int) : Select := p.sels.getD a.toNat default
def instrSelOkP (p : Prog) (n : Int) (i : Instr) : Bool := instrOkP p n i && (!decide (i.op = 11) || selectOkP p n (selAtP p i.a))
def lastOpP (c : List Instr) : Int := (c.getLast?.getD default).op
def procOkP (p : Prog) (c : List Instr) : Bool := decide (1 ≤ c.length) && decide (c.length ≤ 40) && c.all (instrSelOkP p c.length) && (decide (lastOpP c = 1) || decide (lastOpP c = 6))
theorem instr_sel {p : Prog} {n : Int} {i : Instr} (h : instrOkP p n i = true) (h2 : i.op = 11) : 0 ≤ i.a ∧ p.sels[i.a.toNat]? = some (selAtP p i.a) := by
  simp [instrOkP, h2, withinP] at h
  have h3 : i.a.toNat < p.sels.length := by omega
  refine ⟨by omega, ?_⟩
  unfold selAtP
  rw [List.getD_eq_getElem?_getD, List.getElem?_eq_getElem h3]; rfl
theorem last_get {c : List Instr} (h : 1 ≤ c.length) : c[((c.length : Int) - 1).toNat]? = some (c.getLast?.getD default) := by
  have e : ((c.length : Int) - 1).toNat = c.length - 1 := by omega
  rw [e, ← List.getLast?_eq_getElem?]
  have hne : c ≠ [] := by intro h2; simp [h2] at h
  rw [List.getLast?_eq_some_getLast hne]; rfl
def selTopOkP (p : Prog) (s : Select) : Bool := decide (s.cases.length ≤ 4) && !(decide (s.cases.length = 0) && decide (s.els < 0)) && selectOkP p 40 s
theorem selectOk_els {p : Prog} {n : Int} {s : Select} (h : selectOkP p n s = true) : -1 ≤ s.els := by simp [selectOkP, withinP] at h; omega
theorem sel_cases {p : Prog} {k : Nat} {s : Select} (h : p.sels.all (selTopOkP p) = true) (hs : p.sels[k]? = some s) : s.cases.length ≤ 1000 := by
  have := List.all_eq_true.1 h s (List.mem_of_getElem? hs); simp [selTopOkP] at this; omega
def capOkP (n : Int) : Bool := decide (0 ≤ n) && decide (n ≤ 4)
def progOkP (p : Prog) : Bool := decide (p.caps.length ≤ 6) && decide (0 ≤ p.mus) && decide (p.mus ≤ 4) && decide (p.sels.length ≤ 6) && decide (1 ≤ p.procs.length) && decide (p.procs.length ≤ 6) &&
  p.caps.all capOkP && p.sels.all (selTopOkP p) && p.procs.all fun x => procOkP p x.code
def instrsP (p : Prog) (n : Int) : Int := if withinP n 0 p.procs.length then ((p.procs.getD n.toNat default).code.length : Int) else 0
def itemPreP (i : Item) : Bool :=
  decide (1 ≤ i.kind) && decide (i.kind ≤ 10) && decide (0 ≤ i.obj) && !(decide (8 ≤ i.kind) && !decide (i.obj = 0)) && !(i.ok && !decide (i.kind = 2))
def itemArmP (i : Item) : Bool :=
  if i.kind = 1 ∨ i.kind = 8 then isValP i.val else if i.kind = 2 then isValP i.val && (i.ok || decide (i.val = 0)) else if i.kind = 4 then decide (-1 ≤ i.val)
  else if i.kind = 7 then decide (0 ≤ i.val) else if i.kind = 10 then decide (1 ≤ i.val) && decide (i.val ≤ 5) else decide (i.val = 0)
def itemOkP (i : Item) : Bool := itemPreP i && itemArmP i
theorem item_arm {i : Item} (h : itemPreP i = true) : itemOkP i = itemArmP i := by unfold itemOkP; rw [h]; rfl
theorem item_pre {i : Item} (h : itemPreP i = false) : itemOkP i = false := by unfold itemOkP; rw [h]; rfl
def endP (k : Int) : Bool := decide (k = 9) || decide (k = 10)
/-- the items are right, and none but the last ends -/
def traceGoP : List Item → Bool
  | [] => true
  | x :: xs => itemOkP x && !(endP x.kind && !xs.isEmpty) && traceGoP xs
def lastKindP (l : List Item) : Int := (l.getLast?.map Item.kind).getD 0
def traceOkP (g : Gor) : Bool := traceGoP g.trace && (decide (lastKindP g.trace = 9) == decide (g.state = 3)) && (decide (lastKindP g.trace = 10) == decide (g.state = 4))
def gor1OkP (p : Prog) (g : Gor) : Bool := withinP g.pc 0 (instrsP p g.proc) && decide (g.regs.length = 6) && decide (1 ≤ g.state) && decide (g.state ≤ 4) && g.regs.all isValP && traceOkP g
def gorOkP (p : Prog) (g : Gor) : Bool := progOkP p && gor1OkP p g
def instrAtP (p : Prog) (g : Gor) : Instr := ((p.procs.getD g.proc.toNat default).code).getD g.pc.toNat default
def regP (g : Gor) (r : Int) : Int := if withinP r 0 g.regs.length then g.regs.getD r.toNat 0 else 0
def casePlace (g : Gor) (n : Int) (k : Nat) (x : Case) : List Place := if x.ch < 0 then [] else [⟨false, x.ch, x.send, ⟨n, k, if x.send then regP g x.reg else 0⟩⟩]
def casesPlaces (g : Gor) (n : Int) : Nat → List Case → List Place
  | _, [] => []
  | k, x :: xs => casePlace g n k x ++ casesPlaces g n (k + 1) xs
def placesP (p : Prog) (g : Gor) (n : Int) : List Place :=
  let i := instrAtP p g
  if i.op = 8 ∧ 0 ≤ i.a then [⟨false, i.a, true, ⟨n, -1, regP g i.b⟩⟩]
  else if i.op = 9 ∧ 0 ≤ i.a then [⟨false, i.a, false, ⟨n, -1, 0⟩⟩]
  else if i.op = 11 then casesPlaces g n 0 (selAtP p i.a).cases
  else if i.op = 12 then [⟨true, i.a, false, ⟨n, -1, 0⟩⟩] else []
def mayP (p : Prog) (g : Gor) : Bool :=
  let i := instrAtP p g
  decide (i.op = 8) || decide (i.op = 9) || decide (i.op = 12) || (decide (i.op = 11) && decide ((selAtP p i.a).els < 0))
def mayWaitP (p : Prog) (g : Gor) : Bool := gorOkP p g && mayP p g
def waiterOkP (send : Bool) (w : Waiter) : Bool := decide (0 ≤ w.g) && decide (-1 ≤ w.cs) && isValP w.val && (send || decide (w.val = 0))
def chanOkP (c : Chan) : Bool := decide (0 ≤ c.cap) && decide (c.cap ≤ 4) && decide ((c.buf.length : Int) ≤ c.cap) && c.sends.all (waiterOkP true) && c.recvs.all (waiterOkP false) && c.buf.all isValP &&
  !(decide (0 < c.sends.length) && (decide ((c.buf.length : Int) < c.cap) || decide (0 < c.recvs.length) || c.closed)) && (decide (c.recvs.length = 0) || (decide (c.buf.length = 0) && !c.closed))
def waitGoP (o : Int) : List Int → List Int → Bool
  | _, [] => true
  | ys, g :: gs => decide (0 ≤ g) && !decide (g = o) && !ys.contains g && waitGoP o (ys ++ [g]) gs
def mutexOkP (m : Mutex) : Bool := decide (-1 ≤ m.owner) && !(decide (m.owner = -1) && decide (0 < m.wait.length)) && waitGoP m.owner [] m.wait
def sendPlace (k : Nat) (w : Waiter) : Place := ⟨false, k, true, w⟩
def recvPlace (k : Nat) (w : Waiter) : Place := ⟨false, k, false, w⟩
def muPlace (k : Nat) (g : Int) : Place := ⟨true, k, false, ⟨g, -1, 0⟩⟩
def chanPlaces (k : Nat) (c : Chan) : List Place := c.sends.map (sendPlace k) ++ c.recvs.map (recvPlace k)
def chansPlaces : Nat → List Chan → List Place
  | _, [] => []
  | k, c :: cs => chanPlaces k c ++ chansPlaces (k + 1) cs
def musPlaces : Nat → List Mutex → List Place
  | _, [] => []
  | k, m :: ms => m.wait.map (muPlace k) ++ musPlaces (k + 1) ms
def allPlaces (e : Eng) : List Place := chansPlaces 0 e.chans ++ musPlaces 0 e.mus
def gorWant (p : Prog) (n : Nat) (g : Gor) : List Place := if g.state = 2 then placesP p g n else []
def gorsWant (p : Prog) : Nat → List Gor → List Place
  | _, [] => []
  | n, g :: gs => gorWant p n g ++ gorsWant p (n + 1) gs
def gorInP (p : Prog) (g : Gor) : Bool := gor1OkP p g && !(decide (g.state = 2) && !mayP p g)
def chansOkP : List Chan → List Int → Bool
  | [], _ => true
  | c :: cs, caps => chanOkP c && decide (c.cap = caps.headD 0) && chansOkP cs caps.tail
def objectsP (p : Prog) (e : Eng) : Bool := decide (e.chans.length = p.caps.length) && decide ((e.mus.length : Int) = p.mus) && chansOkP e.chans p.caps && e.mus.all fun m => mutexOkP m && decide (m.owner < e.gs.length)
def sameP (a b : List Place) : Bool := (a.all fun x => decide (a.count x = b.count x)) && decide (a.length = b.length)
def engOkP (p : Prog) (e : Eng) : Bool := progOkP p && decide (1 ≤ e.gs.length) && decide (e.gs.length ≤ 10) && objectsP p e && e.gs.all (gorInP p) && sameP (gorsWant p 0 e.gs) (allPlaces e)
def stateGo (s : Int) : Nat → List Gor → List Int
  | _, [] => []
  | n, g :: gs => (if g.state = s then [(n : Int)] else []) ++ stateGo s (n + 1) gs
def inStateP (e : Eng) (s : Int) : List Int := stateGo s 0 e.gs
def readyP (e : Eng) : List Int := inStateP e 1
def asleepP (e : Eng) : List Int := inStateP e 2
def statusP (p : Prog) (e : Eng) : Int := if engOkP p e then (if 0 < (readyP e).length then 1 else if 0 < (asleepP e).length then 3 else 2) else 0
theorem getD_get {α : Type} {l : List α} {n : Int} (d : α) (h0 : 0 ≤ n) (h : n < l.length) : l[n.toNat]? = some (l.getD n.toNat d) := by
  have : n.toNat < l.length := by omega
  rw [List.getD_eq_getElem?_getD, List.getElem?_eq_getElem this]; rfl
theorem last_item {l : List Item} (h : 1 ≤ l.length) : ∃ x, l[((l.length : Int) - 1).toNat]? = some x ∧ lastKindP l = x.kind := by
  have e : ((l.length : Int) - 1).toNat = l.length - 1 := by omega
  have hne : l ≠ [] := by intro h2; simp [h2] at h
  refine ⟨l.getLast hne, ?_, ?_⟩
  · rw [e, ← List.getLast?_eq_getElem?, List.getLast?_eq_some_getLast hne]
  · unfold lastKindP; rw [List.getLast?_eq_some_getLast hne]; rfl
theorem trace_end {l : List Item} {i : Nat} (h : i < l.length) : (l.drop (i + 1)).isEmpty = decide (¬ (i : Int) < (l.length : Int) - 1) := by
  rw [Bool.eq_iff_iff, List.isEmpty_iff, List.drop_eq_nil_iff]; simp; omega
/-- the instruction is there, and so is its select -/
structure AtOk (p : Prog) (g : Gor) : Prop where
  proc0 : 0 ≤ g.proc
  pc0 : 0 ≤ g.pc
  at_ : ∃ q, p.procs[g.proc.toNat]? = some q ∧ q.code[g.pc.toNat]? = some (instrAtP p g)
  ok : ∃ n, instrOkP p n (instrAtP p g) = true
  sel : (instrAtP p g).op = 11 → 0 ≤ (instrAtP p g).a ∧ p.sels[(instrAtP p g).a.toNat]? = some (selAtP p (instrAtP p g).a) ∧ selTopOkP p (selAtP p (instrAtP p g).a) = true
theorem atOk {p : Prog} {g : Gor} (hp : progOkP p = true) (hg : gor1OkP p g = true) : AtOk p g := by
  simp only [gor1OkP, Bool.and_eq_true, withinP, decide_eq_true_eq] at hg
  obtain ⟨⟨⟨⟨⟨⟨h1, h2⟩, _⟩, _⟩, _⟩, _⟩, _⟩ := hg
  unfold instrsP at h2
  split at h2
  · rename_i hw
    simp only [withinP, Bool.and_eq_true, decide_eq_true_eq] at hw
    have e1 := getD_get (default : Proc) hw.1 hw.2
    have e2 := getD_get (default : Instr) h1 h2
    have hq : procOkP p (p.procs.getD g.proc.toNat default).code = true := by
      simp only [progOkP, Bool.and_eq_true] at hp
      exact List.all_eq_true.1 hp.2 _ (List.mem_of_getElem? e1)
    simp only [procOkP, Bool.and_eq_true] at hq
    have hi := List.all_eq_true.1 hq.1.2 _ (List.mem_of_getElem? e2)
    change instrSelOkP p _ (instrAtP p g) = true at hi
    simp only [instrSelOkP, Bool.and_eq_true] at hi
    refine ⟨hw.1, h1, ⟨_, e1, e2⟩, ⟨_, hi.1⟩, fun h11 => ?_⟩
    obtain ⟨k1, k2⟩ := instr_sel hi.1 h11
    refine ⟨k1, k2, ?_⟩
    simp only [progOkP, Bool.and_eq_true] at hp
    exact List.all_eq_true.1 hp.1.2 _ (List.mem_of_getElem? k2)
  · omega
end Go.Proofs.AM
