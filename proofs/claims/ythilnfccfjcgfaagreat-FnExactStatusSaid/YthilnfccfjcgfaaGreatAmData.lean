/- A part of the proof: the walk of functions of the program, or the rules of the walk. -/

set_option linter.unusedSimpArgs false
set_option linter.unusedVariables false
namespace Go.Proofs.AM
/-! ### the data, as plain lists and numbers -/
structure Instr where
  op : Int
  a : Int
  b : Int
  c : Int
structure Case where
  send : Bool
  ch : Int
  reg : Int
  ok : Int
  to : Int
structure Select where
  cases : List Case
  els : Int
structure Proc where
  code : List Instr
structure Prog where
  caps : List Int
  mus : Int
  sels : List Select
  procs : List Proc
structure Item where
  kind : Int
  obj : Int
  val : Int
  ok : Bool
structure Gor where
  proc : Int
  pc : Int
  regs : List Int
  state : Int
  trace : List Item
structure Waiter where
  g : Int
  cs : Int
  val : Int
structure Chan where
  cap : Int
  buf : List Int
  sends : List Waiter
  recvs : List Waiter
  closed : Bool
structure Mutex where
  owner : Int
  wait : List Int
structure Eng where
  gs : List Gor
  chans : List Chan
  mus : List Mutex
structure Place where
  mutex : Bool
  obj : Int
  send : Bool
  w : Waiter
structure Pick where
  g : Int
  c : Int
structure Deed where
  g : Int
  op : Int
  obj : Int
  cs : Int
structure Log where
  print : Int
  events : List Deed
deriving instance DecidableEq for Instr, Case, Select, Proc, Prog, Item, Gor, Waiter, Chan, Mutex, Eng, Place, Pick, Deed, Log

/-! ### how large an argument is -/
def szLen (n : Nat) (left : Int) : Int := if left - n < 0 then -1 else left - n
def szFold {α : Type} (f : α → Int → Int) : List α → Int → Int
  | [], l => l
  | x :: r, l => if f x l < 0 then -1 else szFold f r (f x l)
def szList {α : Type} (f : α → Int → Int) (xs : List α) (left : Int) : Int := if left - xs.length < 0 then -1 else szFold f xs (left - xs.length)
def sz1 (l : Int) : Int := if l < 0 then -1 else l
def sz2 (l : Int) (f : Int → Int) : Int := if l < 0 then -1 else f l
def szSelect (s : Select) (left : Int) : Int := sz1 (szLen s.cases.length left)
def szProc (p : Proc) (left : Int) : Int := sz1 (szLen p.code.length left)
def szGor (g : Gor) (left : Int) : Int := sz2 (szLen g.regs.length left) fun l => sz1 (szLen g.trace.length l)
def szChan (c : Chan) (left : Int) : Int := sz2 (szLen c.buf.length left) fun l => sz2 (szLen c.sends.length l) fun l => sz1 (szLen c.recvs.length l)
def szMutex (m : Mutex) (left : Int) : Int := sz1 (szLen m.wait.length left)
def szProg (p : Prog) (left : Int) : Int := sz2 (szLen p.caps.length left) fun l => sz2 (szList szSelect p.sels l) fun l => sz1 (szList szProc p.procs l)
def szEng (e : Eng) (left : Int) : Int := sz2 (szList szGor e.gs left) fun l => sz2 (szList szChan e.chans l) fun l => sz1 (szList szMutex e.mus l)

/-- what a measure answers -/
def SzOk (r left : Int) : Prop := -1 ≤ r ∧ r ≤ left
theorem szLen_ok {n : Nat} {l : Int} (h : 0 ≤ l) : SzOk (szLen n l) l := by unfold szLen SzOk; split <;> omega
theorem sz1_ok {r l : Int} (h : SzOk r l) (h0 : 0 ≤ l) : SzOk (sz1 r) l := by unfold sz1 SzOk at *; split <;> omega
theorem sz2_ok {r l : Int} {f : Int → Int} (h : SzOk r l) (h0 : 0 ≤ l) (hf : ∀ k, 0 ≤ k → SzOk (f k) k) : SzOk (sz2 r f) l := by
  unfold sz2; split
  · unfold SzOk; omega
  · have := hf r (by omega); unfold SzOk at *; omega
theorem szFold_ok {α : Type} {f : α → Int → Int} (hf : ∀ x k, 0 ≤ k → SzOk (f x k) k) (xs : List α) {l : Int} (h : 0 ≤ l) : SzOk (szFold f xs l) l := by
  induction xs generalizing l with
  | nil => unfold szFold SzOk; omega
  | cons x xs ih =>
    unfold szFold
    split
    · unfold SzOk; omega
    · have h1 := hf x l h
      have h2 := @ih (f x l) (by omega)
      unfold SzOk at *; omega
theorem szList_ok {α : Type} {f : α → Int → Int} (hf : ∀ x k, 0 ≤ k → SzOk (f x k) k) (xs : List α) {l : Int} (h : 0 ≤ l) : SzOk (szList f xs l) l := by
  unfold szList
  split
  · unfold SzOk; omega
  · have := szFold_ok hf xs (l := l - xs.length) (by omega); unfold SzOk at *; omega
theorem szSelect_ok (s : Select) (k : Int) (h : 0 ≤ k) : SzOk (szSelect s k) k := sz1_ok (szLen_ok h) h
theorem szProc_ok (s : Proc) (k : Int) (h : 0 ≤ k) : SzOk (szProc s k) k := sz1_ok (szLen_ok h) h
theorem szGor_ok (s : Gor) (k : Int) (h : 0 ≤ k) : SzOk (szGor s k) k := sz2_ok (szLen_ok h) h fun k h => sz1_ok (szLen_ok h) h
theorem szChan_ok (s : Chan) (k : Int) (h : 0 ≤ k) : SzOk (szChan s k) k := sz2_ok (szLen_ok h) h fun k h => sz2_ok (szLen_ok h) h fun k h => sz1_ok (szLen_ok h) h
theorem szMutex_ok (s : Mutex) (k : Int) (h : 0 ≤ k) : SzOk (szMutex s k) k := sz1_ok (szLen_ok h) h
theorem szProg_ok (s : Prog) (k : Int) (h : 0 ≤ k) : SzOk (szProg s k) k := sz2_ok (szLen_ok h) h fun k h => sz2_ok (szList_ok szSelect_ok _ h) h fun k h => sz1_ok (szList_ok szProc_ok _ h) h
theorem szEng_ok (s : Eng) (k : Int) (h : 0 ≤ k) : SzOk (szEng s k) k := sz2_ok (szList_ok szGor_ok _ h) h fun k h => sz2_ok (szList_ok szChan_ok _ h) h fun k h => sz1_ok (szList_ok szMutex_ok _ h) h
end Go.Proofs.AM
