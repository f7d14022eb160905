/- How an expression is read, in plain Lean: the reader of layer 5, function by function; what it reads lies in the text and holds together. -/
import Derived.Test.YtjojhlkbcjhonaaDoorRxLang
import GoSem.Core.Utf8
namespace Go.Proofs.YtjojhlkbcjhonaaDoor.Rx

/-- An error's number and its place. -/
abbrev PErr := Int × Int
abbrev PRes (α : Type) := Except PErr α

def bt (s : ByteArray) (i : Nat) : Nat := (s.get! i).toNat
def here (s : ByteArray) (i c : Nat) : Bool := decide (i < s.size) && bt s i == c
def peekC (s : ByteArray) (i : Nat) : Int := if i < s.size then ((Utf8.decode s i).1 : Int) else -1
def peekN (s : ByteArray) (i : Nat) : Nat := if i < s.size then (Utf8.decode s i).2 else 0

def digitP (c : Int) : Bool := decide (48 ≤ c) && decide (c ≤ 57)
def letterP (c : Int) : Bool := digitP c || (decide (97 ≤ c) && decide (c ≤ 122)) || (decide (65 ≤ c) && decide (c ≤ 90)) || c == 95
def spaceP (c : Int) : Bool := c == 9 || c == 10 || c == 12 || c == 13 || c == 32
def signP (c : Int) : Bool := c == 92 || c == 46 || c == 91 || c == 93 || c == 40 || c == 41 || c == 123 || c == 125 || c == 42 || c == 43 || c == 63 || c == 124 || c == 94 || c == 36

/-- A rune's set, and the rune itself if it stands for itself. -/
structure One where
  p : Int → Bool
  plain : Option Int

def onlyP (c : Int) : One := { p := fun x => x == c, plain := some c }
def setP (p : Int → Bool) : One := { p := p, plain := none }
def One.re (o : One) : Re := .one o.p o.plain

/-- Behind a backslash, which stands at i. -/
def escapeP (s : ByteArray) (i : Nat) : PRes (One × Nat) :=
  let c := peekC s (i + 1)
  let e := i + 1 + peekN s (i + 1)
  if c = -1 then .error (50, s.size)
  else if c = 110 then .ok (onlyP 10, e)
  else if c = 114 then .ok (onlyP 13, e)
  else if c = 116 then .ok (onlyP 9, e)
  else if c = 100 then .ok (setP digitP, e)
  else if c = 119 then .ok (setP letterP, e)
  else if c = 115 then .ok (setP spaceP, e)
  else if c = 68 then .ok (setP (fun x => !digitP x), e)
  else if c = 87 then .ok (setP (fun x => !letterP x), e)
  else if c = 83 then .ok (setP (fun x => !spaceP x), e)
  else if signP c = false ∧ c ≠ 45 ∧ c ≠ 47 then .error (50, i)
  else .ok (onlyP c, e)

def memberP (s : ByteArray) (i : Nat) : PRes (One × Nat) :=
  if here s i 92 = true then escapeP s i else .ok (onlyP (peekC s i), i + peekN s i)

def clsP (neg : Bool) (l : List (Int → Bool)) (x : Int) : Bool := if neg then !(l.any fun f => f x) else l.any fun f => f x

/-- What follows at the head of a class's round: an end, a fault, or (none) a member. -/
def classHead (s : ByteArray) (neg : Bool) (l : List (Int → Bool)) (i : Nat) : Option (PRes (One × Nat)) :=
  if peekC s i < 0 then some (.error (50, s.size))
  else if peekC s i = 93 ∧ l ≠ [] then some (.ok (setP (clsP neg l), i + 1))
  else if peekC s i = 45 ∧ l ≠ [] ∧ here s (i + peekN s i) 93 = false ∧ s.size ≤ i + 1 then some (.error (50, s.size))
  else if peekC s i = 93 ∨ (peekC s i = 45 ∧ l ≠ [] ∧ here s (i + peekN s i) 93 = false) ∨ (peekC s i = 94 ∧ l = [] ∧ neg = false) then some (.error (50, i))
  else none

/-- One member of a class, or a range. -/
def classItem (s : ByteArray) (i : Nat) : PRes ((Int → Bool) × Nat) :=
  match memberP s i with
  | .error e => .error e
  | .ok (a, j) =>
    if a.plain.isSome = true ∧ here s j 45 = true ∧ j + 1 < s.size ∧ bt s (j + 1) ≠ 93 then
      match memberP s (j + 1) with
      | .error e => .error e
      | .ok (b, k) =>
        if b.plain = none ∨ b.plain.getD 0 < a.plain.getD 0 then .error (50, i)
        else .ok (fun x => decide (a.plain.getD 0 ≤ x) && decide (x ≤ b.plain.getD 0), k)
    else .ok (a.p, j)

def classP (s : ByteArray) (neg : Bool) : Nat → List (Int → Bool) → Nat → PRes (One × Nat)
  | 0, _, _ => .error (999, 0)
  | f + 1, l, i =>
    match classHead s neg l i with
    | some r => r
    | none =>
      match classItem s i with
      | .error e => .error e
      | .ok (p, j) => classP s neg f (l ++ [p]) j

/-- A class, whose bracket stands at i. -/
def wholeClass (s : ByteArray) (i : Nat) : PRes (One × Nat) :=
  classP s (here s (i + 1) 94) (s.size + 1) [] (if here s (i + 1) 94 = true then i + 2 else i + 1)

def dig (s : ByteArray) (i : Nat) : Bool := decide (i < s.size) && digitP (bt s i)
/-- At most f digits more, behind the number n. -/
def numF (s : ByteArray) : Nat → Int → Nat → Int × Nat
  | 0, n, i => (n, i)
  | f + 1, n, i => if dig s i = true then numF s f (max n 0 * 10 + ((bt s i : Int) - 48)) (i + 1) else (n, i)
def numberP (s : ByteArray) (i : Nat) : Int × Nat := numF s 2 (-1) i

def badP (s : ByteArray) (i j : Nat) : PErr := (50, if s.size ≤ j then (s.size : Int) else (i : Int))

def bracesP (s : ByteArray) (i : Nat) : PRes (Int × Int × Nat) :=
  let m := numberP s (i + 1)
  if m.1 < 0 then .error (badP s i m.2)
  else if here s m.2 44 = true then
    if here s (m.2 + 1) 125 = true then .ok (m.1, -1, m.2 + 2)
    else
      let n := numberP s (m.2 + 1)
      if n.1 < m.1 then .error (badP s i n.2)
      else if here s n.2 125 = true then .ok (m.1, n.1, n.2 + 1)
      else .error (badP s i n.2)
  else if here s m.2 125 = true then .ok (m.1, m.1, m.2 + 1)
  else .error (badP s i m.2)

def timesP (s : ByteArray) (p : Re) (i : Nat) : PRes (Re × Nat) :=
  if here s i 42 = true then .ok (.loop p 0 (-1) false, i + 1)
  else if here s i 43 = true then .ok (.loop p 1 (-1) false, i + 1)
  else if here s i 63 = true then .ok (.loop p 0 1 false, i + 1)
  else if here s i 123 = true then
    match bracesP s i with
    | .error e => .error e
    | .ok (m, n, j) => .ok (.loop p m n true, j)
  else .ok (p, i)

/-- What stands between parentheses, from j on. -/
def innerP (s : ByteArray) (choice : Nat → PRes (Re × Nat)) (j : Nat) : PRes (Re × Nat) :=
  match choice j with
  | .error e => .error e
  | .ok (p, k) => if here s k 41 = true then .ok (p, k + 1) else .error (50, k)

def groupP (s : ByteArray) (choice : Nat → PRes (Re × Nat)) (deep i : Nat) : PRes (Re × Nat) :=
  if 50 ≤ deep then .error (51, i)
  else if here s (i + 1) 63 = true then
    (if here s (i + 2) 58 = true then innerP s choice (i + 3) else .error (50, ((i + 2 : Nat) : Int)))
  else innerP s choice (i + 1)

def liftO : PRes (One × Nat) → PRes (Re × Nat)
  | .error e => .error e
  | .ok (o, j) => .ok (o.re, j)

def atomP (s : ByteArray) (choice : Nat → PRes (Re × Nat)) (deep i : Nat) : PRes (Re × Nat) :=
  let c := peekC s i
  if c = 46 then .ok ((setP fun x => x != 10).re, i + 1)
  else if c = 92 then liftO (escapeP s i)
  else if c = 91 then liftO (wholeClass s i)
  else if c = 40 then groupP s choice deep i
  else if signP c = true then .error (50, i)
  else .ok ((onlyP c).re, i + peekN s i)

def goesOn (s : ByteArray) (i : Nat) : Bool := decide (i < s.size) && !here s i 124 && !here s i 41

/-- An atom and how often. -/
def itemP (s : ByteArray) (choice : Nat → PRes (Re × Nat)) (deep i : Nat) : PRes (Re × Nat) :=
  match atomP s choice deep i with
  | .error e => .error e
  | .ok (a, j) => timesP s a j

def rowP (s : ByteArray) (choice : Nat → PRes (Re × Nat)) (deep : Nat) : Nat → List Re → Nat → PRes (Re × Nat)
  | 0, _, _ => .error (999, 0)
  | f + 1, l, i =>
    if goesOn s i = true then
      match itemP s choice deep i with
      | .error e => .error e
      | .ok (a, j) => rowP s choice deep f (l ++ [a]) j
    else .ok (.row l, i)

def forksP (s : ByteArray) (choice : Nat → PRes (Re × Nat)) (deep : Nat) : Nat → Re → Nat → PRes (Re × Nat)
  | 0, _, _ => .error (999, 0)
  | f + 1, p, i =>
    if here s i 124 = true then
      match rowP s choice deep (s.size + 1) [] (i + 1) with
      | .error e => .error e
      | .ok (q, j) => forksP s choice deep f (.fork p q) j
    else .ok (p, i)

def choiceP (s : ByteArray) : Nat → Nat → Nat → PRes (Re × Nat)
  | 0, _, _ => .error (999, 0)
  | f + 1, deep, i =>
    match rowP s (choiceP s f (deep + 1)) deep (s.size + 1) [] i with
    | .error e => .error e
    | .ok (p, j) => forksP s (choiceP s f (deep + 1)) deep (s.size + 1) p j

def wholeP (s : ByteArray) : PRes Re :=
  match choiceP s 51 0 0 with
  | .error e => .error e
  | .ok (p, j) => if j < s.size then .error (50, j) else .ok p

def compileP (s : ByteArray) : PRes Re :=
  if 256 < s.size then .error (4, 0) else
  match wholeP s with
  | .error e => .error e
  | .ok p => if 2000 < Re.cnt p then .error (7, 0) else .ok p

theorem here_lt {s : ByteArray} {i c : Nat} (h : here s i c = true) : i < s.size := by
  simp only [here, Bool.and_eq_true, decide_eq_true_eq] at h; exact h.1
theorem here_bt {s : ByteArray} {i c : Nat} (h : here s i c = true) : bt s i = c := by
  simp only [here, Bool.and_eq_true, decide_eq_true_eq, beq_iff_eq] at h; exact h.2
theorem here_mk {s : ByteArray} {i c : Nat} (h : i < s.size) (e : bt s i = c) : here s i c = true := by
  simp [here, h, e]
theorem here_no {s : ByteArray} {i c : Nat} (h : s.size ≤ i) : here s i c = false := by
  simp [here]; omega

theorem peekC_lt {s : ByteArray} {i : Nat} (h : peekC s i ≠ -1) : i < s.size := by
  unfold peekC at h; split at h
  · assumption
  · exact absurd rfl h
theorem peekC_none {s : ByteArray} {i : Nat} (h : s.size ≤ i) : peekC s i = -1 := by unfold peekC; rw [if_neg (by omega)]
theorem peekN_none {s : ByteArray} {i : Nat} (h : s.size ≤ i) : peekN s i = 0 := by unfold peekN; rw [if_neg (by omega)]

end Go.Proofs.YtjojhlkbcjhonaaDoor.Rx
