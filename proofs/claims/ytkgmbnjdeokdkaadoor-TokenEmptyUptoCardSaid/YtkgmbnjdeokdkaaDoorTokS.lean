/-
  Words of sources, plain: what both the program and the reference make of a source. (Under way.)
-/
import Derived.Test.YtkgmbnjdeokdkaaDoorBase
set_option linter.unusedVariables false
set_option linter.unusedSimpArgs false
set_option maxRecDepth 20000
namespace Go.Proofs.YtkgmbnjdeokdkaaDoor
open Go Go.Ab

def isLet (c : UInt8) : Bool := (97 ≤ c.toNat && c.toNat ≤ 122) || (65 ≤ c.toNat && c.toNat ≤ 90) || c == 95
def isDg (c : UInt8) : Bool := 48 ≤ c.toNat && c.toNat ≤ 57

/-- The first place from 'i' on where 'p' does not hold. -/
def stopAt (p : UInt8 → Bool) (s : List UInt8) (i : Nat) : Nat := i + ((s.drop i).takeWhile p).length

theorem stopAt_end {p : UInt8 → Bool} {s : List UInt8} {i : Nat} (h : s.length ≤ i) : stopAt p s i = i := by
  rw [stopAt, List.drop_eq_nil_of_le h]; rfl

theorem stopAt_yes {p : UInt8 → Bool} {s : List UInt8} {i : Nat} (h : i < s.length) (hp : p s[i] = true) : stopAt p s i = stopAt p s (i + 1) := by
  rw [stopAt, stopAt, List.drop_eq_getElem_cons h, List.takeWhile_cons, if_pos hp, List.length_cons]; omega

theorem stopAt_no {p : UInt8 → Bool} {s : List UInt8} {i : Nat} (h : i < s.length) (hp : p s[i] = false) : stopAt p s i = i := by
  rw [stopAt, List.drop_eq_getElem_cons h, List.takeWhile_cons, if_neg (by rw [hp]; decide)]; rfl

theorem stopAt_le {p : UInt8 → Bool} {s : List UInt8} {i : Nat} (h : i ≤ s.length) : i ≤ stopAt p s i ∧ stopAt p s i ≤ s.length := by
  have h1 : ((s.drop i).takeWhile p).length ≤ (s.drop i).length := (List.takeWhile_prefix p).length_le
  rw [List.length_drop] at h1
  unfold stopAt; omega

/-- Blanks from 'i' on. -/
def gapE (s : List UInt8) (i : Nat) : Nat := stopAt (· == 32) s i
/-- Where something is again, behind blanks and what is left out. -/
def gapC (s : List UInt8) (i : Nat) : Nat := if s[gapE s i]? = some 35 then stopAt (fun c => !(c == 10)) s (gapE s i) else gapE s i

structure Tok where
  kind : Nat
  text : List UInt8
  num : Nat
  place : Nat
  deriving DecidableEq

/-- What a letter behind a backslash says. -/
def esc (c : UInt8) : Option UInt8 := if c == 110 then some 10 else if c == 116 then some 9 else if c == 92 then some 92 else if c == 34 then some 34 else none

/-- The rest of a quoted text, 'i' its first place: the text and the place behind it, or the place of what is wrong. -/
def quoteS : List UInt8 → Nat → List UInt8 → Nat ⊕ (List UInt8 × Nat)
  | [], i, _ => .inl i
  | c :: r, i, b => if c.toNat < 32 then .inl i else if c == 34 then .inr (b, i + 1) else if c != 92 then quoteS r (i + 1) (b ++ [c]) else match r with
    | [] => .inl (i + 1)
    | d :: r => match esc d with
      | none => .inl (i + 1)
      | some e => quoteS r (i + 2) (b ++ [e])

/-- Further in, or out: 'ins' with the outermost first. The rest of ins, how often one goes out. -/
def backS : List Nat → Nat → List Nat × Nat
  | [], _ => ([], 0)
  | x :: r, n => if x == n then (x :: r, 0) else ((backS r n).1, (backS r n).2 + 1)

end Go.Proofs.YtkgmbnjdeokdkaaDoor
