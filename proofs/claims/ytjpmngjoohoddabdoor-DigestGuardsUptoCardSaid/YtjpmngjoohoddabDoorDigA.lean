/-
  The sum of a text, as numbers: words of 32 bits, the schedule, the rounds.
-/
import Derived.Test.YtjpmngjoohoddabDoorBase
set_option linter.unusedVariables false
set_option linter.unusedSimpArgs false
set_option maxRecDepth 20000
namespace Go.Proofs.YtjpmngjoohoddabDoor
open Go Go.Ab

def M32 : Nat := 4294967296

/-- A word turned right. -/
def rotr (x n : Nat) : Nat := (x * 2 ^ (32 - n) % M32) ||| (x / 2 ^ n)

/-- Four letters as a word. -/
def beW (p : List UInt8) (i : Nat) : Nat := (((p.getD i 0).toNat * 256 + (p.getD (i + 1) 0).toNat) * 256 + (p.getD (i + 2) 0).toNat) * 256 + (p.getD (i + 3) 0).toNat

def sig0 (x : Nat) : Nat := rotr x 7 ^^^ rotr x 18 ^^^ (x / 8)
def sig1 (x : Nat) : Nat := rotr x 17 ^^^ rotr x 19 ^^^ (x / 1024)
def Sig0 (x : Nat) : Nat := rotr x 2 ^^^ rotr x 13 ^^^ rotr x 22
def Sig1 (x : Nat) : Nat := rotr x 6 ^^^ rotr x 11 ^^^ rotr x 25

/-- The word behind these. -/
def wNext (w : List Nat) : Nat := (w.getD (w.length - 16) 0 + sig0 (w.getD (w.length - 15) 0) + w.getD (w.length - 7) 0 + sig1 (w.getD (w.length - 2) 0)) % M32
def sched : Nat → List Nat → List Nat
  | 0, w => w
  | k + 1, w => sched k (w ++ [wNext w])
def words (p : List UInt8) : List Nat := (List.range 16).map fun t => beW p (4 * t)
def schedOf (p : List UInt8) : List Nat := sched 48 (words p)

/-- One round. -/
def round (v : List Nat) (kw : Nat) : List Nat :=
  let e := v.getD 4 0
  let a := v.getD 0 0
  let u := (v.getD 7 0 + Sig1 e + ((e &&& v.getD 5 0) ^^^ ((4294967295 - e) &&& v.getD 6 0)) + kw) % M32
  let x := (Sig0 a + ((a &&& v.getD 1 0) ^^^ (a &&& v.getD 2 0) ^^^ (v.getD 1 0 &&& v.getD 2 0))) % M32
  [(u + x) % M32, a, v.getD 1 0, v.getD 2 0, (v.getD 3 0 + u) % M32, e, v.getD 5 0, v.getD 6 0]

def rounds : Nat → Nat → List Nat → List Nat → List Nat
  | 0, t, w, v => v
  | k + 1, t, w, v => rounds k (t + 1) w (round v (kTab.getD t 0 + w.getD t 0))

def addW (a b : List Nat) : List Nat := (List.range 8).map fun i => (a.getD i 0 + b.getD i 0) % M32
def block (h : List Nat) (p : List UInt8) : List Nat := addW h (rounds 64 0 (schedOf p) h)

/-- All blocks. -/
def blocks : Nat → List Nat → List UInt8 → List Nat
  | 0, h, p => h
  | k + 1, h, p => blocks k (block h (p.take 64)) (p.drop 64)

def padLen (n : Nat) : Nat := (119 - n % 64) % 64
def be8 (n : Nat) : List UInt8 := (List.range 8).map fun i => UInt8.ofNat (n / 256 ^ (7 - i) % 256)
def padded (s : List UInt8) : List UInt8 := s ++ [128] ++ List.replicate (padLen s.length) 0 ++ be8 (8 * s.length)
def hashOf (s : List UInt8) : List Nat := blocks ((padded s).length / 64) hTab (padded s)
def hexC (n : Nat) : UInt8 := ("0123456789abcdef".toUTF8.data.toList).getD n 0
def hexW (n : Nat) : List UInt8 := (List.range 8).map fun i => hexC (n / 16 ^ (7 - i) % 16)
/-- The digest of a text. -/
def sha (s : List UInt8) : List UInt8 := (hashOf s).flatMap hexW

theorem sha_abc : sha [97, 98, 99] = "ba7816bf8f01cfea414140de5dae2223b00361a396177a9cb410ff61f20015ad".toUTF8.data.toList := by decide +kernel

end Go.Proofs.YtjpmngjoohoddabDoor
