/-
  Words of 32 bits: the operations that the program uses.
-/
import Derived.Test.YtjpmngjoohoddabDoorDigA
set_option linter.unusedVariables false
set_option linter.unusedSimpArgs false
set_option maxRecDepth 20000
namespace Go.Proofs.YtjpmngjoohoddabDoor
open Go Go.Ab

theorem u32add (a b : Nat) : IntKind.u32.wrap ((a : Int) + (b : Int)) = (((a + b) % M32 : Nat) : Int) := by
  rw [show (a : Int) + (b : Int) = ((a + b : Nat) : Int) from rfl, wrap_low rfl]; rfl

theorem u32xor {a b : Nat} (ha : a < M32) (hb : b < M32) : bitsA .xor .u32 (a : Int) (b : Int) = ((a ^^^ b : Nat) : Int) := bits_xor rfl ha hb
theorem u32and {a b : Nat} (ha : a < M32) (hb : b < M32) : bitsA .and .u32 (a : Int) (b : Int) = ((a &&& b : Nat) : Int) := bits_and rfl ha hb
theorem u32or {a b : Nat} (ha : a < M32) (hb : b < M32) : bitsA .or .u32 (a : Int) (b : Int) = ((a ||| b : Nat) : Int) := bits_or rfl ha hb
theorem u32not {a : Nat} (ha : a < M32) : bitsA .xor .u32 4294967295 (a : Int) = ((4294967295 - a : Nat) : Int) := by
  rw [show (4294967295 : Int) = ((4294967295 : Nat) : Int) from rfl, u32xor (by decide) ha, xor_ones ha]

theorem u32not' {a : Nat} (ha : a < M32) : bitsA .xor .u32 (if IntKind.u32.signed = true then -1 else IntKind.u32.max) (a : Int) = ((4294967295 - a : Nat) : Int) := by
  rw [show (if IntKind.u32.signed = true then -1 else IntKind.u32.max) = (4294967295 : Int) by decide, u32not ha]

theorem xor_lt {a b : Nat} (ha : a < M32) (hb : b < M32) : a ^^^ b < M32 := Nat.xor_lt_two_pow (n := 32) ha hb
theorem and_lt {a b : Nat} (ha : a < M32) : a &&& b < M32 := Nat.lt_of_le_of_lt Nat.and_le_left ha
theorem or_lt {a b : Nat} (ha : a < M32) (hb : b < M32) : a ||| b < M32 := Nat.or_lt_two_pow (n := 32) ha hb
theorem div_lt {a : Nat} (k : Nat) (ha : a < M32) : a / k < M32 := Nat.lt_of_le_of_lt (Nat.div_le_self _ _) ha
theorem mod_lt (a : Nat) : a % M32 < M32 := Nat.mod_lt _ (by decide)
theorem rotr_lt {x : Nat} (n : Nat) (h : x < M32) : rotr x n < M32 := or_lt (mod_lt _) (div_lt _ h)

theorem Sig0_lt {x : Nat} (h : x < M32) : Sig0 x < M32 := xor_lt (xor_lt (rotr_lt _ h) (rotr_lt _ h)) (rotr_lt _ h)
theorem Sig1_lt {x : Nat} (h : x < M32) : Sig1 x < M32 := xor_lt (xor_lt (rotr_lt _ h) (rotr_lt _ h)) (rotr_lt _ h)
theorem sig0_lt {x : Nat} (h : x < M32) : sig0 x < M32 := xor_lt (xor_lt (rotr_lt _ h) (rotr_lt _ h)) (div_lt _ h)
theorem sig1_lt {x : Nat} (h : x < M32) : sig1 x < M32 := xor_lt (xor_lt (rotr_lt _ h) (rotr_lt _ h)) (div_lt _ h)

theorem Rotate_ok (x n : Nat) (hx : x < M32) (h1 : 1 ≤ n) (h2 : n ≤ 31) : Calc cx 85 [.int .u32 x, .int .i64 (-(n : Int))] (.int .u32 (rotr x n)) :=
  pure_intro (fun a w => Tryd.call85 a w) Tryd.func85 rfl Tryd.ntmps85 rfl .int fun B => by
    have hw : IntKind.u64.wrap (-(n : Int)) = ((18446744073709551616 - n : Nat) : Int) := by
      rw [show IntKind.u64.wrap (-(n : Int)) = (-(n : Int)) % 18446744073709551616 by simp [IntKind.wrap, IntKind.signed, IntKind.bits]]; omega
    have hs : bitsA .and .u64 (IntKind.u64.wrap (-(n : Int))) 31 = ((32 - n : Nat) : Int) := by
      rw [hw, show (31 : Int) = ((31 : Nat) : Int) from rfl, bits_and (k := .u64) rfl (by show _ < 18446744073709551616; omega) (by decide)]
      rw [Nat.and_two_pow_sub_one_eq_mod _ 5]
      congr 1; omega
    have hd : IntKind.u64.wrap (32 - ((32 - n : Nat) : Int)) = ((n : Nat) : Int) := wu64 (by omega) (by omega)
    refine ab 1000 rfl ⟨?_, ?_, trivial⟩ ?_
    · rw [hs, hd]; omega
    · rw [hs]; omega
    refine S_retc .int rfl trivial ?_
    show AV.int .u32 (bitsA .or .u32 (IntKind.u32.wrap ((x : Int) * 2 ^ (min (bitsA .and .u64 (IntKind.u64.wrap (-(n : Int))) 31).toNat 32))) ((x : Int).fdiv (2 ^ (min (IntKind.u64.wrap (32 - bitsA .and .u64 (IntKind.u64.wrap (-(n : Int))) 31)).toNat 32)))) = _
    rw [hs, hd, Int.toNat_natCast, Int.toNat_natCast, Nat.min_eq_left (by omega), Nat.min_eq_left (by omega), shr_nat]
    rw [show (x : Int) * 2 ^ (32 - n) = ((x * 2 ^ (32 - n) : Nat) : Int) by rw [Int.natCast_mul, Int.natCast_pow]; rfl, wrap_low rfl]
    rw [show (2 : Nat) ^ IntKind.u32.bits = M32 from rfl, u32or (mod_lt _) (div_lt _ hx)]
    rfl

theorem u32L_len (l : List Nat) : (u32L l).length = l.length := by simp [u32L]
theorem u32L_one (l : List Nat) : ∀ x ∈ u32L l, x.one = true := by
  intro x hx; obtain ⟨y, _, rfl⟩ := List.mem_map.1 hx; rfl
theorem u32L_get {l : List Nat} {i : Nat} (h : i < l.length) : (u32L l)[i]? = some (.int .u32 (l.getD i 0 : Nat)) := by
  simp [u32L, List.getD, h]
theorem u32L_ld {l : List Nat} {i : Nat} (h : i < l.length) : ((u32L l).drop i)[0]? = some (.int .u32 (l.getD i 0 : Nat)) := by
  rw [List.getElem?_drop, Nat.add_zero]; exact u32L_get h
theorem u32L_set (l : List Nat) (i n : Nat) : setRange (u32L l) i [.int .u32 (n : Nat)] = u32L (l.set i n) := by
  show (u32L l).set i _ = _
  simp [u32L, List.map_set]

end Go.Proofs.YtjpmngjoohoddabDoor
