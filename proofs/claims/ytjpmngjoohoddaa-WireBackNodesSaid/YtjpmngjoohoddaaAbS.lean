/-
  Bits and shifts of whole numbers without a sign.
-/
import Derived.Test.YtjpmngjoohoddaaAbR
set_option linter.unusedVariables false
set_option linter.unusedSimpArgs false
namespace Go.Ab
open Go

def uns : IntKind → Bool | .u8 | .u16 | .u32 | .u64 => true | _ => false

theorem wrap_uns {k : IntKind} (hk : uns k = true) {a : Nat} (ha : a < 2 ^ k.bits) : k.wrap (a : Int) = a := by
  have h : (a : Int) < (2 ^ k.bits : Nat) := by exact_mod_cast ha
  cases k <;> first | (simp [uns] at hk; done) | skip
  · rw [IntKind.wrap_u8]; simp [IntKind.bits] at h; omega
  · simp [IntKind.wrap, IntKind.bits, IntKind.signed] at *; omega
  · rw [IntKind.wrap_u32]; simp [IntKind.bits] at h; omega
  · simp [IntKind.wrap, IntKind.bits, IntKind.signed] at *; omega

theorem bits_and {k : IntKind} (hk : uns k = true) {a b : Nat} (ha : a < 2 ^ k.bits) (hb : b < 2 ^ k.bits) : bitsA .and k a b = ((a &&& b : Nat) : Int) := by
  unfold bitsA
  simp only [BitVec.ofInt_natCast, BitVec.toNat_and, BitVec.toNat_ofNat, Nat.mod_eq_of_lt ha, Nat.mod_eq_of_lt hb]
  exact wrap_uns hk (Nat.and_lt_two_pow _ hb)

theorem bits_or {k : IntKind} (hk : uns k = true) {a b : Nat} (ha : a < 2 ^ k.bits) (hb : b < 2 ^ k.bits) : bitsA .or k a b = ((a ||| b : Nat) : Int) := by
  unfold bitsA
  simp only [BitVec.ofInt_natCast, BitVec.toNat_or, BitVec.toNat_ofNat, Nat.mod_eq_of_lt ha, Nat.mod_eq_of_lt hb]
  exact wrap_uns hk (Nat.or_lt_two_pow ha hb)

theorem bits_xor {k : IntKind} (hk : uns k = true) {a b : Nat} (ha : a < 2 ^ k.bits) (hb : b < 2 ^ k.bits) : bitsA .xor k a b = ((a ^^^ b : Nat) : Int) := by
  unfold bitsA
  simp only [BitVec.ofInt_natCast, BitVec.toNat_xor, BitVec.toNat_ofNat, Nat.mod_eq_of_lt ha, Nat.mod_eq_of_lt hb]
  exact wrap_uns hk (Nat.xor_lt_two_pow ha hb)

theorem wrap_i64n {a : Nat} (ha : a < 9223372036854775808) : IntKind.i64.wrap (a : Int) = a := IntWalk.i64_in _ ⟨by omega, by omega⟩

theorem and_i64 {a b : Nat} (ha : a < 9223372036854775808) (hb : b < 9223372036854775808) : bitsA .and .i64 a b = ((a &&& b : Nat) : Int) := by
  unfold bitsA
  simp only [BitVec.ofInt_natCast, BitVec.toNat_and, BitVec.toNat_ofNat]
  rw [Nat.mod_eq_of_lt (show a < 2 ^ IntKind.i64.bits from Nat.lt_of_lt_of_le ha (by decide)), Nat.mod_eq_of_lt (show b < 2 ^ IntKind.i64.bits from Nat.lt_of_lt_of_le hb (by decide))]
  exact wrap_i64n (Nat.and_lt_two_pow (n := 63) _ hb)

theorem or_i64 {a b : Nat} (ha : a < 9223372036854775808) (hb : b < 9223372036854775808) : bitsA .or .i64 a b = ((a ||| b : Nat) : Int) := by
  unfold bitsA
  simp only [BitVec.ofInt_natCast, BitVec.toNat_or, BitVec.toNat_ofNat]
  rw [Nat.mod_eq_of_lt (show a < 2 ^ IntKind.i64.bits from Nat.lt_of_lt_of_le ha (by decide)), Nat.mod_eq_of_lt (show b < 2 ^ IntKind.i64.bits from Nat.lt_of_lt_of_le hb (by decide))]
  exact wrap_i64n (Nat.or_lt_two_pow (n := 63) ha hb)

theorem xor_i64 {a b : Nat} (ha : a < 9223372036854775808) (hb : b < 9223372036854775808) : bitsA .xor .i64 a b = ((a ^^^ b : Nat) : Int) := by
  unfold bitsA
  simp only [BitVec.ofInt_natCast, BitVec.toNat_xor, BitVec.toNat_ofNat]
  rw [Nat.mod_eq_of_lt (show a < 2 ^ IntKind.i64.bits from Nat.lt_of_lt_of_le ha (by decide)), Nat.mod_eq_of_lt (show b < 2 ^ IntKind.i64.bits from Nat.lt_of_lt_of_le hb (by decide))]
  exact wrap_i64n (Nat.xor_lt_two_pow (n := 63) ha hb)

theorem byteAV_of {x : Int} {n : Nat} (h : x = n) (hn : n < 256) : AV.int .u8 x = byteAV (UInt8.ofNat n) := by
  unfold byteAV
  rw [h, UInt8.toNat_ofNat', Nat.mod_eq_of_lt (by omega)]

theorem shr_nat (a m : Nat) : (a : Int).fdiv (2 ^ m) = ((a / 2 ^ m : Nat) : Int) := by
  rw [Int.fdiv_eq_ediv_of_nonneg]
  · simp
  · exact Int.pow_nonneg (by decide)

theorem wrap_low {k : IntKind} (hk : uns k = true) (a : Nat) : k.wrap (a : Int) = ((a % 2 ^ k.bits : Nat) : Int) := by
  cases k <;> first | (simp [uns] at hk; done) | skip
  · rw [IntKind.wrap_u8]; simp [IntKind.bits]
  · simp [IntKind.wrap, IntKind.bits, IntKind.signed]
  · rw [IntKind.wrap_u32]; simp [IntKind.bits]
  · simp [IntKind.wrap, IntKind.bits, IntKind.signed]

theorem xor_ones {c : Nat} (h : c < 4294967296) : 4294967295 ^^^ c = 4294967295 - c := by
  have h1 : (BitVec.allOnes 32 ^^^ BitVec.ofNat 32 c).toNat = (~~~ (BitVec.ofNat 32 c)).toNat := by rw [BitVec.allOnes_xor]
  simp only [BitVec.toNat_xor, BitVec.toNat_allOnes, BitVec.toNat_ofNat, BitVec.toNat_not] at h1
  rw [Nat.mod_eq_of_lt (by omega)] at h1
  simpa using h1

theorem setRange_all {α : Type} {cs vs : List α} (h : cs.length = vs.length) : setRange cs 0 vs = vs := by
  unfold setRange
  split
  · rename_i v
    match cs, h with
    | [c], _ => rfl
  · simp [← h]

end Go.Ab
