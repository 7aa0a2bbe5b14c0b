/-
  Bits of two numbers, put together: xor and and.
-/
import Derived.Test.YtjpmngjoohoddabDoorLogA
set_option linter.unusedVariables false
set_option linter.unusedSimpArgs false
set_option maxRecDepth 20000
namespace Go.Proofs.YtjpmngjoohoddabDoor
open Go Go.Ab

theorem xor_half (a b : Nat) : a ^^^ b = (a % 2 + b % 2) % 2 + 2 * ((a / 2) ^^^ (b / 2)) := by
  have h1 : (a ^^^ b) / 2 = (a / 2) ^^^ (b / 2) := by
    have := Nat.shiftRight_xor_distrib (a := a) (b := b) (i := 1)
    simpa [Nat.shiftRight_eq_div_pow] using this
  have h2 : (a ^^^ b) % 2 = (a % 2 + b % 2) % 2 := by
    clear h1
    have h := @Nat.xor_mod_two_eq_one a b
    have hz := Nat.mod_two_eq_zero_or_one (a ^^^ b)
    generalize (a ^^^ b) % 2 = z at *
    rcases Nat.mod_two_eq_zero_or_one a with ha | ha <;> rcases Nat.mod_two_eq_zero_or_one b with hb | hb <;> rw [ha, hb] at h ⊢ <;> rcases hz with rfl | rfl <;> simp at h ⊢
  rw [← h1, ← h2]; omega

theorem bitsN_xor : ∀ k a b, bitsN (fun x y => (x + y) % 2) k a b = (a ^^^ b) % 2 ^ k
  | 0, a, b => by simp [bitsN, Nat.mod_one]
  | k + 1, a, b => by
    rw [bitsN, bitsN_xor k, xor_half a b, Nat.pow_succ, Nat.mul_comm (2 ^ k) 2, Nat.mod_mul]
    have h : (a % 2 + b % 2) % 2 < 2 := Nat.mod_lt _ (by decide)
    generalize (a % 2 + b % 2) % 2 = x at *
    generalize (a / 2) ^^^ (b / 2) = y at *
    have e1 : (x + 2 * y) % 2 = x := by omega
    have e2 : (x + 2 * y) / 2 = y := by omega
    rw [e1, e2]

theorem xor2_eq {a b : Nat} (ha : a < 4294967296) (hb : b < 4294967296) : xor2 a b = a ^^^ b := by
  unfold xor2
  rw [bitsN_xor]
  exact Nat.mod_eq_of_lt (Nat.xor_lt_two_pow (n := 32) ha hb)

theorem xorL_two {a b : Nat} (ha : a < 4294967296) (hb : b < 4294967296) : xorL [a, b] = a ^^^ b := by
  simp only [xorL, List.foldl_cons, List.foldl_nil]
  rw [xor2_eq (by decide) ha, Nat.zero_xor, xor2_eq ha hb]

theorem xorL_three {a b c : Nat} (ha : a < 4294967296) (hb : b < 4294967296) (hc : c < 4294967296) : xorL [a, b, c] = a ^^^ b ^^^ c := by
  simp only [xorL, List.foldl_cons, List.foldl_nil]
  rw [xor2_eq (by decide) ha, Nat.zero_xor, xor2_eq ha hb, xor2_eq (Nat.xor_lt_two_pow (n := 32) ha hb) hc]

end Go.Proofs.YtjpmngjoohoddabDoor
