/-
  A number that is packed is read as it was.
-/
import Derived.Test.YtjpmngjoohoddaaDoorWireB
set_option linter.unusedVariables false
set_option linter.unusedSimpArgs false
set_option maxRecDepth 20000
namespace Go.Proofs.YtjpmngjoohoddaaDoor
open Go Go.Ab

theorem readN_pack : ∀ (k n i acc : Nat) (rest : List UInt8), n < 128 ^ (k + 1) → i + (packN k n).length ≤ 8 → acc + n * 128 ^ i ≤ 9007199254740991 → (n ≠ 0 ∨ i = 0) →
    readN (packN k n ++ rest) i acc = (acc + n * 128 ^ i, i + (packN k n).length, 0)
  | 0, n, i, acc, rest, hn, hi, hb, h0 => by
    have hn : n < 128 := by simpa using hn
    simp only [packN, List.length_singleton] at hi ⊢
    have ht : (UInt8.ofNat n).toNat = n := by rw [UInt8.toNat_ofNat', Nat.mod_eq_of_lt (by omega)]
    simp only [List.singleton_append, readN]
    rw [if_neg (by omega), ht, if_neg (by omega), if_neg (by omega), Nat.mod_eq_of_lt hn, if_neg (by omega)]
  | k + 1, n, i, acc, rest, hn, hi, hb, h0 => by
    have e : packN (k + 1) n = if n < 128 then [UInt8.ofNat n] else UInt8.ofNat (n % 128 + 128) :: packN k (n / 128) := rfl
    by_cases hs : n < 128
    · rw [e, if_pos hs] at hi ⊢
      have ht : (UInt8.ofNat n).toNat = n := by rw [UInt8.toNat_ofNat', Nat.mod_eq_of_lt (by omega)]
      simp only [List.length_singleton] at hi ⊢
      simp only [List.singleton_append, readN]
      rw [if_neg (by omega), ht, if_neg (by omega), if_neg (by omega), Nat.mod_eq_of_lt hs, if_neg (by omega)]
    · rw [e, if_neg hs] at hi ⊢
      have hne := packN_ne k (n / 128)
      have hpos : 0 < (packN k (n / 128)).length := List.length_pos_iff.2 hne
      simp only [List.length_cons] at hi ⊢
      have ht : (UInt8.ofNat (n % 128 + 128)).toNat = n % 128 + 128 := by rw [UInt8.toNat_ofNat', Nat.mod_eq_of_lt (by omega)]
      simp only [List.cons_append, readN]
      rw [if_neg (by omega), ht, if_pos (by omega)]
      have hsum : acc + (n % 128 + 128) % 128 * 128 ^ i + n / 128 * 128 ^ (i + 1) = acc + n * 128 ^ i := by
        have h1 : (n % 128 + 128) % 128 = n % 128 := by omega
        rw [h1, Nat.pow_succ, Nat.mul_comm (128 ^ i) 128, ← Nat.mul_assoc, Nat.add_assoc, ← Nat.add_mul]
        congr 2; omega
      rw [readN_pack k (n / 128) (i + 1) _ rest (by rw [Nat.div_lt_iff_lt_mul (by decide)]; rw [Nat.pow_succ] at hn; omega) (by omega) (by omega) (.inl (by omega)), hsum]
      congr 2; omega

theorem packN_small {n : Nat} (hn : n ≤ 9007199254740991) : (packN 9 n).length ≤ 8 := by
  rw [packN_more 8 n (by simp; omega), packN_more 7 n (by simp; omega)]
  exact packN_len 7 n

theorem readN_of_pack (n : Nat) (rest : List UInt8) (hn : n ≤ 9007199254740991) : readN (packN 9 n ++ rest) 0 0 = (n, (packN 9 n).length, 0) := by
  have := readN_pack 9 n 0 0 rest (by simp; omega) (by have := packN_small hn; omega) (by simp; omega) (.inr rfl)
  simpa using this

end Go.Proofs.YtjpmngjoohoddaaDoor
