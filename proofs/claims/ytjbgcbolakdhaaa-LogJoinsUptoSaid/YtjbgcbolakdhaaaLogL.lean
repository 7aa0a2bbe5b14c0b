/-
  An entry is read back as it was made; what is read of entries and what stands behind them.
-/
import Derived.Test.YtjbgcbolakdhaaaLogK
set_option linter.unusedVariables false
set_option linter.unusedSimpArgs false
set_option maxRecDepth 20000
namespace Go.Proofs.Ytjbgcbolakdhaaa
open Go Go.Ab

theorem readN_pack : ∀ (k n i acc : Nat) (rest : List UInt8), n < 128 ^ (k + 1) → i + (packN k n).length ≤ 8 → acc + n * 128 ^ i ≤ 9007199254740991 → (n ≠ 0 ∨ i = 0) →
    readN (packN k n ++ rest) i acc = (acc + n * 128 ^ i, i + (packN k n).length, 0)
  | 0, n, i, acc, rest, hn, hi, hb, h0 => by
    have hn : n < 128 := by simpa using hn
    simp only [packN, List.length_singleton] at hi ⊢
    have ht : (UInt8.ofNat n).toNat = n := by rw [UInt8.toNat_ofNat', Nat.mod_eq_of_lt (by omega)]
    simp only [List.singleton_append, readN]
    rw [if_neg (by omega), ht, if_neg (by omega), if_neg (by omega), Nat.mod_eq_of_lt hn, if_neg (by omega)]
  | k + 1, n, i, acc, rest, hn, hi, hb, h0 => by
    have e : packN (k + 1) n = if n < 128 then [UInt8.ofNat n] else UInt8.ofNat (n % 128 + 128) :: packN k (n / 128) := rfl
    by_cases hs : n < 128
    · rw [e, if_pos hs] at hi ⊢
      have ht : (UInt8.ofNat n).toNat = n := by rw [UInt8.toNat_ofNat', Nat.mod_eq_of_lt (by omega)]
      simp only [List.length_singleton] at hi ⊢
      simp only [List.singleton_append, readN]
      rw [if_neg (by omega), ht, if_neg (by omega), if_neg (by omega), Nat.mod_eq_of_lt hs, if_neg (by omega)]
    · rw [e, if_neg hs] at hi ⊢
      have hne := packN_ne k (n / 128)
      have hpos : 0 < (packN k (n / 128)).length := List.length_pos_iff.2 hne
      simp only [List.length_cons] at hi ⊢
      have ht : (UInt8.ofNat (n % 128 + 128)).toNat = n % 128 + 128 := by rw [UInt8.toNat_ofNat', Nat.mod_eq_of_lt (by omega)]
      simp only [List.cons_append, readN]
      rw [if_neg (by omega), ht, if_pos (by omega)]
      have hsum : acc + (n % 128 + 128) % 128 * 128 ^ i + n / 128 * 128 ^ (i + 1) = acc + n * 128 ^ i := by
        have h1 : (n % 128 + 128) % 128 = n % 128 := by omega
        rw [h1, Nat.pow_succ, Nat.mul_comm (128 ^ i) 128, ← Nat.mul_assoc, Nat.add_assoc, ← Nat.add_mul]
        congr 2; omega
      rw [readN_pack k (n / 128) (i + 1) _ rest (by rw [Nat.div_lt_iff_lt_mul (by decide)]; rw [Nat.pow_succ] at hn; omega) (by omega) (by omega) (.inl (by omega)), hsum]
      congr 2; omega

theorem packN_small {n : Nat} (hn : n ≤ 9007199254740991) : (packN 9 n).length ≤ 8 := by
  rw [packN_more 8 n (by simp; omega), packN_more 7 n (by simp; omega)]
  exact packN_len 7 n

theorem readN_of_pack (n : Nat) (rest : List UInt8) (hn : n ≤ 9007199254740991) : readN (packN 9 n ++ rest) 0 0 = (n, (packN 9 n).length, 0) := by
  have := readN_pack 9 n 0 0 rest (by simp; omega) (by have := packN_small hn; omega) (by simp; omega) (.inr rfl)
  simpa using this

theorem nextL_entry (s rest : List UInt8) (hs : s.length ≤ 100000) : nextL (entryOf s ++ rest) = (s, rest, true) := by
  have hp := readN_of_pack s.length (s ++ le4 (sumOf s) ++ rest) (by omega)
  have he : entryOf s ++ rest = 76 :: (packN 9 s.length ++ (s ++ le4 (sumOf s) ++ rest)) := by simp [entryOf]
  have hl4 : (le4 (sumOf s)).length = 4 := rfl
  rw [he, nextL_cons 76 _ (by decide) _ hp]
  simp only
  have hen : entryOf s = 76 :: (packN 9 s.length ++ (s ++ le4 (sumOf s))) := by simp [entryOf]
  generalize packN 9 s.length = p at *
  rw [if_neg (by simp; omega)]
  have h1 : (76 :: (p ++ (s ++ le4 (sumOf s) ++ rest))).drop (1 + p.length) = s ++ le4 (sumOf s) ++ rest := by
    rw [Nat.add_comm, List.drop_succ_cons, List.drop_left]
  have h2 : (s ++ le4 (sumOf s) ++ rest).take s.length = s := by rw [List.append_assoc, List.take_left]
  have h3 : (76 :: (p ++ (s ++ le4 (sumOf s) ++ rest))).drop (1 + p.length + s.length + 4) = rest := by
    rw [show 1 + p.length + s.length + 4 = (1 + p.length) + (s.length + 4) by omega, ← List.drop_drop, h1]
    exact List.drop_left' (by simp [hl4])
  have h4 : (76 :: (p ++ (s ++ le4 (sumOf s) ++ rest))).take (1 + p.length + s.length + 4) = 76 :: (p ++ (s ++ le4 (sumOf s))) := by
    rw [show 76 :: (p ++ (s ++ le4 (sumOf s) ++ rest)) = (76 :: (p ++ (s ++ le4 (sumOf s)))) ++ rest by simp]
    exact List.take_left' (by simp [hl4]; omega)
  rw [h1, h2, h3, h4, hen]
  simp

theorem readAll_more : ∀ (f : Nat) (l : List UInt8), l.length ≤ f → readAll f l = readAll l.length l
  | 0, l, h => by rw [show l.length = 0 by omega]
  | f + 1, l, h => by
    by_cases hy : (nextL l).2.2 = true
    · have hsh := nextL_short l hy
      obtain ⟨g, hg⟩ : ∃ g, l.length = g + 1 := ⟨l.length - 1, by omega⟩
      rw [hg, readAll, readAll, if_pos hy, if_pos hy, readAll_more f _ (by omega), readAll_more g _ (by omega)]
    · cases hl : l.length with
      | zero => simp [readAll, hy]
      | succ g => rw [readAll, readAll, if_neg hy, if_neg hy]
termination_by f l _ => f

def allOf (l : List UInt8) : List (List UInt8) × List UInt8 := readAll l.length l

theorem allOf_entry (s rest : List UInt8) (hs : s.length ≤ 100000) : allOf (entryOf s ++ rest) = (s :: (allOf rest).1, (allOf rest).2) := by
  have h := nextL_entry s rest hs
  have hpos : 0 < (entryOf s ++ rest).length := by simp [entryOf]
  unfold allOf
  obtain ⟨g, hg⟩ : ∃ g, (entryOf s ++ rest).length = g + 1 := ⟨(entryOf s ++ rest).length - 1, by omega⟩
  have hgr : rest.length ≤ g := by
    have : (entryOf s ++ rest).length = (entryOf s).length + rest.length := List.length_append
    have h2 : 0 < (entryOf s).length := by simp [entryOf]
    omega
  rw [hg, readAll, h]
  simp only [if_true]
  rw [readAll_more g rest hgr]

theorem allOf_entries : ∀ (l : List (List UInt8)) (rest : List UInt8), (∀ s ∈ l, s.length ≤ 100000) → allOf (entriesOf l ++ rest) = (l ++ (allOf rest).1, (allOf rest).2)
  | [], rest, h => by simp [entriesOf]
  | s :: r, rest, h => by
    have e : entriesOf (s :: r) ++ rest = entryOf s ++ (entriesOf r ++ rest) := by simp [entriesOf]
    rw [e, allOf_entry s _ (h s (List.mem_cons_self ..)), allOf_entries r rest (fun x hx => h x (List.mem_cons_of_mem _ hx))]
    rfl

end Go.Proofs.Ytjbgcbolakdhaaa
