/-
  An entry is read back as it was made; what is read of entries and what stands behind them.
-/
import Derived.Test.YtjbgcbolakdhaaaLogK
import Derived.Test.YtjbgcbolakdhaaaWireP
set_option linter.unusedVariables false
set_option linter.unusedSimpArgs false
set_option maxRecDepth 20000
namespace Go.Proofs.Ytjbgcbolakdhaaa
open Go Go.Ab

theorem nextL_entry (s rest : List UInt8) (hs : s.length ≤ 100000) : nextL (entryOf s ++ rest) = (s, rest, true) := by
  have hp := readN_of_pack s.length (s ++ le4 (sumOf s) ++ rest) (by omega)
  have he : entryOf s ++ rest = 76 :: (packN 9 s.length ++ (s ++ le4 (sumOf s) ++ rest)) := by simp [entryOf]
  have hl4 : (le4 (sumOf s)).length = 4 := rfl
  rw [he, nextL_cons 76 _ (by decide) _ hp]
  simp only
  have hen : entryOf s = 76 :: (packN 9 s.length ++ (s ++ le4 (sumOf s))) := by simp [entryOf]
  generalize packN 9 s.length = p at *
  rw [if_neg (by simp; omega)]
  have h1 : (76 :: (p ++ (s ++ le4 (sumOf s) ++ rest))).drop (1 + p.length) = s ++ le4 (sumOf s) ++ rest := by
    rw [Nat.add_comm, List.drop_succ_cons, List.drop_left]
  have h2 : (s ++ le4 (sumOf s) ++ rest).take s.length = s := by rw [List.append_assoc, List.take_left]
  have h3 : (76 :: (p ++ (s ++ le4 (sumOf s) ++ rest))).drop (1 + p.length + s.length + 4) = rest := by
    rw [show 1 + p.length + s.length + 4 = (1 + p.length) + (s.length + 4) by omega, ← List.drop_drop, h1]
    exact List.drop_left' (by simp [hl4])
  have h4 : (76 :: (p ++ (s ++ le4 (sumOf s) ++ rest))).take (1 + p.length + s.length + 4) = 76 :: (p ++ (s ++ le4 (sumOf s))) := by
    rw [show 76 :: (p ++ (s ++ le4 (sumOf s) ++ rest)) = (76 :: (p ++ (s ++ le4 (sumOf s)))) ++ rest by simp]
    exact List.take_left' (by simp [hl4]; omega)
  rw [h1, h2, h3, h4, hen]
  simp

theorem readAll_more : ∀ (f : Nat) (l : List UInt8), l.length ≤ f → readAll f l = readAll l.length l
  | 0, l, h => by rw [show l.length = 0 by omega]
  | f + 1, l, h => by
    by_cases hy : (nextL l).2.2 = true
    · have hsh := nextL_short l hy
      obtain ⟨g, hg⟩ : ∃ g, l.length = g + 1 := ⟨l.length - 1, by omega⟩
      rw [hg, readAll, readAll, if_pos hy, if_pos hy, readAll_more f _ (by omega), readAll_more g _ (by omega)]
    · cases hl : l.length with
      | zero => simp [readAll, hy]
      | succ g => rw [readAll, readAll, if_neg hy, if_neg hy]
termination_by f l _ => f

def allOf (l : List UInt8) : List (List UInt8) × List UInt8 := readAll l.length l

theorem allOf_entry (s rest : List UInt8) (hs : s.length ≤ 100000) : allOf (entryOf s ++ rest) = (s :: (allOf rest).1, (allOf rest).2) := by
  have h := nextL_entry s rest hs
  have hpos : 0 < (entryOf s ++ rest).length := by simp [entryOf]
  unfold allOf
  obtain ⟨g, hg⟩ : ∃ g, (entryOf s ++ rest).length = g + 1 := ⟨(entryOf s ++ rest).length - 1, by omega⟩
  have hgr : rest.length ≤ g := by
    have : (entryOf s ++ rest).length = (entryOf s).length + rest.length := List.length_append
    have h2 : 0 < (entryOf s).length := by simp [entryOf]
    omega
  rw [hg, readAll, h]
  simp only [if_true]
  rw [readAll_more g rest hgr]

theorem allOf_entries : ∀ (l : List (List UInt8)) (rest : List UInt8), (∀ s ∈ l, s.length ≤ 100000) → allOf (entriesOf l ++ rest) = (l ++ (allOf rest).1, (allOf rest).2)
  | [], rest, h => by simp [entriesOf]
  | s :: r, rest, h => by
    have e : entriesOf (s :: r) ++ rest = entryOf s ++ (entriesOf r ++ rest) := by simp [entriesOf]
    rw [e, allOf_entry s _ (h s (List.mem_cons_self ..)), allOf_entries r rest (fun x hx => h x (List.mem_cons_of_mem _ hx))]
    rfl

end Go.Proofs.Ytjbgcbolakdhaaa
