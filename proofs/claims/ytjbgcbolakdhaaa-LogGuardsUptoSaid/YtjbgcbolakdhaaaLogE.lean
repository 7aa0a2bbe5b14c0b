/-
  Entries of the log: all of them read.
-/
import Derived.Test.YtjbgcbolakdhaaaLogD
import Derived.Test.YtjbgcbolakdhaaaRefT
set_option linter.unusedVariables false
set_option linter.unusedSimpArgs false
set_option maxRecDepth 20000
namespace Go.Proofs.Ytjbgcbolakdhaaa
open Go Go.Ab

def readAll : Nat → List UInt8 → List (List UInt8) × List UInt8
  | 0, l => ([], l)
  | f + 1, l => if (nextL l).2.2 then ((nextL l).1 :: (readAll f (nextL l).2.1).1, (readAll f (nextL l).2.1).2) else ([], l)

theorem nextL_short (l : List UInt8) (h : (nextL l).2.2 = true) : (nextL l).2.1.length + 5 ≤ l.length := by
  cases l with
  | nil => cases h
  | cons c r =>
    by_cases hc : c.toNat ≠ 76
    · simp only [nextL, if_pos hc] at h; cases h
    · by_cases hx : (readN r 0 0).2.2 ≠ 0 ∨ 100000 < (readN r 0 0).1 ∨ (c :: r).length < 1 + (readN r 0 0).2.1 + (readN r 0 0).1 + 4
      · simp only [nextL, if_neg hc, if_pos hx] at h; cases h
      · simp only [nextL, if_neg hc, if_neg hx]
        simp only [not_or] at hx
        rw [List.length_drop]
        omega

theorem Read_ok (l : List UInt8) (hl : l.length ≤ 4398046511104) : Calc cx 17 [.str l] (.tup [.sl true false 1 (texts (readAll l.length l).1), .int .i64 ((l.length - (readAll l.length l).2.length : Nat) : Int)]) :=
  pure_intro (fun a w => Try.call17 a w) Try.func17 rfl Try.ntmps17 rfl (.tup (by intro x hx; simp at hx; rcases hx with rfl | rfl; exact .sl (fun _ => rfl) (texts_free _); exact .int)) fun B => by
    refine ab 1000 rfl trivial ?_
    refine S_ghostF (t := 4) 1 ⟨false, none⟩ rfl rfl ⟨_, _, .inl rfl⟩ ?_
    refine S_while (α := List (List UInt8) × List UInt8 × Nat × Nat) (fun (ds, r, u, f) => [(0, .str l), (4, .ms 0 u 0 ds.length 1 false), (5, .str r)]) (fun (ds, r, u, f) => [(u, some (.cells (texts ds) ⟨false, none⟩))])
      (fun (ds, r, u, f) => r.length + 5 * ds.length ≤ l.length ∧ r.length ≤ f ∧ ds ++ (readAll f r).1 = (readAll l.length l).1 ∧ (readAll f r).2 = (readAll l.length l).2) (fun (ds, r, u, f) => r.length) ([], l, 0, l.length)
      ⟨by simp, Nat.le_refl _, rfl, rfl⟩ (.cons rfl (.cons rfl (.cons rfl (.nil _)))) rfl ?_
    rintro ⟨ds, r, u, f⟩ ⟨h1, h2, h3, h4⟩
    refine ab 1000 rfl trivial ?_
    refine S_pure rfl rfl rfl (next_ok r (by omega)) (.cons (.refl .str) (.nil _)) ?_
    refine ab 1000 rfl trivial ?_
    refine S_cond rfl (fun h => ?_) (fun h => ?_)
    · refine ab 1000 rfl trivial ?_
      refine S_ret ⟨_, _, rfl, trivial, _, rfl, ?_⟩
      have hno : (nextL r).2.2 = false := by simpa using h
      have hf0 : readAll f r = ([], r) := by cases f <;> simp [readAll, hno]
      rw [hf0] at h3 h4
      simp only [List.append_nil] at h3
      simp only at h4
      rw [← h3, ← h4]
      refine Fzs.tup (.cons ?_ (.cons ?_ .nil))
      · exact .ms1 rfl (texts_one _) (by simp [texts]) (texts_free _)
      · show Frz true _ (.int .i64 (IntKind.i64.wrap ((l.length : Int) - (r.length : Int)))) _
        rw [w64 (k := l.length - r.length) (by omega) (by omega)]
        exact .refl .int
    · have hyes : (nextL r).2.2 = true := by simpa using h
      have hsh := nextL_short r hyes
      refine ab 1000 rfl ⟨?_, ?_, ?_, rfl, rfl, allOne_mem (cs := [.str (nextL r).1]) rfl, allOne_mem (cs := [.str (nextL r).1]) rfl, rfl, trivial⟩ ?_
      · show ds.length + 1 ≤ 9223372036854775807; omega
      · show (ds.length + 1) * 16 ≤ 140737488355328; omega
      · show 0 + ds.length * 1 = (texts ds).length; simp [texts]
      refine S_round (ds ++ [(nextL r).1], (nextL r).2.1, u + 1, f - 1) (by show (nextL r).2.1.length < r.length; omega) ⟨by simp; omega, by omega, ?_, ?_⟩ (.cons rfl (.cons ?_ (.cons rfl (.nil _)))) ?_
      · obtain ⟨f, rfl⟩ : ∃ g, f = g + 1 := ⟨f - 1, by omega⟩
        rw [← h3]; simp [readAll, hyes]
      · obtain ⟨f, rfl⟩ : ∃ g, f = g + 1 := ⟨f - 1, by omega⟩
        rw [← h4]; simp [readAll, hyes]
      · show AV.ms 0 (u + 1) 0 (ds.length + 1) 1 false = _
        simp
      · show [(u + 1, some (Box.cells (texts ds ++ [.str (nextL r).1]) ⟨false, none⟩))] = _
        simp [texts]

end Go.Proofs.Ytjbgcbolakdhaaa
