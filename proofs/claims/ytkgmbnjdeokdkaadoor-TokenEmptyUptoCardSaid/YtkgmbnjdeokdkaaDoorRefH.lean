/-
  The reference's HasText.
-/
import Derived.Test.YtkgmbnjdeokdkaaDoorRefT0
set_option linter.unusedVariables false
set_option linter.unusedSimpArgs false
set_option maxRecDepth 20000
namespace Go.Proofs.YtkgmbnjdeokdkaaDoor
open Go Go.Ab

theorem HasText_ok {st fl : Bool} (l : List (List UInt8)) (s : List UInt8) (hl : l.length ≤ 9223372036854775806) : Calc cx 42 [.sl st fl 1 (texts l), .str s] (.bool (l.contains s)) :=
  pure_intro (fun a w => Tryd.call42 a w) Tryd.func42 rfl Tryd.ntmps42 rfl .bool fun B => by
    have htl := texts_len l
    refine ab 1000 rfl trivial ?_
    refine S_while (α := Nat) (fun i => [(0, .sl st fl 1 (texts l)), (1, .str s), (5, .int .i64 (i : Nat))]) (fun _ => []) (fun i => i ≤ l.length ∧ s ∉ l.take i) (fun i => l.length - i) 0
      ⟨Nat.zero_le _, by simp⟩ (.cons rfl (.cons rfl (.cons rfl (.nil _)))) rfl ?_
    rintro i ⟨hi, hN⟩
    have hi : i ≤ l.length := hi
    refine ab 1000 rfl trivial ?_
    refine S_dec rfl (fun hlt => ?_) (fun hlt => ?_)
    · have hil : i < l.length := by have : ((i : Nat) : Int) < ((texts l).length : Nat) := hlt; omega
      refine ab 1000 rfl trivial ?_
      refine S_index (.str l[i]) rfl rfl rfl ⟨rfl, by omega, by rw [Int.toNat_natCast]; exact texts_get hil, trivial⟩ ?_
      refine ab 1000 rfl trivial ?_
      refine S_cond rfl (fun h => ?_) (fun h => ?_)
      · have h : l[i] = s := by simpa using (show (l[i] == s) = true from h)
        refine ab 1000 rfl trivial ?_
        refine S_retc .bool rfl trivial ?_
        rw [List.contains_iff_mem.2 (by rw [← h]; exact List.getElem_mem hil)]; rfl
      · have h : l[i] ≠ s := by simpa using (show (l[i] == s) = false from h)
        refine ab 1000 rfl trivial ?_
        refine S_round (i + 1) (by show l.length - (i + 1) < l.length - i; omega) ⟨hil, fun hm => ?_⟩ (.cons rfl (.cons rfl (.cons (ai64 rfl (by omega)) (.nil _)))) rfl
        rw [List.take_succ_eq_append_getElem hil] at hm
        rcases List.mem_append.1 hm with hm | hm
        · exact hN hm
        · simp at hm; exact h hm.symm
    · have hil : i = l.length := by have : ¬ ((i : Nat) : Int) < ((texts l).length : Nat) := hlt; omega
      rw [hil, List.take_length] at hN
      refine ab 1000 rfl trivial ?_
      refine S_retc .bool rfl trivial ?_
      have : l.contains s = false := by
        cases h : l.contains s with
        | false => rfl
        | true => exact absurd (List.contains_iff_mem.1 h) hN
      rw [this]; rfl

end Go.Proofs.YtkgmbnjdeokdkaaDoor
