/-
  Which texts are digests: the program and the reference.
-/
import Derived.Test.YtjpmngjoohoddabDoorDigI0
set_option linter.unusedVariables false
set_option linter.unusedSimpArgs false
set_option maxRecDepth 20000
namespace Go.Proofs.YtjpmngjoohoddabDoor
open Go Go.Ab

def hexOf (c : Nat) : Int := if 48 ≤ c ∧ c ≤ 57 then c - 48 else if 97 ≤ c ∧ c ≤ 102 then c - 87 else -1

theorem hexD (m : Nat) (h : m < 16) : (("0123456789abcdef".toUTF8.data.toList).getD m 0).toNat = if m < 10 then m + 48 else m + 87 := by
  have : ∀ m : Fin 16, (("0123456789abcdef".toUTF8.data.toList).getD m.1 0).toNat = if m.1 < 10 then m.1 + 48 else m.1 + 87 := by decide +kernel
  exact this ⟨m, h⟩

theorem HexOf_ok (c : Nat) (hc : c < 256) : Calc cx 48 [.int .u8 c] (.int .i64 (hexOf c)) :=
  pure_intro (fun a w => Tryd.call48 a w) Tryd.func48 rfl Tryd.ntmps48 rfl .int fun B => by
    refine ab 1000 rfl trivial ?_
    refine S_while (α := Nat) (fun i => [(0, .int .u8 c), (3, .int .i64 i)]) (fun i => []) (fun i => i ≤ 16 ∧ ∀ m, m < i → ¬ (if m < 10 then m + 48 else m + 87) = c) (fun i => 16 - i) 0
      ⟨Nat.zero_le _, fun m h => by omega⟩ (.cons rfl (.cons rfl (.nil _))) rfl ?_
    rintro i ⟨hi, hN⟩
    refine ab 1000 rfl trivial ?_
    refine S_dec rfl (fun h => ?_) (fun h => ?_)
    · have hil : i < 16 := by omega
      refine ab 1000 rfl trivial ?_
      refine S_pure rfl rfl rfl (HexDigit_ok i hil) (.cons (.refl .int) (.nil _)) ?_
      have hD := hexD i hil
      generalize (("0123456789abcdef".toUTF8.data.toList).getD i 0) = b at *
      refine ab 1000 rfl ⟨by simp, by decide, trivial⟩ ?_
      refine S_beq rfl (fun hb => ?_) (fun hb => ?_)
      · have hb : b.toNat = c := by
          have h' : ((b.toNat : Nat) : Int) = c := hb
          omega
        refine ab 1000 rfl trivial ?_
        refine S_retc .int rfl trivial ?_
        show AV.int .i64 (i : Int) = _
        congr 1
        unfold hexOf
        rw [hD] at hb
        split at hb
        · rw [if_pos (by omega)]; omega
        · rw [if_neg (by omega), if_pos (by omega)]; omega
      · have hb : ¬ b.toNat = c := by
          intro e
          exact hb (show ((b.toNat : Nat) : Int) = c by omega)
        refine ab 1000 rfl trivial ?_
        refine S_round (i + 1) (by show 16 - (i + 1) < 16 - i; omega) ⟨hil, fun m hm => ?_⟩ (.cons rfl (.cons (ai64 rfl (by omega)) (.nil _))) rfl
        rcases Nat.lt_or_ge m i with h | h
        · exact hN m h
        · obtain rfl : m = i := by omega
          rw [← hD]; exact hb
    · have hil : i = 16 := by omega
      refine ab 1000 rfl trivial ?_
      refine S_retc .int rfl trivial ?_
      show AV.int .i64 (-1) = _
      congr 1
      unfold hexOf
      subst hil
      split
      · rename_i h
        have := hN (c - 48) (by omega)
        rw [if_pos (by omega)] at this; omega
      · split
        · rename_i h
          have := hN (c - 87) (by omega)
          rw [if_neg (by omega)] at this; omega
        · rfl

theorem hexOf_neg (c : UInt8) : hexOf c.toNat < 0 ↔ hexB c = false := by
  unfold hexOf hexB
  split
  · simp; omega
  · split
    · simp; omega
    · simp; omega

theorem IsDigest_ok (s : List UInt8) (hs : s.length ≤ 9223372036854775807) : Calc cx 13 [.str s] (.bool (isDig s)) :=
  pure_intro (fun a w => Tryd.call13 a w) Tryd.func13 rfl Tryd.ntmps13 rfl .bool fun B => by
    refine ab 1000 rfl trivial ?_
    refine S_while (α := Nat) (fun i => [(0, .str s), (3, .int .i64 i)]) (fun i => []) (fun i => i ≤ s.length ∧ (s.take i).all hexB = true) (fun i => s.length - i) 0
      ⟨Nat.zero_le _, rfl⟩ (.cons rfl (.cons rfl (.nil _))) rfl ?_
    rintro i ⟨hi, hN⟩
    refine ab 1000 rfl trivial ?_
    refine S_dec rfl (fun h => ?_) (fun h => ?_)
    · have hil : i < s.length := by omega
      refine ab 1000 rfl ⟨by omega, by omega, trivial⟩ ?_
      have hgd : s.getD i 0 = s[i] := by simp [List.getD, hil]
      have hc := s[i].toNat_lt
      have hH := HexOf_ok s[i].toNat (by omega)
      refine S_pure rfl rfl rfl hH (.cons ?_ (.nil _)) ?_
      · show Frz false [] (.int .u8 ((s.getD i 0).toNat : Nat)) _
        rw [hgd]; exact .refl .int
      refine ab 1000 rfl trivial ?_
      have hneg := hexOf_neg s[i]
      refine S_dec rfl (fun hb => ?_) (fun hb => ?_)
      · refine ab 1000 rfl trivial ?_
        refine S_retc .bool rfl trivial ?_
        rw [isDig, all_false hil (hneg.1 hb)]; rfl
      · have hb : hexB s[i] = true := by
          cases hx : hexB s[i] with
          | true => rfl
          | false => exact absurd (hneg.2 hx) hb
        refine ab 1000 rfl trivial ?_
        exact S_round (i + 1) (by show s.length - (i + 1) < s.length - i; omega) ⟨hil, take_all hil hN hb⟩ (.cons rfl (.cons (ai64 rfl (by omega)) (.nil _))) rfl
    · have hil : i = s.length := by omega
      refine ab 1000 rfl trivial ?_
      refine S_retc .bool rfl trivial ?_
      rw [hil, List.take_length] at hN
      rw [isDig, hN]
      show AV.bool (((s.length : Nat) : Int) == 64) = _
      by_cases h : s.length = 64
      · simp [h]
      · have h1 : ((s.length : Nat) : Int) ≠ 64 := by omega
        rw [beq_eq_false_iff_ne.2 h, beq_eq_false_iff_ne.2 h1]; rfl

end Go.Proofs.YtjpmngjoohoddabDoor
