/-
  Numbers as letters: how the reference reads them.
-/
import Derived.Test.YtjbgcbolakdhaaaWireB
import Derived.Test.YtjbgcbolakdhaaaRefN
set_option linter.unusedVariables false
set_option linter.unusedSimpArgs false
set_option maxRecDepth 20000
namespace Go.Proofs.Ytjbgcbolakdhaaa
open Go Go.Ab

theorem Pow2_ok (m : Nat) (hm : m ≤ 62) : Calc cx 42 [.int .i64 m] (.int .i64 ((2 ^ m : Nat) : Int)) :=
  pure_intro (fun a w => Try.call42 a w) Try.func42 rfl Try.ntmps42 rfl .int fun B => by
    refine ab 1000 rfl trivial ?_
    refine S_while (α := Nat) (fun i => [(0, .int .i64 ((m - i : Nat) : Int)), (3, .int .i64 ((2 ^ i : Nat) : Int))]) (fun _ => []) (fun i => i ≤ m) (fun i => m - i) 0 (Nat.zero_le _) (.cons rfl (.cons rfl (.nil _))) rfl ?_
    intro i hi
    have hp : 2 ^ i ≤ 2 ^ 62 := Nat.pow_le_pow_right (by decide) (by omega)
    refine ab 1000 rfl trivial ?_
    refine S_dec rfl (fun h => ?_) (fun h => ?_)
    · have hil : i < m := by omega
      have hp2 : 2 ^ (i + 1) = 2 * 2 ^ i := by rw [Nat.pow_succ]; omega
      have hp3 : 2 ^ (i + 1) ≤ 2 ^ 62 := Nat.pow_le_pow_right (by decide) (by omega)
      refine ab 1000 rfl trivial ?_
      refine S_round (i + 1) (by show m - (i + 1) < m - i; omega) hil (.cons ?_ (.cons ?_ (.nil _))) rfl
      · exact ai64 (k := m - (i + 1)) (by omega) (by omega)
      · exact ai64 (k := 2 ^ (i + 1)) (by rw [hp2]; rfl) (by omega)
    · have him : i = m := by omega
      subst him
      refine ab 1000 rfl trivial ?_
      exact S_retc .int rfl trivial rfl

theorem UnpackNumber_ok (s : List UInt8) (hs : s.length ≤ 9223372036854775806) : Calc cx 30 [.str s] (numAV (readN s 0 0)) :=
  pure_intro (fun a w => Try.call30 a w) Try.func30 rfl Try.ntmps30 rfl (numAV_free _) fun B => by
    refine ab 1000 rfl trivial ?_
    refine S_while (α := Nat × Nat) (fun (i, n) => [(0, .str s), (5, .int .i64 n), (6, .int .i64 i)]) (fun _ => [])
      (fun (i, n) => i ≤ s.length ∧ i ≤ 8 ∧ n < 128 ^ i ∧ readN (s.drop i) i n = readN s 0 0) (fun (i, _) => s.length - i) (0, 0)
      ⟨by simp, by decide, by decide, rfl⟩ (.cons rfl (.cons rfl (.cons rfl (.nil _)))) rfl ?_
    rintro ⟨i, n⟩ ⟨hi, hi8, hn, hN⟩
    refine ab 1000 rfl trivial ?_
    refine S_dec rfl (fun h => ?_) (fun h => ?_)
    · have hil : i < s.length := by omega
      rw [List.drop_eq_getElem_cons hil] at hN
      refine ab 1000 rfl trivial ?_
      refine S_beq rfl (fun hb => ?_) (fun hb => ?_)
      · have h8 : i = 8 := by omega
        refine ab 1000 rfl trivial ?_
        refine S_retc (numAV_free _) rfl trivial ?_
        rw [show readN s 0 0 = (0, 0, 3) by rw [← hN]; simp [readN, h8]]; rfl
      · have h8 : i ≠ 8 := by omega
        have hi7 : i ≤ 7 := by omega
        refine ab 1000 rfl ⟨by decide, h, by omega, trivial⟩ ?_
        have hgd : s.getD i 0 = s[i] := by simp [List.getD, hil]
        have hc := s[i].toNat_lt
        obtain ⟨c, hcd⟩ : ∃ c, c = s[i].toNat := ⟨_, rfl⟩
        rw [← hcd] at hc
        have hwc : IntKind.i64.wrap (((s.getD i 0).toNat : Nat) : Int) = (c : Int) := by rw [hgd, ← hcd]; exact w64 rfl (by omega)
        have hpow : 128 ^ i ≤ 128 ^ 7 := Nat.pow_le_pow_right (by decide) hi7
        have hmul : c % 128 * 128 ^ i ≤ 127 * 128 ^ 7 := Nat.mul_le_mul (by omega) hpow
        have hp2 : 2 ^ (7 * i) = 128 ^ i := by rw [show (128 : Nat) = 2 ^ 7 from rfl, ← Nat.pow_mul]
        refine S_pure rfl rfl rfl (Pow2_ok (7 * i) (by omega)) (.cons ?_ (.nil _)) ?_
        · show Frz false [] (.int .i64 (IntKind.i64.wrap (7 * (i : Int)))) _
          rw [w64 (x := 7 * (i : Int)) (k := 7 * i) rfl (by omega)]; exact .refl .int
        rw [hp2]
        refine ab 1000 rfl trivial ?_
        have hn5 : IntKind.i64.wrap ((n : Int) + IntKind.i64.wrap ((IntKind.i64.wrap (((s.getD i 0).toNat : Nat) : Int)).tmod 128 * ((128 ^ i : Nat) : Int))) = ((n + c % 128 * 128 ^ i : Nat) : Int) := by
          rw [hwc, w64 (x := (c : Int).tmod 128 * ((128 ^ i : Nat) : Int)) (k := c % 128 * 128 ^ i) rfl (by omega), w64 (x := (n : Int) + ((c % 128 * 128 ^ i : Nat) : Int)) (k := n + c % 128 * 128 ^ i) rfl (by omega)]
        have hN' : readN s 0 0 = if 127 < c then readN (s.drop (i + 1)) (i + 1) (n + c % 128 * 128 ^ i) else if c = 0 ∧ 0 < i then (0, 0, 1) else if 9007199254740991 < n + c % 128 * 128 ^ i then (0, 0, 3) else (n + c % 128 * 128 ^ i, i + 1, 0) := by
          rw [← hN]; simp only [readN, if_neg h8, ← hcd]
        have hn' : n + c % 128 * 128 ^ i < 128 ^ (i + 1) := by
          have : c % 128 * 128 ^ i ≤ 127 * 128 ^ i := Nat.mul_le_mul (by omega) (Nat.le_refl _)
          rw [Nat.pow_succ]; omega
        generalize hgn : n + c % 128 * 128 ^ i = n' at *
        refine S_weak (fr' := [(0, .str s), (5, .int .i64 n'), (6, .int .i64 i), (7, .int .i64 c), (29, .bool (decide ((c : Int) ≥ 128)))])
          (.cons rfl (.cons (congrArg _ hn5) (.cons rfl (.cons (congrArg _ hwc) (.cons (congrArg (fun z : Int => AV.bool (decide (z ≥ 128))) hwc) (.nil _)))))) ?_
        refine S_dec rfl (fun h27 => ?_) (fun h27 => ?_)
        · refine ab 1000 rfl trivial ?_
          refine S_round (i + 1, n') (by show s.length - (i + 1) < s.length - i; omega) ⟨hil, by omega, hn', ?_⟩ (.cons rfl (.cons rfl (.cons (ai64 rfl (by omega)) (.nil _)))) rfl
          rw [hN', if_pos (by omega)]
        · rw [if_neg (by omega)] at hN'
          have hfin : ∀ (fr : Fr), (numAV (n', i + 1, 0)) = AV.tup [.int .i64 n', .int .i64 (IntKind.i64.wrap ((i : Int) + 1)), .int .i64 0] := by
            intro _; rw [w64 (x := (i : Int) + 1) (k := i + 1) rfl (by omega)]; rfl
          refine ab 1000 rfl trivial ?_
          refine S_guard rfl rfl rfl rfl (fun hg => ?_) (fun hg => ?_)
          · have hc0 : c = 0 := by simpa using hg
            refine ab 1000 rfl trivial ?_
            refine S_dec rfl (fun hi0 => ?_) (fun hi0 => ?_)
            · refine ab 1000 rfl trivial ?_
              refine S_retc (numAV_free _) rfl trivial ?_
              rw [hN', if_pos ⟨hc0, by omega⟩]; rfl
            · rw [if_neg (by omega)] at hN'
              refine ab 1000 rfl trivial ?_
              refine S_pure rfl rfl rfl (IsNumber_ok n') (.cons (.refl .int) (.nil _)) ?_
              refine ab 1000 rfl trivial ?_
              refine S_cond rfl (fun hbig => ?_) (fun hbig => ?_)
              · refine ab 1000 rfl trivial ?_
                refine S_retc (numAV_free _) rfl trivial ?_
                rw [hN', if_pos (by simp at hbig; omega)]; rfl
              · refine ab 1000 rfl trivial ?_
                refine S_retc (numAV_free _) rfl trivial ?_
                rw [hN', if_neg (by simp at hbig; omega), hfin []]; rfl
          · have hc0 : c ≠ 0 := by simpa using hg
            rw [if_neg (by omega)] at hN'
            refine ab 1000 rfl trivial ?_
            refine S_cond rfl (fun hh => by cases hh) (fun _ => ?_)
            refine ab 1000 rfl trivial ?_
            refine S_pure rfl rfl rfl (IsNumber_ok n') (.cons (.refl .int) (.nil _)) ?_
            refine ab 1000 rfl trivial ?_
            refine S_cond rfl (fun hbig => ?_) (fun hbig => ?_)
            · refine ab 1000 rfl trivial ?_
              refine S_retc (numAV_free _) rfl trivial ?_
              rw [hN', if_pos (by simp at hbig; omega)]; rfl
            · refine ab 1000 rfl trivial ?_
              refine S_retc (numAV_free _) rfl trivial ?_
              rw [hN', if_neg (by simp at hbig; omega), hfin []]; rfl
    · have hil : i = s.length := by omega
      refine ab 1000 rfl trivial ?_
      refine S_retc (numAV_free _) rfl trivial ?_
      rw [show readN s 0 0 = (0, 0, 1) by rw [← hN, hil]; simp [readN]]; rfl

end Go.Proofs.Ytjbgcbolakdhaaa
