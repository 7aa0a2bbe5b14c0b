/-
  Numbers as letters: how they are read; the reference.
-/
import Derived.Test.YtjpmngjoohoddaaDoorWireA
set_option linter.unusedVariables false
set_option linter.unusedSimpArgs false
set_option maxRecDepth 20000
namespace Go.Proofs.YtjpmngjoohoddaaDoor
open Go Go.Ab

/-- Numbers are packed by the reference as by the program. -/
theorem PackNumber_ok : ∀ (m : Nat), m ≤ 9007199254740991 → Calc cx 40 [.int .i64 m] (.str (packN 9 m)) := by
  intro m
  induction m using Nat.strongRecOn with
  | _ m ih =>
    intro hm
    refine pure_intro (fun a w => Tryd.call40 a w) Tryd.func40 rfl Tryd.ntmps40 rfl .str fun B => ?_
    refine ab 1000 rfl trivial ?_
    refine S_dec rfl (fun h => ?_) (fun h => ?_)
    · refine ab 1000 rfl ⟨byte1 (x := .int .u8 (IntKind.u8.wrap (m : Int))) trivial, rfl, trivial⟩ ?_
      refine S_ret ⟨_, _, rfl, trivial, _, rfl, ?_⟩
      have e : packN 9 m = [UInt8.ofNat (IntKind.u8.wrap (m : Int)).toNat] := by
        rw [wu8 rfl (by omega)]
        simp [packN]; omega
      rw [e]
      exact .refl .str
    · refine ab 1000 rfl trivial ?_
      have hl := packN_len 9 (m / 128)
      refine S_draw 11 [] [.str (packN 9 (m / 128))] rfl rfl rfl rfl ⟨rfl, rfl, by decide, rfl, rfl, rfl, rfl, rfl, byte1 (x := .int .u8 (IntKind.u8.wrap (IntKind.i64.wrap ((m : Int).tmod 128 + 128)))) trivial, rfl, rfl, by decide, ⟨_, ih (m / 128) (by omega) (by omega), .cons ?_ (.nil _)⟩, rfl, ?_, rfl, trivial⟩ ?_
      · show Frz false [] (.int .i64 (IntKind.i64.wrap ((m / 128 : Nat) : Int))) _
        rw [w64 rfl (by omega)]; exact .refl .int
      · show ((1 + (packN 9 (m / 128)).length : Nat) : Int) ≤ 9223372036854775807
        omega
      · refine ab 1000 rfl trivial ?_
        refine S_ret ⟨_, _, rfl, trivial, _, rfl, ?_⟩
        have e : packN 9 m = [UInt8.ofNat (IntKind.u8.wrap (IntKind.i64.wrap (((m % 128 : Nat) : Int) + 128))).toNat] ++ packN 9 (m / 128) := by
          rw [show ((m % 128 : Nat) : Int) + 128 = ((m % 128 + 128 : Nat) : Int) from rfl, w64 (k := m % 128 + 128) rfl (by omega), wu8 rfl (by omega), packN_step (by omega) (by omega)]
          rfl
        rw [e]
        exact .refl .str

/-- What a reader of a number finds: the number, how many letters, and what went wrong. -/
def readN : List UInt8 → Nat → Nat → Nat × Nat × Nat
  | [], _, _ => (0, 0, 1)
  | c :: r, i, n =>
    if i = 8 then (0, 0, 3)
    else
      let n' := n + c.toNat % 128 * 128 ^ i
      if 127 < c.toNat then readN r (i + 1) n'
      else if c.toNat = 0 ∧ 0 < i then (0, 0, 1)
      else if 9007199254740991 < n' then (0, 0, 3)
      else (n', i + 1, 0)

def numAV (x : Nat × Nat × Nat) : AV := .tup [.int .i64 x.1, .int .i64 x.2.1, .int .i64 x.2.2]

theorem numAV_free (x : Nat × Nat × Nat) : Free true (numAV x) := .tup (by intro y hy; simp at hy; rcases hy with rfl | rfl | rfl <;> exact .int)

theorem ReadNumber_ok (s : List UInt8) (hs : s.length ≤ 9223372036854775806) : Calc cx 17 [.str s] (numAV (readN s 0 0)) :=
  pure_intro (fun a w => Tryd.call17 a w) Tryd.func17 rfl Tryd.ntmps17 rfl (numAV_free _) fun B => by
    refine ab 1000 rfl trivial ?_
    refine S_while (α := Nat × Nat) (fun (i, n) => [(0, .str s), (5, .int .i64 n), (9, .int .i64 s.length), (10, .int .i64 i)]) (fun _ => [])
      (fun (i, n) => i ≤ s.length ∧ i ≤ 8 ∧ n < 128 ^ i ∧ readN (s.drop i) i n = readN s 0 0) (fun (i, _) => s.length - i) (0, 0)
      ⟨by simp, by decide, by decide, rfl⟩ (.cons rfl (.cons rfl (.cons rfl (.cons rfl (.nil _))))) rfl ?_
    rintro ⟨i, n⟩ ⟨hi, hi8, hn, hN⟩
    refine ab 1000 rfl trivial ?_
    refine S_dec rfl (fun h => ?_) (fun h => ?_)
    · have hil : i < s.length := by omega
      rw [List.drop_eq_getElem_cons hil] at hN
      refine ab 1000 rfl trivial ?_
      refine S_beq rfl (fun hb => ?_) (fun hb => ?_)
      · have h8 : i = 8 := by omega
        refine ab 1000 rfl trivial ?_
        refine S_retc (numAV_free _) rfl trivial ?_
        rw [show readN s 0 0 = (0, 0, 3) by rw [← hN]; simp [readN, h8]]; rfl
      · have h8 : i ≠ 8 := by omega
        have hi7 : i ≤ 7 := by omega
        have hw7 : IntKind.i64.wrap (7 * (i : Int)) = ((7 * i : Nat) : Int) := w64 rfl (by omega)
        refine ab 1000 rfl ⟨by rw [hw7]; omega, h, by omega, trivial⟩ ?_
        have hgd : s.getD i 0 = s[i] := by simp [List.getD, hil]
        have hc := s[i].toNat_lt
        obtain ⟨c, hcd⟩ : ∃ c, c = s[i].toNat := ⟨_, rfl⟩
        rw [← hcd] at hc
        have hwc : IntKind.i64.wrap (((s.getD i 0).toNat : Nat) : Int) = (c : Int) := by rw [hgd, ← hcd]; exact w64 rfl (by omega)
        have hpow : 128 ^ i ≤ 128 ^ 7 := Nat.pow_le_pow_right (by decide) hi7
        have hmul : c % 128 * 128 ^ i ≤ 127 * 128 ^ 7 := Nat.mul_le_mul (by omega) hpow
        have hn5 : bitsA .or .i64 (n : Int) (IntKind.i64.wrap (bitsA .and .i64 (IntKind.i64.wrap (((s.getD i 0).toNat : Nat) : Int)) 127 * 2 ^ min (IntKind.i64.wrap (7 * (i : Int))).toNat IntKind.i64.bits)) = ((n + c % 128 * 128 ^ i : Nat) : Int) := by
          rw [hwc, hw7, show (127 : Int) = ((127 : Nat) : Int) from rfl, and_i64 (by omega) (by decide), Nat.and_two_pow_sub_one_eq_mod c 7, Int.toNat_natCast, Nat.min_eq_left (show 7 * i ≤ IntKind.i64.bits by show 7 * i ≤ 64; omega)]
          have h2i : (2 : Int) ^ (7 * i) = ((128 ^ i : Nat) : Int) := by
            rw [show (128 : Nat) = 2 ^ 7 from rfl, ← Nat.pow_mul]; simp
          rw [h2i, show (((c % 2 ^ 7 : Nat) : Int) * ((128 ^ i : Nat) : Int)) = ((c % 128 * 128 ^ i : Nat) : Int) from rfl]
          rw [wrap_i64n (by omega), or_i64 (by omega) (by omega)]
          have h2 := Nat.two_pow_add_eq_or_of_lt (i := 7 * i) (b := n) (by rw [Nat.pow_mul]; exact hn) (c % 128)
          rw [Nat.pow_mul, Nat.mul_comm] at h2
          rw [Nat.or_comm]
          show ((c % 128 * (2 ^ 7) ^ i ||| n : Nat) : Int) = _
          rw [← h2, Nat.add_comm]
        have hN' : readN s 0 0 = if 127 < c then readN (s.drop (i + 1)) (i + 1) (n + c % 128 * 128 ^ i) else if c = 0 ∧ 0 < i then (0, 0, 1) else if 9007199254740991 < n + c % 128 * 128 ^ i then (0, 0, 3) else (n + c % 128 * 128 ^ i, i + 1, 0) := by
          rw [← hN]; simp only [readN, if_neg h8, ← hcd]
        have hn' : n + c % 128 * 128 ^ i < 128 ^ (i + 1) := by
          have : c % 128 * 128 ^ i ≤ 127 * 128 ^ i := Nat.mul_le_mul (by omega) (Nat.le_refl _)
          rw [Nat.pow_succ]; omega
        generalize hgn : n + c % 128 * 128 ^ i = n' at *
        refine S_weak (fr' := [(0, .str s), (5, .int .i64 n'), (6, .int .i64 i), (7, .int .i64 c), (9, .int .i64 s.length), (10, .int .i64 i), (26, .bool (decide ((c : Int) > 127)))])
          (.cons rfl (.cons (congrArg _ hn5) (.cons rfl (.cons (congrArg _ hwc) (.cons rfl (.cons rfl (.cons (congrArg (fun z : Int => AV.bool (decide (z > 127))) hwc) (.nil _)))))))) ?_
        refine S_dec rfl (fun h27 => ?_) (fun h27 => ?_)
        · refine ab 1000 rfl trivial ?_
          refine S_round (i + 1, n') (by show s.length - (i + 1) < s.length - i; omega) ⟨hil, by omega, hn', ?_⟩ (.cons rfl (.cons rfl (.cons rfl (.cons (ai64 rfl (by omega)) (.nil _))))) rfl
          rw [hN', if_pos (by omega)]
        · rw [if_neg (by omega)] at hN'
          refine ab 1000 rfl trivial ?_
          refine S_guard rfl rfl rfl rfl (fun hg => ?_) (fun hg => ?_)
          · have hc0 : c = 0 := by simpa using hg
            refine ab 1000 rfl trivial ?_
            refine S_dec rfl (fun hi0 => ?_) (fun hi0 => ?_)
            · refine ab 1000 rfl trivial ?_
              refine S_retc (numAV_free _) rfl trivial ?_
              rw [hN', if_pos ⟨hc0, by omega⟩]; rfl
            · rw [if_neg (by omega)] at hN'
              refine ab 1000 rfl trivial ?_
              refine S_dec rfl (fun hbig => ?_) (fun hbig => ?_)
              · refine ab 1000 rfl trivial ?_
                refine S_retc (numAV_free _) rfl trivial ?_
                rw [hN', if_pos (by omega)]; rfl
              · refine ab 1000 rfl trivial ?_
                refine S_retc (numAV_free _) rfl trivial ?_
                rw [hN', if_neg (by omega)]
                show AV.tup [.int .i64 n', .int .i64 (IntKind.i64.wrap ((i : Int) + 1)), .int .i64 0] = _
                rw [w64 (x := (i : Int) + 1) (k := i + 1) rfl (by omega)]; rfl
          · have hc0 : c ≠ 0 := by simpa using hg
            rw [if_neg (by omega)] at hN'
            refine ab 1000 rfl trivial ?_
            refine S_cond rfl (fun hh => by cases hh) (fun _ => ?_)
            refine ab 1000 rfl trivial ?_
            refine S_dec rfl (fun hbig => ?_) (fun hbig => ?_)
            · refine ab 1000 rfl trivial ?_
              refine S_retc (numAV_free _) rfl trivial ?_
              rw [hN', if_pos (by omega)]; rfl
            · refine ab 1000 rfl trivial ?_
              refine S_retc (numAV_free _) rfl trivial ?_
              rw [hN', if_neg (by omega)]
              show AV.tup [.int .i64 n', .int .i64 (IntKind.i64.wrap ((i : Int) + 1)), .int .i64 0] = _
              rw [w64 (x := (i : Int) + 1) (k := i + 1) rfl (by omega)]; rfl
    · have hil : i = s.length := by omega
      refine ab 1000 rfl trivial ?_
      refine S_retc (numAV_free _) rfl trivial ?_
      rw [show readN s 0 0 = (0, 0, 1) by rw [← hN, hil]; simp [readN]]; rfl

end Go.Proofs.YtjpmngjoohoddaaDoor
