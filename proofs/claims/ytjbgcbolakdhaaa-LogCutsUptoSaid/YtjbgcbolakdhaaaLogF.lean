/-
  The sum of a text, bit by bit, as the reference makes it; both sums are one.
-/
import Derived.Test.YtjbgcbolakdhaaaLogE
set_option linter.unusedVariables false
set_option linter.unusedSimpArgs false
set_option maxRecDepth 20000
namespace Go.Proofs.Ytjbgcbolakdhaaa
open Go Go.Ab

theorem xor_half (a b : Nat) : a ^^^ b = (a % 2 + b % 2) % 2 + 2 * ((a / 2) ^^^ (b / 2)) := by
  have h1 : (a ^^^ b) / 2 = (a / 2) ^^^ (b / 2) := by
    have := Nat.shiftRight_xor_distrib (a := a) (b := b) (i := 1)
    simpa [Nat.shiftRight_eq_div_pow] using this
  have h2 : (a ^^^ b) % 2 = (a % 2 + b % 2) % 2 := by
    clear h1
    have h := @Nat.xor_mod_two_eq_one a b
    have hz := Nat.mod_two_eq_zero_or_one (a ^^^ b)
    generalize (a ^^^ b) % 2 = z at *
    rcases Nat.mod_two_eq_zero_or_one a with ha | ha <;> rcases Nat.mod_two_eq_zero_or_one b with hb | hb <;> rw [ha, hb] at h ⊢ <;> rcases hz with rfl | rfl <;> simp at h ⊢
  rw [← h1, ← h2]; omega

theorem bitsN_xor : ∀ k a b, bitsN (fun x y => (x + y) % 2) k a b = (a ^^^ b) % 2 ^ k
  | 0, a, b => by simp [bitsN, Nat.mod_one]
  | k + 1, a, b => by
    rw [bitsN, bitsN_xor k, xor_half a b, Nat.pow_succ, Nat.mul_comm (2 ^ k) 2, Nat.mod_mul]
    have h : (a % 2 + b % 2) % 2 < 2 := Nat.mod_lt _ (by decide)
    generalize (a % 2 + b % 2) % 2 = x at *
    generalize (a / 2) ^^^ (b / 2) = y at *
    have e1 : (x + 2 * y) % 2 = x := by omega
    have e2 : (x + 2 * y) / 2 = y := by omega
    rw [e1, e2]

theorem xor2_eq {a b : Nat} (ha : a < 4294967296) (hb : b < 4294967296) : xor2 a b = a ^^^ b := by
  unfold xor2
  rw [bitsN_xor]
  exact Nat.mod_eq_of_lt (Nat.xor_lt_two_pow (n := 32) ha hb)

theorem xorL_two {a b : Nat} (ha : a < 4294967296) (hb : b < 4294967296) : xorL [a, b] = a ^^^ b := by
  simp only [xorL, List.foldl_cons, List.foldl_nil]
  rw [xor2_eq (by decide) ha, Nat.zero_xor, xor2_eq ha hb]

def refOf (s : List UInt8) (c : Nat) : Nat := s.foldl (fun c b => rep crcStep 8 (c ^^^ b.toNat)) c

theorem refOne_lt {c : Nat} (h : c < 4294967296) (b : UInt8) : rep crcStep 8 (c ^^^ b.toNat) < 4294967296 :=
  rep_lt (fun c h => crcStep_lt h) 8 _ (Nat.xor_lt_two_pow (n := 32) h (by have := b.toNat_lt; omega))

theorem CheckOf_ok (s : List UInt8) (hs : s.length ≤ 9223372036854775807) : Calc cx 15 [.str s] (.int .i64 ((4294967295 - refOf s 4294967295 : Nat) : Int)) :=
  pure_intro (fun a w => Try.call15 a w) Try.func15 rfl Try.ntmps15 rfl .int fun B => by
    refine ab 1000 rfl trivial ?_
    refine S_while (α := Nat × Nat) (fun (i, c) => [(0, .str s), (3, .int .i64 c), (4, .int .i64 i)]) (fun _ => []) (fun (i, c) => i ≤ s.length ∧ c < 4294967296 ∧ refOf (s.drop i) c = refOf s 4294967295) (fun (i, _) => s.length - i) (0, 4294967295)
      ⟨by simp, by decide, by simp⟩ (.cons rfl (.cons rfl (.cons rfl (.nil _)))) rfl ?_
    rintro ⟨i, c⟩ ⟨hi, hc, hN⟩
    refine ab 1000 rfl trivial ?_
    refine S_dec rfl (fun h => ?_) (fun h => ?_)
    · have hil : i < s.length := by omega
      have hgd : s.getD i 0 = s[i] := by simp [List.getD, hil]
      have hb8 := s[i].toNat_lt
      rw [List.drop_eq_getElem_cons hil] at hN
      refine ab 1000 rfl ⟨h, by omega, trivial⟩ ?_
      have hwb : IntKind.i64.wrap (((s.getD i 0).toNat : Nat) : Int) = (s[i].toNat : Int) := by rw [hgd]; exact w64 rfl (by omega)
      refine S_pure rfl rfl rfl (xor_ok (st := true) (fl := true) [c, s[i].toNat] (by intro x hx; simp at hx; rcases hx with rfl | rfl <;> omega) (by simp)) (.cons ?_ (.nil _)) ?_
      · show Frz false [] (.sl true true 1 [.int .i64 c, .int .i64 (IntKind.i64.wrap (((s.getD i 0).toNat : Nat) : Int))]) _
        rw [hwb]
        exact .refl (.sl (fun h => by cases h) (by intro x hx; simp at hx; rcases hx with rfl | rfl <;> exact .int))
      rw [xorL_two hc (by omega)]
      have hcx : c ^^^ s[i].toNat < 4294967296 := Nat.xor_lt_two_pow (n := 32) hc (by omega)
      refine ab 1000 rfl trivial ?_
      refine S_while (α := Nat × Nat) (fun (j, c) => [(0, .str s), (3, .int .i64 c), (4, .int .i64 i), (5, .int .i64 j)]) (fun _ => [])
        (fun (j, c') => j ≤ 8 ∧ c' < 4294967296 ∧ rep crcStep (8 - j) c' = rep crcStep 8 (c ^^^ s[i].toNat)) (fun (j, _) => 8 - j) (0, c ^^^ s[i].toNat) ⟨by decide, hcx, rfl⟩ (.cons rfl (.cons rfl (.cons rfl (.cons rfl (.nil _))))) rfl ?_
      rintro ⟨j, c'⟩ ⟨hj, hc', hr⟩
      refine ab 1000 rfl trivial ?_
      refine S_dec rfl (fun h => ?_) (fun h => ?_)
      · refine ab 1000 rfl ⟨by decide, by decide, trivial⟩ ?_
        have hst : rep crcStep (8 - (j + 1)) (crcStep c') = rep crcStep 8 (c ^^^ s[i].toNat) := by rw [← hr, show 8 - j = (8 - (j + 1)) + 1 by omega]; rfl
        have hq : IntKind.i64.wrap ((c' / 2 : Nat) : Int) = ((c' / 2 : Nat) : Int) := w64 rfl (by omega)
        refine S_beq rfl (fun hb => ?_) (fun hb => ?_)
        · have hodd : crcStep c' = (c' / 2) ^^^ 3988292384 := if_pos (by have : ((c' % 2 : Nat) : Int) = 1 := hb; omega)
          refine ab 1000 rfl trivial ?_
          refine S_pure rfl rfl rfl (xor_ok (st := true) (fl := true) [c' / 2, 3988292384] (by intro x hx; simp at hx; rcases hx with rfl | rfl <;> omega) (by simp)) (.cons ?_ (.nil _)) ?_
          · show Frz false [] (.sl true true 1 [.int .i64 (IntKind.i64.wrap ((c' / 2 : Nat) : Int)), .int .i64 3988292384]) _
            rw [hq]
            exact .refl (.sl (fun h => by cases h) (by intro x hx; simp at hx; rcases hx with rfl | rfl <;> exact .int))
          rw [xorL_two (by omega) (by decide), ← hodd]
          refine ab 1000 rfl trivial ?_
          exact S_round (j + 1, crcStep c') (by show 8 - (j + 1) < 8 - j; omega) ⟨by omega, crcStep_lt hc', hst⟩ (.cons rfl (.cons rfl (.cons rfl (.cons (ai64 rfl (by omega)) (.nil _))))) rfl
        · have heven : crcStep c' = c' / 2 := if_neg (fun h => hb (by show ((c' % 2 : Nat) : Int) = 1; omega))
          refine ab 1000 rfl trivial ?_
          refine S_round (j + 1, crcStep c') (by show 8 - (j + 1) < 8 - j; omega) ⟨by omega, crcStep_lt hc', hst⟩ (.cons rfl (.cons ?_ (.cons rfl (.cons (ai64 rfl (by omega)) (.nil _))))) rfl
          show AV.int .i64 (IntKind.i64.wrap ((c' / 2 : Nat) : Int)) = _
          rw [hq, heven]
      · have hj8 : j = 8 := by omega
        subst hj8
        have hr' : c' = rep crcStep 8 (c ^^^ s[i].toNat) := hr
        refine ab 1000 rfl trivial ?_
        refine S_round (i + 1, c') (by show s.length - (i + 1) < s.length - i; omega) ⟨hil, hc', ?_⟩ (.cons rfl (.cons rfl (.cons (ai64 rfl (by omega)) (.nil _)))) rfl
        rw [← hN, hr']; simp only [refOf, List.foldl_cons]
    · have hil : i = s.length := by omega
      refine ab 1000 rfl trivial ?_
      refine S_retc .int rfl trivial ?_
      have e : refOf s 4294967295 = c := by rw [← hN, hil, List.drop_length]; rfl
      show AV.int .i64 (IntKind.i64.wrap (4294967295 - (c : Int))) = _
      rw [w64 (k := 4294967295 - c) (by omega) (by omega), e]

end Go.Proofs.Ytjbgcbolakdhaaa
