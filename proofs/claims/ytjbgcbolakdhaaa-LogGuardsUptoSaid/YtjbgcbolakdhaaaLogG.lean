/-
  Both sums of a text are one; what the laws of the log begin with.
-/
import Derived.Test.YtjbgcbolakdhaaaLogF
set_option linter.unusedVariables false
set_option linter.unusedSimpArgs false
set_option maxRecDepth 20000
namespace Go.Proofs.Ytjbgcbolakdhaaa
open Go Go.Ab

theorem xor_parts (x y : Nat) : (x ^^^ y) % 2 = (x % 2 + y % 2) % 2 ∧ (x ^^^ y) / 2 = (x / 2) ^^^ (y / 2) := by
  have h := xor_half x y
  have h2 : (x % 2 + y % 2) % 2 < 2 := Nat.mod_lt _ (by decide)
  constructor <;> omega

theorem crcStep_xor (x y : Nat) : crcStep (x ^^^ y) = crcStep x ^^^ crcStep y := by
  obtain ⟨h1, h2⟩ := xor_parts x y
  unfold crcStep
  rw [h1, h2]
  rcases Nat.mod_two_eq_zero_or_one x with hx | hx <;> rcases Nat.mod_two_eq_zero_or_one y with hy | hy <;> simp [hx, hy]
  · rw [Nat.xor_assoc]
  · rw [Nat.xor_assoc, Nat.xor_comm (y / 2), ← Nat.xor_assoc]
  · rw [Nat.xor_assoc, ← Nat.xor_assoc 3988292384, Nat.xor_comm 3988292384, Nat.xor_assoc, Nat.xor_self, Nat.xor_zero]

theorem rep_xor : ∀ k x y, rep crcStep k (x ^^^ y) = rep crcStep k x ^^^ rep crcStep k y
  | 0, x, y => rfl
  | k + 1, x, y => by simp only [rep]; rw [crcStep_xor, rep_xor k]

theorem rep_pow : ∀ k y, rep crcStep k (2 ^ k * y) = y
  | 0, y => by simp [rep]
  | k + 1, y => by
    simp only [rep]
    have : crcStep (2 ^ (k + 1) * y) = 2 ^ k * y := by
      unfold crcStep
      rw [Nat.pow_succ, Nat.mul_assoc, Nat.mul_comm 2 y, ← Nat.mul_assoc, Nat.mul_comm _ 2]
      rw [if_neg (by omega)]; omega
    rw [this, rep_pow k]

theorem xor_low : ∀ k y r, r < 2 ^ k → (2 ^ k * y) ^^^ r = 2 ^ k * y + r
  | 0, y, r, h => by simp at h; subst h; simp
  | k + 1, y, r, h => by
    rw [Nat.pow_succ] at h ⊢
    rw [xor_half, Nat.mul_comm (2 ^ k) 2, Nat.mul_assoc]
    have e1 : (2 * (2 ^ k * y)) % 2 = 0 := by omega
    have e2 : (2 * (2 ^ k * y)) / 2 = 2 ^ k * y := by omega
    rw [e1, e2, xor_low k y (r / 2) (by omega)]
    omega

theorem crc_step (c : Nat) (b : UInt8) : crcTab ((c % 256) ^^^ b.toNat) ^^^ (c / 256) = rep crcStep 8 (c ^^^ b.toNat) := by
  have h1 : c = (2 ^ 8 * (c / 256)) ^^^ (c % 256) := by rw [xor_low 8 _ _ (by omega)]; omega
  have h2 : c ^^^ b.toNat = ((c % 256) ^^^ b.toNat) ^^^ (2 ^ 8 * (c / 256)) := by
    rw [Nat.xor_comm ((c % 256) ^^^ b.toNat), ← Nat.xor_assoc, ← h1]
  rw [h2, rep_xor, rep_pow]; rfl

theorem crcOf_ref : ∀ (s : List UInt8) (c : Nat), crcOf s c = refOf s c
  | [], c => rfl
  | b :: s, c => by
    simp only [crcOf, refOf, List.foldl_cons]
    rw [crc_step c b]
    exact crcOf_ref s _

theorem Check_ok (s : List UInt8) (hs : s.length ≤ 9223372036854775807) : Calc cx 14 [.str s] (.int .i64 (sumOf s : Nat)) :=
  pure_intro (fun a w => Try.call14 a w) Try.func14 rfl Try.ntmps14 rfl .int fun B => by
    refine ab 1000 rfl trivial ?_
    refine S_pure rfl rfl rfl (check_ok s hs) (.cons (.refl .str) (.nil _)) ?_
    refine ab 1000 rfl trivial ?_
    refine S_retc .int rfl trivial ?_
    have := sumOf_lt s
    show AV.int .i64 (IntKind.i64.wrap ((sumOf s : Nat) : Int)) = _
    rw [w64 rfl (by omega)]

theorem readAll_x : readAll (entryOf [120]).length (entryOf [120]) = ([[120]], []) := by kernel_rfl
theorem sum_nine : sumOf [49, 50, 51, 52, 53, 54, 55, 56, 57] = 3421780262 := by kernel_rfl
theorem entry_x : (entryOf [120]).length = 7 := by kernel_rfl

theorem logBegun_ok : Calc cx 13 [] (.bool true) :=
  pure_intro (fun a w => Try.call13 a w) Try.func13 rfl Try.ntmps13 rfl .bool fun B => by
    refine ab 1000 rfl trivial ?_
    refine S_pure rfl rfl rfl (Append_ok [] [120] (by decide) (by decide)) (.cons (.refl .str) (.cons (.refl .str) (.nil _))) ?_
    rw [List.nil_append]
    have hR := Read_ok (entryOf [120]) (by rw [entry_x]; decide)
    rw [readAll_x, entry_x] at hR
    have hx := entry_x
    generalize entryOf [120] = en at *
    refine ab 1000 rfl trivial ?_
    refine S_pure rfl rfl rfl hR (.cons (.refl .str) (.nil _)) ?_
    refine ab 1000 rfl trivial ?_
    refine S_guard rfl rfl rfl rfl (fun _ => ?_) (fun h => absurd h (by decide))
    refine ab 1000 rfl trivial ?_
    refine S_pure rfl rfl rfl (SameTexts_ok (st := true) (st' := true) (fl := false) (fl' := true) [[120]] [[120]] (by decide) (by decide)) (.cons (.refl (.sl (fun h => by cases h) (fun x hx => by simp [texts] at hx; subst hx; exact .str))) (.cons (.refl (.sl (fun h => by cases h) (fun x hx => by simp [texts] at hx; subst hx; exact .str))) (.nil _))) ?_
    refine ab 1000 rfl trivial ?_
    refine S_guard rfl rfl rfl rfl (fun _ => ?_) (fun h => absurd h (by decide))
    refine ab 1000 rfl trivial ?_
    refine S_guard rfl rfl rfl rfl (fun _ => ?_) (fun h => absurd h ?_)
    · refine ab 1000 rfl trivial ?_
      have hC := Check_ok [49, 50, 51, 52, 53, 54, 55, 56, 57] (by decide)
      rw [sum_nine] at hC
      refine S_pure rfl rfl rfl hC (.cons (.refl .str) (.nil _)) ?_
      refine ab 1000 rfl trivial ?_
      exact S_retc .bool rfl trivial rfl
    · show ¬ (((7 : Int) == (en.length : Int)) = false)
      rw [hx]; decide

theorem LogChecks_ok (s : List UInt8) (hs : s.length ≤ 9223372036854775807) : Calc cx 3 [.str s] (.bool true) :=
  pure_intro (fun a w => Try.call3 a w) Try.func3 rfl Try.ntmps3 rfl .bool fun B => by
    refine ab 1000 rfl trivial ?_
    refine S_pure rfl rfl rfl logBegun_ok (.nil _) ?_
    refine ab 1000 rfl trivial ?_
    refine S_guard rfl rfl rfl rfl (fun _ => ?_) (fun h => absurd h (by decide))
    refine ab 1000 rfl trivial ?_
    refine S_pure rfl rfl rfl (Check_ok s hs) (.cons (.refl .str) (.nil _)) ?_
    refine ab 1000 rfl trivial ?_
    refine S_pure rfl rfl rfl (CheckOf_ok s (by omega)) (.cons (.refl .str) (.nil _)) ?_
    refine ab 1000 rfl trivial ?_
    refine S_retc .bool rfl trivial ?_
    rw [← crcOf_ref]
    show AV.bool (((sumOf s : Nat) : Int) == ((4294967295 - crcOf s 4294967295 : Nat) : Int)) = _
    simp [sumOf]

end Go.Proofs.Ytjbgcbolakdhaaa
