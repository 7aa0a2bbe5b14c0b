/-
  The reference's sum: its small functions.
-/
import Derived.Test.YtjpmngjoohoddabDoorRefX
import Derived.Test.YtjpmngjoohoddabDoorRefP
import Derived.Test.YtjpmngjoohoddabDoorDigC
set_option linter.unusedVariables false
set_option linter.unusedSimpArgs false
set_option maxRecDepth 20000
namespace Go.Proofs.YtjpmngjoohoddabDoor
open Go Go.Ab

theorem and_half (a b : Nat) : a &&& b = (a % 2) * (b % 2) + 2 * ((a / 2) &&& (b / 2)) := by
  have h1 : (a &&& b) / 2 = (a / 2) &&& (b / 2) := by
    have := Nat.shiftRight_and_distrib (a := a) (b := b) (i := 1)
    simpa [Nat.shiftRight_eq_div_pow] using this
  have h2 : (a &&& b) % 2 = (a % 2) * (b % 2) := by
    have h := @Nat.and_mod_two_eq_one a b
    have hz := Nat.mod_two_eq_zero_or_one (a &&& b)
    clear h1
    generalize (a &&& b) % 2 = z at *
    rcases Nat.mod_two_eq_zero_or_one a with ha | ha <;> rcases Nat.mod_two_eq_zero_or_one b with hb | hb <;> rw [ha, hb] at h ⊢ <;> rcases hz with rfl | rfl <;> simp at h ⊢
  rw [← h1, ← h2]; omega

theorem bitsN_and : ∀ k a b, bitsN (fun x y => x * y) k a b = (a &&& b) % 2 ^ k
  | 0, a, b => by simp [bitsN, Nat.mod_one]
  | k + 1, a, b => by
    rw [bitsN, bitsN_and k, and_half a b, Nat.pow_succ, Nat.mul_comm (2 ^ k) 2, Nat.mod_mul]
    have h : (a % 2) * (b % 2) < 2 := by
      rcases Nat.mod_two_eq_zero_or_one a with ha | ha <;> rcases Nat.mod_two_eq_zero_or_one b with hb | hb <;> rw [ha, hb] <;> decide
    generalize (a % 2) * (b % 2) = x at *
    generalize (a / 2) &&& (b / 2) = y at *
    have e1 : (x + 2 * y) % 2 = x := by omega
    have e2 : (x + 2 * y) / 2 = y := by omega
    rw [e1, e2]

theorem and1_nat (x y : Nat) (hx : x < 2) (hy : y < 2) : x * y < 2 ∧ Calc cx 82 [.int .i64 x, .int .i64 y] (.int .i64 (x * y : Nat)) := by
  have h2 : x * y < 2 := by
    have : x = 0 ∨ x = 1 := by omega
    rcases this with rfl | rfl <;> simp <;> omega
  refine ⟨h2, pure_intro (fun a w => Tryd.call82 a w) Tryd.func82 rfl Tryd.ntmps82 rfl .int fun B => ?_⟩
  refine ab 1000 rfl trivial ?_
  refine S_retc .int rfl trivial ?_
  exact ai64 (by simp) (by omega)

theorem And_ok (a b : Nat) (ha : a < M32) (hb : b < M32) : Calc cx 70 [.int .i64 a, .int .i64 b] (.int .i64 (a &&& b : Nat)) :=
  pure_intro (fun a w => Tryd.call70 a w) Tryd.func70 rfl Tryd.ntmps70 rfl .int fun B => by
    have hc := bits_ok (fun x y => x * y) 82 and1_nat a b ha hb
    rw [bitsN_and, Nat.mod_eq_of_lt (show a &&& b < 2 ^ 32 from Nat.lt_of_le_of_lt Nat.and_le_left ha)] at hc
    refine ab 1000 rfl trivial ?_
    refine S_pure rfl rfl rfl hc (.cons (.refl .int) (.cons (.refl .int) (.cons (.refl (.func (by simp) (by simp))) (.nil _)))) ?_
    refine ab 1000 rfl trivial ?_
    exact S_retc .int rfl trivial rfl

theorem Wrap_ok (n : Nat) (hn : n ≤ 4611686018427387904) : Calc cx 69 [.int .i64 n] (.int .i64 (n % M32 : Nat)) :=
  pure_intro (fun a w => Tryd.call69 a w) Tryd.func69 rfl Tryd.ntmps69 rfl .int fun B => by
    have e : ((n : Nat) : Int).tmod 4294967296 = ((n % M32 : Nat) : Int) := rfl
    refine ab 1000 rfl ⟨by decide, trivial⟩ ?_
    refine S_dec rfl (fun h => ?_) (fun h => ?_)
    · exfalso
      have h : ((n : Nat) : Int).tmod 4294967296 < 0 := h
      rw [e] at h; omega
    · refine ab 1000 rfl trivial ?_
      exact S_retc .int rfl trivial rfl

theorem rotr_sum {x n : Nat} (h1 : n ≤ 32) : x / 2 ^ n + x % 2 ^ n * 2 ^ (32 - n) = rotr x n ∨ M32 ≤ x := by
  rcases Nat.lt_or_ge x M32 with hx | hx
  · left
    have e : M32 = 2 ^ n * 2 ^ (32 - n) := by rw [← Nat.pow_add, show n + (32 - n) = 32 by omega]; rfl
    have e2 : x * 2 ^ (32 - n) % M32 = x % 2 ^ n * 2 ^ (32 - n) := by rw [e, Nat.mul_mod_mul_right]
    have h3 : x / 2 ^ n < 2 ^ (32 - n) := by
      rw [Nat.div_lt_iff_lt_mul (Nat.two_pow_pos n), Nat.mul_comm, ← e]; exact hx
    rw [rotr, e2, Nat.mul_comm (x % 2 ^ n), ← Nat.two_pow_add_eq_or_of_lt h3, Nat.add_comm]
  · exact .inr hx

theorem Right_ok (x n : Nat) (hx : x < M32) (h1 : 1 ≤ n) (h2 : n ≤ 31) : Calc cx 68 [.int .i64 x, .int .i64 n] (.int .i64 (rotr x n : Nat)) :=
  pure_intro (fun a w => Tryd.call68 a w) Tryd.func68 rfl Tryd.ntmps68 rfl .int fun B => by
    have hs := (rotr_sum (x := x) (n := n) (by omega)).resolve_right (by omega)
    have hlt := rotr_lt n hx
    have hw : IntKind.i64.wrap (32 - (n : Int)) = ((32 - n : Nat) : Int) := w64 (by omega) (by omega)
    have p1 : 0 < 2 ^ n := Nat.two_pow_pos n
    have p2 : 0 < 2 ^ (32 - n) := Nat.two_pow_pos _
    have hx' : x < 4294967296 := hx
    have q1 : x / 2 ^ n ≤ x := Nat.div_le_self _ _
    have hlt' : rotr x n < 4294967296 := hlt
    have d1 : IntKind.i64.wrap (((x : Nat) : Int).tdiv ((2 ^ n : Nat) : Int)) = ((x / 2 ^ n : Nat) : Int) := w64 rfl (by omega)
    have d2 : ((x : Nat) : Int).tmod ((2 ^ n : Nat) : Int) = ((x % 2 ^ n : Nat) : Int) := rfl
    have d0 : x % 2 ^ n * 2 ^ (32 - n) < 4294967296 := Nat.lt_of_le_of_lt (Nat.le_add_left _ _) (hs ▸ hlt')
    have d3 : IntKind.i64.wrap (((x % 2 ^ n : Nat) : Int) * ((2 ^ (32 - n) : Nat) : Int)) = ((x % 2 ^ n * 2 ^ (32 - n) : Nat) : Int) := w64 (by simp) (by generalize x % 2 ^ n * 2 ^ (32 - n) = z at *; omega)
    refine ab 1000 rfl trivial ?_
    refine S_draw 13 [] [.int .i64 ((2 ^ n : Nat) : Int), .int .i64 ((2 ^ n : Nat) : Int), .int .i64 ((2 ^ (32 - n) : Nat) : Int)] rfl rfl rfl rfl ⟨rfl, rfl, ⟨_, Pow2_ok n (by omega), .cons (.refl .int) (.nil _)⟩, rfl, by omega, rfl, rfl, ⟨_, Pow2_ok n (by omega), .cons (.refl .int) (.nil _)⟩, rfl, by omega, rfl, rfl, ⟨_, Pow2_ok (32 - n) (by omega), .cons (by rw [← hw]; exact .refl .int) (.nil _)⟩, rfl, rfl, trivial⟩ ?_
    refine ab 1000 rfl trivial ?_
    refine S_retc .int rfl trivial ?_
    show AV.int .i64 (IntKind.i64.wrap (IntKind.i64.wrap (((x : Nat) : Int).tdiv ((2 ^ n : Nat) : Int)) + IntKind.i64.wrap (((x : Nat) : Int).tmod ((2 ^ n : Nat) : Int) * ((2 ^ (32 - n) : Nat) : Int)))) = _
    rw [d2, d1, d3]
    exact ai64 (by rw [← hs]; simp) (by omega)

theorem Constants_ok : Calc cx 65 [] (.sl true true 1 (ints kTab)) :=
  pure_intro (fun a w => Tryd.call65 a w) Tryd.func65 rfl Tryd.ntmps65 rfl (.sl (fun _ => rfl) (by intro x hx; obtain ⟨y, _, rfl⟩ := List.mem_map.1 hx; exact .int)) fun B => by
    refine ab 1000 rfl trivial ?_
    exact S_retc (.sl (fun _ => rfl) (by intro x hx; obtain ⟨y, _, rfl⟩ := List.mem_map.1 hx; exact .int)) rfl trivial rfl

def iB (v : Nat) (l : List Nat) : Nat × Option Box := (v, some (.cells (ints l) ⟨false, none⟩))

theorem Firsts_ok : CallOk cx 66 [] [] (fun o σ' => o = .ret (.ms 0 0 0 8 1 true) ∧ σ' = [iB 0 hTab]) :=
  callOk_intro (fun a w => Tryd.call66 a w) Tryd.func66 rfl Tryd.ntmps66 rfl fun B => by
    refine go (M := [1]) 1000 rfl trivial ?_
    exact S_ret ⟨_, _, rfl, trivial, rfl, rfl⟩

end Go.Proofs.YtjpmngjoohoddabDoor
