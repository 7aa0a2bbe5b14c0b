/-
  The greatest power of 2 below a number: math/bits.Len64, the program's half, the reference's Half.
-/
import Derived.Test.YtjpmngjoohoddabDoorRefT
set_option linter.unusedVariables false
set_option linter.unusedSimpArgs false
set_option maxRecDepth 20000
namespace Go.Proofs.YtjpmngjoohoddabDoor
open Go Go.Ab

def halfN (n : Nat) : Nat := 2 ^ Nat.log2 (n - 1)

theorem halfN_spec {n : Nat} (h : 2 ≤ n) : 1 ≤ halfN n ∧ halfN n < n ∧ n ≤ 2 * halfN n := by
  unfold halfN
  have h1 := Nat.log2_self_le (n := n - 1) (by omega)
  have h2 := Nat.lt_log2_self (n := n - 1)
  have h3 := Nat.two_pow_pos (Nat.log2 (n - 1))
  rw [Nat.pow_succ] at h2
  omega

/-- It is the only one. -/
theorem halfN_of {n k : Nat} (h1 : 2 ^ k < n) (h2 : n ≤ 2 * 2 ^ k) : halfN n = 2 ^ k := by
  unfold halfN
  have h0 := Nat.two_pow_pos k
  have : Nat.log2 (n - 1) = k := by
    rw [Nat.log2_eq_iff (by omega)]
    rw [Nat.pow_succ]; omega
  rw [this]

def len8 (x : Nat) : Nat := if x = 0 then 0 else Nat.log2 x + 1

def T8 : List UInt8 := [0, 1, 2, 2, 3, 3, 3, 3, 4, 4, 4, 4, 4, 4, 4, 4] ++ List.replicate 16 5 ++ List.replicate 32 6 ++ List.replicate 64 7 ++ List.replicate 128 8

theorem T8_len8 : ∀ x, x < 256 → (T8.getD x 0).toNat = len8 x := by decide +kernel

theorem len64_ok (x : Nat) (hx : x < 65536) : Calc cx 89 [.int .u64 x] (.int .i64 (len8 x : Nat)) :=
  pure_intro (fun a w => Tryd.call89 a w) Tryd.func89 rfl Tryd.ntmps89 rfl .int fun B => by
    refine ab 1000 rfl trivial ?_
    refine S_dec rfl (fun h => ?_) (fun _ => ?_)
    · exfalso
      have h : (4294967296 : Int) ≤ ((x : Nat) : Int) := h
      omega
    refine ab 1000 rfl trivial ?_
    refine S_dec rfl (fun h => ?_) (fun _ => ?_)
    · exfalso
      have h : (65536 : Int) ≤ ((x : Nat) : Int) := h
      omega
    refine ab 1000 rfl trivial ?_
    refine S_dec rfl (fun h => ?_) (fun h => ?_)
    · have h : 256 ≤ x := by have : (256 : Int) ≤ ((x : Nat) : Int) := h; omega
      have hs : IntKind.u8.wrap (((x : Nat) : Int).fdiv (2 ^ (min (8 : Int).toNat IntKind.u64.bits))) = ((x / 256 : Nat) : Int) := by
        rw [show min (8 : Int).toNat IntKind.u64.bits = 8 from rfl, shr_nat x 8]
        exact wu8 rfl (by omega)
      refine ab 1000 rfl ⟨by rw [hs]; show ((x / 256 : Nat) : Int) < 256; omega, by rw [hs]; omega, by decide, trivial⟩ ?_
      refine S_retc .int rfl trivial ?_
      show AV.int .i64 (IntKind.i64.wrap (IntKind.i64.wrap (0 + 8) + IntKind.i64.wrap (((T8.getD (IntKind.u8.wrap (((x : Nat) : Int).fdiv (2 ^ (min (8 : Int).toNat IntKind.u64.bits)))).toNat 0).toNat : Nat) : Int))) = _
      rw [hs, Int.toNat_natCast, T8_len8 _ (by omega)]
      have hl : len8 x = 8 + len8 (x / 256) := by
        unfold len8
        rw [if_neg (by omega), if_neg (by omega)]
        have h2 : Nat.log2 x = Nat.log2 (x / 256) + 8 := by
          rw [Nat.log2_eq_iff (by omega)]
          have a1 := Nat.log2_self_le (n := x / 256) (by omega)
          have a2 := Nat.lt_log2_self (n := x / 256)
          rw [Nat.pow_succ] at a2
          rw [Nat.pow_add, Nat.pow_add, Nat.pow_add]
          omega
        omega
      have hb : len8 (x / 256) ≤ 16 := by
        have : Nat.log2 (x / 256) < 9 := by
          by_cases h0 : x / 256 = 0
          · rw [h0]; decide
          · exact (Nat.log2_lt h0).2 (by omega)
        unfold len8; split <;> omega
      rw [w64 (x := ((len8 (x / 256) : Nat) : Int)) rfl (by omega)]
      exact ai64 (by rw [hl]; rfl) (by omega)
    · have h : x < 256 := by have : ¬ (256 : Int) ≤ ((x : Nat) : Int) := h; omega
      have hs : IntKind.u8.wrap ((x : Nat) : Int) = ((x : Nat) : Int) := wu8 rfl (by omega)
      refine ab 1000 rfl ⟨by rw [hs]; show ((x : Nat) : Int) < 256; omega, by rw [hs]; omega, trivial⟩ ?_
      refine S_retc .int rfl trivial ?_
      show AV.int .i64 (IntKind.i64.wrap (0 + IntKind.i64.wrap (((T8.getD (IntKind.u8.wrap ((x : Nat) : Int)).toNat 0).toNat : Nat) : Int))) = _
      rw [hs, Int.toNat_natCast, T8_len8 _ h]
      have hb : len8 x ≤ 16 := by
        have : Nat.log2 x < 9 := by
          by_cases h0 : x = 0
          · rw [h0]; decide
          · exact (Nat.log2_lt h0).2 (by omega)
        unfold len8; split <;> omega
      rw [w64 (x := ((len8 x : Nat) : Int)) rfl (by omega)]
      exact ai64 (by omega) (by omega)

theorem len_ok (x : Nat) (hx : x < 65536) : Calc cx 84 [.int .u64 x] (.int .i64 (len8 x : Nat)) :=
  pure_intro (fun a w => Tryd.call84 a w) Tryd.func84 rfl Tryd.ntmps84 rfl .int fun B => by
    refine ab 1000 rfl trivial ?_
    refine S_cond (b := false) rfl (fun h => by cases h) (fun _ => ?_)
    refine ab 1000 rfl trivial ?_
    refine S_pure rfl rfl rfl (len64_ok x hx) (.cons (.refl .int) (.nil _)) ?_
    refine ab 1000 rfl trivial ?_
    exact S_retc .int rfl trivial rfl

theorem half_ok (n : Nat) (h2 : 2 ≤ n) (hn : n ≤ 65536) : Calc cx 75 [.int .i64 n] (.int .i64 (halfN n : Nat)) :=
  pure_intro (fun a w => Tryd.call75 a w) Tryd.func75 rfl Tryd.ntmps75 rfl .int fun B => by
    have hw1 : IntKind.i64.wrap (((n : Nat) : Int) - 1) = ((n - 1 : Nat) : Int) := w64 (by omega) (by omega)
    have hw2 : IntKind.u64.wrap (IntKind.i64.wrap (((n : Nat) : Int) - 1)) = ((n - 1 : Nat) : Int) := by rw [hw1]; exact wu64 rfl (by omega)
    have hlg : Nat.log2 (n - 1) < 16 := (Nat.log2_lt (by omega)).2 (by omega)
    have hl8 : len8 (n - 1) = Nat.log2 (n - 1) + 1 := by rw [len8, if_neg (by omega)]
    have hw3 : IntKind.i64.wrap (((len8 (n - 1) : Nat) : Int) - 1) = ((Nat.log2 (n - 1) : Nat) : Int) := w64 (by rw [hl8]; omega) (by omega)
    have hp : 2 ^ Nat.log2 (n - 1) ≤ 2 ^ 16 := Nat.pow_le_pow_right (by decide) (by omega)
    refine ab 1000 rfl trivial ?_
    refine S_pure rfl rfl rfl (len_ok (n - 1) (by omega)) (.cons (by show Frz false _ (.int .u64 (IntKind.u64.wrap (IntKind.i64.wrap (((n : Nat) : Int) - 1)))) _; rw [hw2]; exact .refl .int) (.nil _)) ?_
    refine ab 1000 rfl ⟨by rw [hw3]; omega, trivial⟩ ?_
    refine S_retc .int rfl trivial ?_
    show AV.int .i64 (IntKind.i64.wrap (1 * 2 ^ (min (IntKind.i64.wrap (((len8 (n - 1) : Nat) : Int) - 1)).toNat 64))) = _
    rw [hw3, Int.toNat_natCast, Nat.min_eq_left (by omega)]
    exact ai64 (by rw [halfN]; simp) (by rw [halfN]; omega)

theorem Half_ok (n : Nat) (h2 : 2 ≤ n) (hn : n ≤ 65536) : Calc cx 22 [.int .i64 n] (.int .i64 (halfN n : Nat)) :=
  pure_intro (fun a w => Tryd.call22 a w) Tryd.func22 rfl Tryd.ntmps22 rfl .int fun B => by
    refine ab 1000 rfl trivial ?_
    refine S_while (α := Nat) (fun k => [(0, .int .i64 (n : Nat)), (3, .int .i64 (2 ^ k : Nat))]) (fun _ => []) (fun k => 2 ^ k < n) (fun k => n - 2 ^ k) 0
      (by show 2 ^ 0 < n; omega) (.cons rfl (.cons rfl (.nil _))) rfl ?_
    intro k hk
    have hk : 2 ^ k < n := hk
    have h0 := Nat.two_pow_pos k
    have hw : IntKind.i64.wrap (2 * ((2 ^ k : Nat) : Int)) = ((2 ^ (k + 1) : Nat) : Int) := w64 (by rw [Nat.pow_succ]; omega) (by rw [Nat.pow_succ]; omega)
    have hps : 2 ^ (k + 1) = 2 * 2 ^ k := by rw [Nat.pow_succ]; omega
    refine ab 1000 rfl trivial ?_
    refine S_dec rfl (fun h => ?_) (fun h => ?_)
    · have h : 2 ^ (k + 1) < n := by
        have h' : IntKind.i64.wrap (2 * ((2 ^ k : Nat) : Int)) < ((n : Nat) : Int) := h
        rw [hw] at h'; omega
      refine ab 1000 rfl trivial ?_
      exact S_round (k + 1) (by show n - 2 ^ (k + 1) < n - 2 ^ k; omega) h (.cons rfl (.cons (congrArg (AV.int .i64) hw) (.nil _))) rfl
    · have h : n ≤ 2 * 2 ^ k := by
        have h' : ¬ IntKind.i64.wrap (2 * ((2 ^ k : Nat) : Int)) < ((n : Nat) : Int) := h
        rw [hw] at h'; omega
      refine ab 1000 rfl trivial ?_
      refine S_retc .int rfl trivial ?_
      rw [halfN_of hk h]; rfl

end Go.Proofs.YtjpmngjoohoddabDoor
