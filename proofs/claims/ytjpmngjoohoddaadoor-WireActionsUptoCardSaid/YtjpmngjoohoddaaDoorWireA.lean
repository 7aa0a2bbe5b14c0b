/-
  Numbers as letters: what wire.Number does.
-/
import Derived.Test.YtjpmngjoohoddaaDoorBldA
set_option linter.unusedVariables false
set_option linter.unusedSimpArgs false
set_option maxRecDepth 20000
namespace Go.Proofs.YtjpmngjoohoddaaDoor
open Go Go.Ab

theorem holdsPacker : HoldsB 52 3 := ⟨lble rfl, lble rfl, fun k => by kernel_rfl⟩

/-- A number as letters: seven bits a letter, the least first; all but the last bear 128. -/
def packN : Nat → Nat → List UInt8
  | 0, n => [UInt8.ofNat n]
  | k + 1, n => if n < 128 then [UInt8.ofNat n] else UInt8.ofNat (n % 128 + 128) :: packN k (n / 128)

theorem packN_ne (k n : Nat) : packN k n ≠ [] := by cases k <;> simp [packN]; split <;> simp
theorem packN_len : ∀ k n, (packN k n).length ≤ k + 1
  | 0, n => by simp [packN]
  | k + 1, n => by
    have := packN_len k (n / 128)
    unfold packN; split <;> simp; omega

theorem packN_more : ∀ k n, n < 128 ^ (k + 1) → packN (k + 1) n = packN k n
  | 0, n, h => by simp at h; simp [packN, h]
  | k + 1, n, h => by
    have e : ∀ k, packN (k + 1) n = if n < 128 then [UInt8.ofNat n] else UInt8.ofNat (n % 128 + 128) :: packN k (n / 128) := fun _ => rfl
    rw [e (k + 1), e k, packN_more k (n / 128) (by rw [Nat.div_lt_iff_lt_mul (by decide)]; rw [Nat.pow_succ] at h; omega)]

theorem packN_step {n : Nat} (h : 128 ≤ n) (hn : n < 9223372036854775808) : packN 9 n = UInt8.ofNat (n % 128 + 128) :: packN 9 (n / 128) := by
  rw [packN, if_neg (by omega), packN_more 8 (n / 128) (by simp; omega)]

theorem isNumber_ok (n : Int) : Calc cx 29 [.int .i64 n] (.bool (decide (0 ≤ n) && decide (n ≤ 9007199254740991))) :=
  pure_intro (fun a w => Tryd.call29 a w) Tryd.func29 rfl Tryd.ntmps29 rfl .bool fun B => by
    refine ab 1000 rfl trivial ?_
    refine S_guard rfl rfl rfl rfl (fun h => ?_) (fun h => ?_)
    · refine ab 1000 rfl trivial ?_
      refine S_ret ⟨_, _, rfl, trivial, _, rfl, ?_⟩
      rw [show decide (0 ≤ n) = true from h]
      exact .refl .bool
    · refine ab 1000 rfl trivial ?_
      refine S_ret ⟨_, _, rfl, trivial, _, rfl, ?_⟩
      rw [show decide (0 ≤ n) = false from h]
      exact .refl .bool

/-- The packer: its builder holds these bytes; no error. -/
def pk (v u : Nat) (a : AV) (bs : List UInt8) : Heap := [(v, some (bBox 52 a (.ms 1 u 0 bs.length 1 false) [.int .i64 0])), (u, some (byBox bs))]

theorem number_ok (v u : Nat) (a : AV) (ha : a = .nilp ∨ a = .ptr 0 v 0) (bs : List UInt8) (m : Nat) (hm : m ≤ 9223372036854775807) (hl : bs.length + 10 ≤ 140737488355328) :
    CallOk cx 33 [.ptr 0 v 0, .int .i64 m] (pk v u a bs) (fun o σ' => o = .ret (.tup []) ∧ ∃ u', σ' = pk v u' (.ptr 0 v 0) (bs ++ packN 9 m)) :=
  callOk_intro (fun a w => Tryd.call33 a w) Tryd.func33 rfl Tryd.ntmps33 rfl fun B => by
    refine ab 1000 rfl trivial ?_
    refine S_while (α := Nat × AV × List UInt8 × Nat × Nat) (fun (u, a, bs, m, j) => [(0, .ptr 0 v 0), (1, .int .i64 m)]) (fun (u, a, bs, m, j) => pk v u a bs)
      (fun (u, a, cs, m', j) => ((a = .nilp ∨ a = .ptr 0 v 0) ∧ j ≤ 9 ∧ m' < 128 ^ (j + 1) ∧ cs.length + j = bs.length + 9 ∧ cs ++ packN j m' = bs ++ packN 9 m) ∧ m' ≤ 9223372036854775807) (fun (u, a, bs, m, j) => j) (u, a, bs, m, 9)
      ⟨⟨ha, by decide, by omega, rfl, rfl⟩, hm⟩ (.cons rfl (.cons rfl (.nil _))) rfl ?_
    rintro ⟨u, a, cs, m', j⟩ ⟨⟨ha, hj, hm', hlen, hN⟩, hmb⟩
    refine ab 1000 rfl trivial ?_
    refine S_dec rfl (fun h => ?_) (fun h => ?_)
    · have hm : m' > 127 := by omega
      have hj0 : ∃ i, j = i + 1 := by
        cases j with
        | zero => simp at hm'; omega
        | succ i => exact ⟨i, rfl⟩
      obtain ⟨i, rfl⟩ := hj0
      have h63 : m' < 9223372036854775808 := Nat.lt_succ_of_le hmb
      refine ab 1000 rfl trivial ?_
      refine S_calle rfl rfl rfl (args := [.ptr 0 v 0, byteAV (UInt8.ofNat (m' % 128 + 128))]) ?_ (writeByte_ok holdsPacker v u a ha cs (UInt8.ofNat (m' % 128 + 128)) (by omega)) ?_ (fun v σ' h => by cases h.1)
      · have h1 : bitsA .or .i64 (bitsA .and .i64 (m' : Int) 127) 128 = ((m' % 128 + 128 : Nat) : Int) := by
          rw [show (127 : Int) = ((127 : Nat) : Int) from rfl, and_i64 h63 (by decide), show (128 : Int) = ((128 : Nat) : Int) from rfl, Nat.and_two_pow_sub_one_eq_mod m' 7, or_i64 (by omega) (by decide)]
          have h2 : m' % 2 ^ 7 ||| 128 = m' % 128 + 128 := by
            have := Nat.two_pow_add_eq_or_of_lt (i := 7) (b := m' % 128) (by omega) 1
            rw [Nat.or_comm]
            show 2 ^ 7 * 1 ||| m' % 128 = _
            rw [← this]; omega
          rw [h2]
        show [AV.ptr 0 v 0, AV.int .u8 (IntKind.u8.wrap (bitsA .or .i64 (bitsA .and .i64 (m' : Int) 127) 128))] = _
        rw [h1, wu8 rfl (by omega)]
        rw [byteAV_of rfl (by omega)]
      rintro _ _ ⟨⟨⟩, rfl⟩
      refine ab 1000 rfl ⟨by decide, trivial⟩ ?_
      refine S_round (u + 1, .ptr 0 v 0, cs ++ [UInt8.ofNat (m' % 128 + 128)], m' / 128, i) (by show i < i + 1; omega) ⟨⟨.inr rfl, by omega, ?_, by simp; omega, ?_⟩, by show m' / 128 ≤ _; omega⟩ (.cons rfl (.cons ?_ (.nil _))) rfl
      · rw [Nat.div_lt_iff_lt_mul (by decide)]; rw [Nat.pow_succ] at hm'; omega
      · rw [← hN, packN, if_neg (by omega)]; simp
      · show AV.int .i64 ((m' : Int).fdiv (2 ^ 7)) = _
        rw [shr_nat]
    · have hm : m' ≤ 127 := by omega
      refine ab 1000 rfl trivial ?_
      refine S_calle rfl rfl rfl (args := [.ptr 0 v 0, byteAV (UInt8.ofNat m')]) ?_ (writeByte_ok holdsPacker v u a ha cs (UInt8.ofNat m') (by omega)) ?_ (fun v σ' h => by cases h.1)
      · show [AV.ptr 0 v 0, AV.int .u8 (IntKind.u8.wrap (m' : Int))] = _
        rw [wu8 rfl (by omega), byteAV_of rfl (by omega)]
      rintro _ _ ⟨⟨⟩, rfl⟩
      refine ab 1000 rfl trivial ?_
      refine S_nil ⟨_, _, rfl, trivial, rfl, u + 1, ?_⟩
      have hp : packN j m' = [UInt8.ofNat m'] := by cases j <;> simp [packN]; omega
      rw [← hN, hp]
      rfl

set_option maxRecDepth 4000 in
theorem done_ok (v u : Nat) (a : AV) (bs : List UInt8) (h0 : bs ≠ []) (hl : bs.length ≤ 140737488355328) :
    CallOk cx 30 [.ptr 0 v 0] (pk v u a bs) (fun o σ' => o = .ret (.tup [.str bs, .int .i64 0]) ∧ σ' = [(v, some (bBox 52 a (.ms 1 u 0 bs.length 1 false) [.int .i64 0])), (u, none)]) :=
  callOk_intro (fun a w => Tryd.call30 a w) Tryd.func30 rfl Tryd.ntmps30 rfl fun B => by
    refine ab 1000 rfl ⟨rfl, trivial⟩ ?_
    refine S_cond rfl (fun h => absurd h (by decide)) (fun _ => ?_)
    refine ab 1000 rfl trivial ?_
    refine S_call rfl rfl rfl (string_ok v u a bs h0 hl) ?_ (fun v σ' h => by cases h.1)
    rintro _ _ ⟨⟨⟩, rfl⟩
    refine ab 1000 rfl trivial ?_
    exact S_ret ⟨_, _, rfl, trivial, rfl, rfl⟩

theorem Number_ok (m : Nat) (hm : m ≤ 9007199254740991) : Calc cx 16 [.int .i64 m] (.tup [.str (packN 9 m), .int .i64 0]) :=
  pure_intro (fun a w => Tryd.call16 a w) Tryd.func16 rfl Tryd.ntmps16 rfl (.tup (by intro x hx; simp at hx; rcases hx with rfl | rfl; exact .str; exact .int)) fun B => by
    refine ab 1000 rfl trivial ?_
    refine S_pure rfl rfl rfl (isNumber_ok m) (.cons (.refl .int) (.nil _)) ?_
    refine ab 1000 rfl trivial ?_
    refine S_cond rfl (fun h => ?_) (fun _ => ?_)
    · simp at h; omega
    refine ab 1000 rfl trivial ?_
    refine S_ghost 1 ⟨false, some 5⟩ (id := 0) (j := 1) rfl rfl rfl (show (0 : Nat) ≠ 1 by decide) ⟨.skip, _, .inr ⟨_, _, _, rfl⟩⟩ ?_
    refine S_call rfl rfl rfl (number_ok 0 0 .nilp (.inl rfl) [] m (by omega) (by decide)) ?_ (fun v σ' h => by cases h.1)
    rintro _ _ ⟨⟨⟩, u', rfl⟩
    refine ab 1000 rfl trivial ?_
    refine S_call rfl rfl rfl (done_ok 0 u' _ (packN 9 m) ?_ ?_) ?_ (fun v σ' h => by cases h.1)
    · exact packN_ne 9 m
    · have := packN_len 9 m; omega
    rintro _ _ ⟨⟨⟩, rfl⟩
    refine ab 1000 rfl trivial ?_
    exact S_ret ⟨_, _, rfl, trivial, _, rfl, .refl (.tup (by intro x hx; simp at hx; rcases hx with rfl | rfl; exact .str; exact .int))⟩

end Go.Proofs.YtjpmngjoohoddaaDoor
