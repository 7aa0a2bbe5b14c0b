/-
  Loops with a state, tests, and the arithmetic of whole numbers.
-/
import Derived.Test.YtjpmngjoohoddaaAbQ
import Derived.IntWalk
set_option linter.unusedVariables false
set_option linter.unusedSimpArgs false
namespace Go.Ab
open Go

theorem w64 {x : Int} {k : Nat} (h : x = k) (hk : k ≤ 9223372036854775807) : IntKind.i64.wrap x = k := by rw [h, IntWalk.i64_in _ ⟨by omega, by omega⟩]
theorem wu32 {x : Int} {k : Nat} (h : x = k) (hk : k ≤ 4294967295) : IntKind.u32.wrap x = k := by rw [h, IntWalk.u32_in _ ⟨by omega, by omega⟩]
theorem wu8 {x : Int} {k : Nat} (h : x = k) (hk : k ≤ 255) : IntKind.u8.wrap x = k := by rw [h, IntWalk.u8_in _ ⟨by omega, by omega⟩]
theorem wu64 {x : Int} {k : Nat} (h : x = k) (hk : k ≤ 18446744073709551615) : IntKind.u64.wrap x = k := by rw [h, IntWalk.u64_in _ ⟨by omega, by omega⟩]
theorem ai64 {x : Int} {k : Nat} (h : x = k) (hk : k ≤ 9223372036854775807) : AV.int .i64 (IntKind.i64.wrap x) = .int .i64 k := by rw [h, IntWalk.i64_in _ ⟨by omega, by omega⟩]
theorem ai64i {x y : Int} (h : x = y) (hk : -9223372036854775808 ≤ x ∧ x ≤ 9223372036854775807) : AV.int .i64 (IntKind.i64.wrap x) = .int .i64 y := by rw [IntWalk.i64_in _ hk, h]
theorem au64 {x : Int} {k : Nat} (h : x = k) (hk : k ≤ 18446744073709551615) : AV.int .u64 (IntKind.u64.wrap x) = .int .u64 k := by rw [h, IntWalk.u64_in _ ⟨by omega, by omega⟩]
theorem au32 {x : Int} {k : Nat} (h : x = k) (hk : k ≤ 4294967295) : AV.int .u32 (IntKind.u32.wrap x) = .int .u32 k := by rw [h, IntWalk.u32_in _ ⟨by omega, by omega⟩]
theorem au8 {x : Int} {k : Nat} (h : x = k) (hk : k ≤ 255) : AV.int .u8 (IntKind.u8.wrap x) = .int .u8 k := by rw [h, IntWalk.u8_in _ ⟨by omega, by omega⟩]

/-- What the end of a round owes. -/
def Round {α : Type} (F : α → Fr) (H : α → Heap) (I : α → Prop) (m : α → Nat) (s : α) : Fr → Heap → Prop := fun fr' σ' => ∃ s', m s' < m s ∧ I s' ∧ Weak fr' (F s') ∧ σ' = H s'

section
variable {cx : Cx} {n : Nat} {B : Bs} {k : List AI} {Q : Post} {fr fr' : Fr} {σ : Heap}

theorem S_weak {c : Code} {fr' : Fr} (hw : Weak fr fr') (h : S cx n B (.code c :: k) Q fr' σ) : S cx n B (.code c :: k) Q fr σ := S_code_weak hw h

/-- A loop over a state: its frame, its heap, what holds of it, and its measure. -/
theorem S_while {α : Type} {c : Code} (F : α → Fr) (H : α → Heap) (I : α → Prop) (m : α → Nat) (s : α) (hi : I s) (hw : Weak fr (F s)) (hσ : σ = H s)
    (hb : ∀ s, I s → S cx n B (.code c :: .inv (Round F H I m s) :: k) Q (F s) (H s)) : S cx n B (.code (.loop c) :: k) Q fr σ := by
  subst hσ
  refine S_code_weak hw (S_loop (fun j fr σ => ∃ s, m s = j ∧ I s ∧ fr = F s ∧ σ = H s) (m s) ⟨s, rfl, hi, rfl, rfl⟩ ?_)
  rintro j fr σ ⟨s, rfl, hi, rfl, rfl⟩
  intro r a w h1 h2 h3 h4
  refine wp_mono (hb s hi r a w h1 h2 h3 h4) fun e a' w' => ?_
  rintro ⟨ae, fr', σ', r', hq, he, h5⟩
  refine ⟨ae, fr', σ', r', ?_, he, h5⟩
  cases ae with
  | normal =>
    obtain ⟨s', k1, k2, k3, k4⟩ := hq
    exact ⟨_, _, k1, ⟨s', rfl, k2, rfl, k4⟩, k3⟩
  | _ => exact hq

/-- The end of a round. -/
theorem S_round {α : Type} {F : α → Fr} {H : α → Heap} {I : α → Prop} {m : α → Nat} {s : α} (s' : α) (hm : m s' < m s) (hi : I s') (hw : Weak fr (F s')) (hσ : σ = H s') :
    S cx n B (.inv (Round F H I m s) :: k) Q fr σ := S_inv ⟨s', hm, hi, hw, hσ⟩

theorem S_dec {c : Operand} {x y : Code} {p : Prop} [Decidable p] (hc : ev cx fr c = .bool (decide p)) (ht : p → S cx n B (.code x :: k) Q fr σ) (hf : ¬ p → S cx n B (.code y :: k) Q fr σ) :
    S cx n B (.code (.cond c x y) :: k) Q fr σ := S_cond hc (fun h => ht (of_decide_eq_true h)) (fun h => hf (of_decide_eq_false h))

theorem S_beq {c : Operand} {x y : Code} {a b : Int} (hc : ev cx fr c = .bool (a == b)) (ht : a = b → S cx n B (.code x :: k) Q fr σ) (hf : a ≠ b → S cx n B (.code y :: k) Q fr σ) :
    S cx n B (.code (.cond c x y) :: k) Q fr σ := S_cond hc (fun h => ht (by simpa using h)) (fun h => hf (by simpa using h))

theorem S_bne {c : Operand} {x y : Code} {a b : Int} (hc : ev cx fr c = .bool (a != b)) (ht : a ≠ b → S cx n B (.code x :: k) Q fr σ) (hf : a = b → S cx n B (.code y :: k) Q fr σ) :
    S cx n B (.code (.cond c x y) :: k) Q fr σ := S_cond hc (fun h => ht (by simpa using h)) (fun h => hf (by simpa using h))

end
end Go.Ab
