/-
  The library's Contains and Index over whole numbers and over texts; the words of sources.
-/
import Derived.Test.YtkgmbnjdeokdkaaDoorTokD
import Derived.Test.YtkgmbnjdeokdkaaDoorRefH
import Derived.Test.YtkgmbnjdeokdkaaDoorAbThree
set_option linter.unusedVariables false
set_option linter.unusedSimpArgs false
set_option maxRecDepth 20000
namespace Go.Proofs.YtkgmbnjdeokdkaaDoor
open Go Go.Ab

def ints (l : List Nat) : List AV := l.map fun n => .int .i64 (n : Nat)
theorem ints_len (l : List Nat) : (ints l).length = l.length := by simp [ints]
theorem ints_get {l : List Nat} {i : Nat} (h : i < l.length) : (ints l)[i]? = some (.int .i64 (l[i] : Nat)) := by simp [ints, h]
theorem ints_one (l : List Nat) : ∀ x ∈ ints l, x.one = true := by
  intro x hx; obtain ⟨y, _, rfl⟩ := List.mem_map.1 hx; rfl
theorem ints_free {st : Bool} (l : List Nat) : ∀ x ∈ ints l, Free st x := by
  intro x hx; obtain ⟨y, _, rfl⟩ := List.mem_map.1 hx; exact .int

/-- Where something is first, or -1. -/
def firstOf {α : Type} [DecidableEq α] (l : List α) (x : α) : Int := match l.idxOf? x with | some i => i | none => -1

theorem firstOf_no {α : Type} [DecidableEq α] {l : List α} {x : α} (h : x ∉ l) : firstOf l x = -1 := by
  unfold firstOf
  rw [List.idxOf?_eq_none_iff.2 h]

theorem firstOf_at {α : Type} [DecidableEq α] {l : List α} {x : α} {i : Nat} (hi : i < l.length) (h : l[i] = x) (hn : x ∉ l.take i) : firstOf l x = i := by
  unfold firstOf
  have : l.idxOf? x = some i := by
    rw [List.idxOf?, List.findIdx?_eq_some_iff_getElem]
    refine ⟨hi, by simp [h], fun j hj => ?_⟩
    intro hb
    refine hn ?_
    have : l[j] = x := by simpa using hb
    rw [← this]
    exact List.mem_take_iff_getElem.2 ⟨j, by omega, rfl⟩
  rw [this]

theorem firstOf_ge {α : Type} [DecidableEq α] {l : List α} {x : α} : (0 ≤ firstOf l x) ↔ x ∈ l := by
  unfold firstOf
  constructor
  · intro h
    by_cases hm : x ∈ l
    · exact hm
    · rw [List.idxOf?_eq_none_iff.2 hm] at h; simp at h
  · intro h
    cases hh : l.idxOf? x with
    | none => exact absurd h (List.idxOf?_eq_none_iff.1 hh)
    | some i => simp

theorem IndexI_ok {st fl : Bool} (l : List Nat) (s : Nat) (hl : l.length ≤ 1000000) : Calc cx 34 [.sl st fl 1 (ints l), .int .i64 s] (.int .i64 (firstOf l s)) :=
  pure_intro (fun a w => Tryd.call34 a w) Tryd.func34 rfl Tryd.ntmps34 rfl .int fun B => by
    have htl := ints_len l
    refine ab 1000 rfl trivial ?_
    refine S_while (α := Nat) (fun i => [(0, .sl st fl 1 (ints l)), (1, .int .i64 s), (7, .int .i64 (l.length : Nat)), (8, .int .i64 (i : Nat))]) (fun _ => []) (fun i => i ≤ l.length ∧ s ∉ l.take i) (fun i => l.length - i) 0
      ⟨Nat.zero_le _, by simp⟩ (.cons rfl (.cons rfl (.cons (by show AV.int .i64 ((ints l).length : Nat) = _; rw [htl]) (.cons rfl (.nil _))))) rfl ?_
    rintro i ⟨hi, hN⟩
    have hi : i ≤ l.length := hi
    by_cases hlt : i < l.length
    · have e1 : (ints l)[((i : Nat) : Int).toNat]? = some (.int .i64 (l[i] : Nat)) := ints_get hlt
      by_cases he : s = l[i]
      · refine pa [.b true, .v (.int .i64 (l[i] : Nat)), .b true] rfl ?_ ?_
        · (repeat' with_reducible apply AllP_cons) <;> first | exact trivial | assumption | omega | rfl | exact decide_eq_true (by omega) | exact decide_eq_false (by omega) | (rw [IntWalk.i64_in _ ⟨by omega, by omega⟩]; omega) | exact allOne_mem rfl | exact Nat.le_of_ble_eq_true rfl | (simp only [List.length_cons, List.length_nil]; omega) | skip
        refine S_retc .int rfl trivial ?_
        rw [firstOf_at hlt he.symm hN]; rfl
      · refine pa [.b true, .v (.int .i64 (l[i] : Nat)), .b false] rfl ?_ ?_
        · (repeat' with_reducible apply AllP_cons) <;> first | exact trivial | assumption | omega | rfl | exact decide_eq_true (by omega) | exact decide_eq_false (by omega) | (rw [IntWalk.i64_in _ ⟨by omega, by omega⟩]; omega) | exact allOne_mem rfl | exact Nat.le_of_ble_eq_true rfl | (simp only [List.length_cons, List.length_nil]; omega) | skip
        refine S_round (i + 1) (by show l.length - (i + 1) < l.length - i; omega) ⟨hlt, fun hm => ?_⟩ (.cons rfl (.cons rfl (.cons rfl (.cons (ai64 rfl (by omega)) (.nil _))))) rfl
        rw [List.take_succ_eq_append_getElem hlt] at hm
        rcases List.mem_append.1 hm with hm | hm
        · exact hN hm
        · simp at hm; exact he hm
    · obtain rfl : i = l.length := by omega
      rw [List.take_length] at hN
      refine pa [.b false] rfl ?_ ?_
      · (repeat' with_reducible apply AllP_cons) <;> first | exact trivial | assumption | omega | rfl | exact decide_eq_true (by omega) | exact decide_eq_false (by omega) | (rw [IntWalk.i64_in _ ⟨by omega, by omega⟩]; omega) | exact allOne_mem rfl | exact Nat.le_of_ble_eq_true rfl | (simp only [List.length_cons, List.length_nil]; omega) | skip
      refine S_retc .int rfl trivial ?_
      rw [firstOf_no hN]; rfl

theorem ContainsI_ok {st fl : Bool} (l : List Nat) (s : Nat) (hl : l.length ≤ 1000000) : Calc cx 27 [.sl st fl 1 (ints l), .int .i64 s] (.bool (decide (s ∈ l))) :=
  pure_intro (fun a w => Tryd.call27 a w) Tryd.func27 rfl Tryd.ntmps27 rfl .bool fun B => by
    refine pa [.v (.int .i64 (firstOf l s))] rfl ?_ ?_
    · (repeat' with_reducible apply AllP_cons) <;> first | exact trivial | assumption | omega | rfl | exact decide_eq_true (by omega) | exact decide_eq_false (by omega) | (rw [IntWalk.i64_in _ ⟨by omega, by omega⟩]; omega) | exact allOne_mem rfl | exact Nat.le_of_ble_eq_true rfl | (simp only [List.length_cons, List.length_nil]; omega) | skip
      exact ⟨_, IndexI_ok l s hl, .cons (.refl (.sl (fun h => by cases h) (ints_free l))) (.cons (.refl .int) (.nil _))⟩
    refine S_retc .bool rfl trivial ?_
    exact congrArg AV.bool (decide_eq_decide.2 firstOf_ge)

theorem IndexS_ok {st fl : Bool} (l : List (List UInt8)) (s : List UInt8) (hl : l.length ≤ 1000000) : Calc cx 43 [.sl st fl 1 (texts l), .str s] (.int .i64 (firstOf l s)) :=
  pure_intro (fun a w => Tryd.call43 a w) Tryd.func43 rfl Tryd.ntmps43 rfl .int fun B => by
    have htl := texts_len l
    refine ab 1000 rfl trivial ?_
    refine S_while (α := Nat) (fun i => [(0, .sl st fl 1 (texts l)), (1, .str s), (7, .int .i64 (l.length : Nat)), (8, .int .i64 (i : Nat))]) (fun _ => []) (fun i => i ≤ l.length ∧ s ∉ l.take i) (fun i => l.length - i) 0
      ⟨Nat.zero_le _, by simp⟩ (.cons rfl (.cons rfl (.cons (by show AV.int .i64 ((texts l).length : Nat) = _; rw [htl]) (.cons rfl (.nil _))))) rfl ?_
    rintro i ⟨hi, hN⟩
    have hi : i ≤ l.length := hi
    by_cases hlt : i < l.length
    · have e1 : (texts l)[((i : Nat) : Int).toNat]? = some (.str l[i]) := texts_get hlt
      by_cases he : s = l[i]
      · refine pa [.b true, .v (.str l[i]), .b true] rfl ?_ ?_
        · (repeat' with_reducible apply AllP_cons) <;> first | exact trivial | assumption | omega | rfl | exact decide_eq_true (by omega) | exact decide_eq_false (by omega) | (rw [IntWalk.i64_in _ ⟨by omega, by omega⟩]; omega) | exact allOne_mem rfl | exact Nat.le_of_ble_eq_true rfl | (simp only [List.length_cons, List.length_nil]; omega) | skip
          exact beq_iff_eq.2 he
        refine S_retc .int rfl trivial ?_
        rw [firstOf_at hlt he.symm hN]; rfl
      · refine pa [.b true, .v (.str l[i]), .b false] rfl ?_ ?_
        · (repeat' with_reducible apply AllP_cons) <;> first | exact trivial | assumption | omega | rfl | exact decide_eq_true (by omega) | exact decide_eq_false (by omega) | (rw [IntWalk.i64_in _ ⟨by omega, by omega⟩]; omega) | exact allOne_mem rfl | exact Nat.le_of_ble_eq_true rfl | (simp only [List.length_cons, List.length_nil]; omega) | skip
          exact beq_false_of_ne he
        refine S_round (i + 1) (by show l.length - (i + 1) < l.length - i; omega) ⟨hlt, fun hm => ?_⟩ (.cons rfl (.cons rfl (.cons rfl (.cons (ai64 rfl (by omega)) (.nil _))))) rfl
        rw [List.take_succ_eq_append_getElem hlt] at hm
        rcases List.mem_append.1 hm with hm | hm
        · exact hN hm
        · simp at hm; exact he hm
    · obtain rfl : i = l.length := by omega
      rw [List.take_length] at hN
      refine pa [.b false] rfl ?_ ?_
      · (repeat' with_reducible apply AllP_cons) <;> first | exact trivial | assumption | omega | rfl | exact decide_eq_true (by omega) | exact decide_eq_false (by omega) | (rw [IntWalk.i64_in _ ⟨by omega, by omega⟩]; omega) | exact allOne_mem rfl | exact Nat.le_of_ble_eq_true rfl | (simp only [List.length_cons, List.length_nil]; omega) | skip
      refine S_retc .int rfl trivial ?_
      rw [firstOf_no hN]; rfl

theorem ContainsS_ok {st fl : Bool} (l : List (List UInt8)) (s : List UInt8) (hl : l.length ≤ 1000000) : Calc cx 39 [.sl st fl 1 (texts l), .str s] (.bool (decide (s ∈ l))) :=
  pure_intro (fun a w => Tryd.call39 a w) Tryd.func39 rfl Tryd.ntmps39 rfl .bool fun B => by
    refine pa [.v (.int .i64 (firstOf l s))] rfl ?_ ?_
    · (repeat' with_reducible apply AllP_cons) <;> first | exact trivial | assumption | omega | rfl | exact decide_eq_true (by omega) | exact decide_eq_false (by omega) | (rw [IntWalk.i64_in _ ⟨by omega, by omega⟩]; omega) | exact allOne_mem rfl | exact Nat.le_of_ble_eq_true rfl | (simp only [List.length_cons, List.length_nil]; omega) | skip
      exact ⟨_, IndexS_ok l s hl, .cons (.refl (.sl (fun h => by cases h) (texts_any l))) (.cons (.refl .str) (.nil _))⟩
    refine S_retc .bool rfl trivial ?_
    exact congrArg AV.bool (decide_eq_decide.2 firstOf_ge)

end Go.Proofs.YtkgmbnjdeokdkaaDoor
