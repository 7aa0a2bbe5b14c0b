/-
  The laws TokenSplits and its like: what must be in any case.
-/
import Derived.Test.YtkgmbnjdeokdkaaDoorTokR
set_option linter.unusedVariables false
set_option linter.unusedSimpArgs false
set_option maxRecDepth 20000
namespace Go.Proofs.YtkgmbnjdeokdkaaDoor
open Go Go.Ab

theorem toks_get {l : List Tok} {i : Nat} (h : i < l.length) : (l.map tokA)[((i : Nat) : Int).toNat]? = some (tokA l[i]) := by rw [Int.toNat_natCast]; simp [h]

/-- The splitter's answer is of a source's size. -/
theorem splitS_len (s : List UInt8) : (splitS s).1.length ≤ 100000 := by
  have key : ∀ (f : Nat) (i : Nat) (ins : List Nat) (out l : List Tok), s.length ≤ 6000 → i ≤ s.length → Insok ins → ins.length ≤ 31 → out.length + ins.length ≤ 4 * i + 1 → allF f s i ins out = .inr l → l.length ≤ 4 * s.length + 40 := by
    intro f
    induction f with
    | zero => intro i ins out l hs hi h2 h3 h4 h; cases h
    | succ f ih =>
      intro i ins out l hs hi h2 h3 h4 h
      rw [allF] at h
      have hg := gapC_le (s := s) (i := i) hi
      split at h
      · rw [furS_zero h2] at h
        cases h
        simp; omega
      · rename_i hge
        split at h
        · exact ih (gapC s i + 1) ins out l hs (by omega) h2 h3 (by omega) h
        · split at h
          · cases h
          · rename_i ins' l' hx
            obtain ⟨k1, k2, k3, k4⟩ := furS_ok h2 h3 hx
            split at h
            · cases h
            · rename_i k out2 hy
              have hb := lineF_le _ hg.2 hy
              have hb4 := hb.2.2.2 (by omega)
              have hb5 := hb.2.2.1
              simp only [List.length_append] at hb5
              exact ih k ins' out2 l hs hb.2.1 k1 k2 (by omega) h
  unfold splitS
  split
  · simp
  · split
    · simp
    · rename_i h1 l h
      have := key _ _ _ _ _ (by omega) (Nat.zero_le _) ⟨List.pairwise_singleton _ _, rfl⟩ (by decide) (by decide) h
      show l.length ≤ 100000; omega

theorem sameTokens_ok {st fl st' fl' : Bool} (l : List Tok) (hl : l.length ≤ 1000000) : Calc cx 10 [.sl st fl 4 (l.map tokA), .sl st' fl' 4 (l.map tokA)] (.bool true) :=
  pure_intro (fun a w => Tryd.call10 a w) Tryd.func10 rfl Tryd.ntmps10 rfl .bool fun B => by
    have hln : (l.map tokA).length = l.length := by simp
    refine pa [.b false] rfl ?_ ?_
    · (repeat' with_reducible apply AllP_cons) <;> first | exact trivial | assumption | omega | rfl | exact decide_eq_true (by omega) | exact decide_eq_false (by omega) | (rw [IntWalk.i64_in _ ⟨by omega, by omega⟩]; omega) | exact allOne_mem rfl | exact Nat.le_of_ble_eq_true rfl | (simp only [List.length_cons, List.length_nil]; omega) | skip
      all_goals simp
    refine S_while (α := Nat) (fun i => [(0, .sl st fl 4 (l.map tokA)), (1, .sl st' fl' 4 (l.map tokA)), (5, .int .i64 i)]) (fun _ => []) (fun i => i ≤ l.length) (fun i => l.length - i) 0
      (Nat.zero_le _) (.cons rfl (.cons rfl (.cons rfl (.nil _)))) rfl ?_
    rintro i hi
    have hi : i ≤ l.length := hi
    by_cases hlt : i < l.length
    · have hg := toks_get hlt
      refine pa [.b true, .v (tokA l[i]), .v (tokA l[i]), .b false] rfl ?_ ?_
      · (repeat' with_reducible apply AllP_cons) <;> first | exact trivial | assumption | omega | rfl | exact decide_eq_true (by omega) | exact decide_eq_false (by omega) | (rw [IntWalk.i64_in _ ⟨by omega, by omega⟩]; omega) | exact allOne_mem rfl | exact Nat.le_of_ble_eq_true rfl | (simp only [List.length_cons, List.length_nil]; omega) | skip
        · kernel_rfl
        · simp
      exact S_round (i + 1) (by show l.length - (i + 1) < l.length - i; omega) hlt (.cons rfl (.cons rfl (.cons (ai64 rfl (by omega)) (.nil _)))) rfl
    · refine pa [.b false] rfl ?_ ?_
      · (repeat' with_reducible apply AllP_cons) <;> first | exact trivial | assumption | omega | rfl | exact decide_eq_true (by omega) | exact decide_eq_false (by omega) | (rw [IntWalk.i64_in _ ⟨by omega, by omega⟩]; omega) | exact allOne_mem rfl | exact Nat.le_of_ble_eq_true rfl | (simp only [List.length_cons, List.length_nil]; omega) | skip
      exact S_retc .bool rfl trivial rfl

theorem splitS_a : splitS [97, 32, 61, 32, 49] = ([⟨1, [97], 0, 0⟩, ⟨4, [61], 0, 2⟩, ⟨2, [49], 1, 4⟩, ⟨6, [], 0, 5⟩], (0, 0)) := by decide +kernel

theorem tokenBegun_ok : Calc cx 9 [] (.bool true) :=
  pure_intro (fun a w => Tryd.call9 a w) Tryd.func9 rfl Tryd.ntmps9 rfl .bool fun B => by
    have h := Split_ok [97, 32, 61, 32, 49]
    rw [splitS_a] at h
    refine pa [.v (splitAV ([⟨1, [97], 0, 0⟩, ⟨4, [61], 0, 2⟩, ⟨2, [49], 1, 4⟩, ⟨6, [], 0, 5⟩], (0, 0))), .b true, .b true, .v (tokA ⟨2, [49], 1, 4⟩)] rfl ?_ ?_
    · (repeat' with_reducible apply AllP_cons) <;> first | exact trivial | assumption | omega | rfl | exact decide_eq_true (by omega) | exact decide_eq_false (by omega) | (rw [IntWalk.i64_in _ ⟨by omega, by omega⟩]; omega) | exact allOne_mem rfl | exact Nat.le_of_ble_eq_true rfl | (simp only [List.length_cons, List.length_nil]; omega) | skip
      exact ⟨_, h, .cons (.refl .str) (.nil _)⟩
    exact S_retc .bool rfl trivial rfl

theorem TokenSplits_ok (s : List UInt8) (hs : s.length ≤ 1048576) : Calc cx 3 [.str s] (.bool true) :=
  pure_intro (fun a w => Tryd.call3 a w) Tryd.func3 rfl Tryd.ntmps3 rfl .bool fun B => by
    have hl := splitS_len s
    have h1 := Split_ok s
    have h2 := SourceTokens_ok s
    generalize splitS s = q at h1 h2 hl
    obtain ⟨l, e⟩ := q
    refine pa [.v (splitAV (l, e)), .v (splitAV (l, e)), .v (.bool true), .b true, .b true, .v (.bool true)] rfl ?_ ?_
    · (repeat' with_reducible apply AllP_cons) <;> first | exact trivial | assumption | omega | rfl | exact decide_eq_true (by omega) | exact decide_eq_false (by omega) | (rw [IntWalk.i64_in _ ⟨by omega, by omega⟩]; omega) | exact allOne_mem rfl | exact Nat.le_of_ble_eq_true rfl | (simp only [List.length_cons, List.length_nil]; omega) | skip
      · exact ⟨_, h1, .cons (.refl .str) (.nil _)⟩
      · exact ⟨_, h2, .cons (.refl .str) (.nil _)⟩
      · exact ⟨_, tokenBegun_ok, .nil _⟩
      · kernel_rfl
      · simp
      · exact ⟨_, sameTokens_ok (st := true) (fl := false) (st' := true) (fl' := false) l (by have : l.length ≤ 100000 := hl; omega), .cons (.refl (.sl (fun h => by cases h) (toks_free l))) (.cons (.refl (.sl (fun h => by cases h) (toks_free l))) (.nil _))⟩
    exact S_retc .bool rfl trivial rfl

end Go.Proofs.YtkgmbnjdeokdkaaDoor
