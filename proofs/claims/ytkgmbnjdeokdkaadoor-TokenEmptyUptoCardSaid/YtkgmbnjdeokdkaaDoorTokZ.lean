/-
  The law TokenEmpty: the walk.
-/
import Derived.Test.YtkgmbnjdeokdkaaDoorTokY
import Derived.Test.YtkgmbnjdeokdkaaDoorRefZ
set_option linter.unusedVariables false
set_option linter.unusedSimpArgs false
set_option maxRecDepth 20000
namespace Go.Proofs.YtkgmbnjdeokdkaaDoor
open Go Go.Ab

def bareT (t : Tok) : Tok := ⟨t.kind, t.text, t.num, 0⟩

theorem bare_cells (l : List Tok) (i : Nat) (h : i < l.length) : setRange ((l.take i).map bareT ++ l.drop i |>.flatMap tokC) (i * 4 + 3) [AV.int .i64 0] = ((l.take (i + 1)).map bareT ++ l.drop (i + 1)).flatMap tokC := by
  have e1 : ((l.take i).map bareT ++ l.drop i).flatMap tokC = ((l.take i).map bareT).flatMap tokC ++ (tokC l[i] ++ (l.drop (i + 1)).flatMap tokC) := by
    rw [List.flatMap_append, List.drop_eq_getElem_cons h, List.flatMap_cons]
  have e2 : ((l.take (i + 1)).map bareT ++ l.drop (i + 1)).flatMap tokC = ((l.take i).map bareT).flatMap tokC ++ (tokC (bareT l[i]) ++ (l.drop (i + 1)).flatMap tokC) := by
    rw [List.take_succ_eq_append_getElem h, List.map_append, List.append_assoc, List.flatMap_append, List.flatMap_append]; simp
  have hl : (((l.take i).map bareT).flatMap tokC).length = i * 4 := by rw [tokC_len]; simp; omega
  rw [e1, e2]
  show (_ : List AV).set (i * 4 + 3) _ = _
  rw [List.set_append_right _ _ (by omega), hl, Nat.add_sub_cancel_left]
  rfl

theorem bare_ok {st fl : Bool} (l : List Tok) (hl : l.length ≤ 1000000) : Calc cx 12 [.sl st fl 4 (l.map tokA)] (.sl true false 4 ((l.map bareT).map tokA)) :=
  pure_intro (fun a w => Tryd.call12 a w) Tryd.func12 rfl Tryd.ntmps12 rfl (.sl (fun _ => rfl) (toks_free _)) fun B => by
    refine go (M := [5]) 7 rfl trivial ?_
    refine S_unfull (t := 5) rfl ⟨.skip, _, .inr ⟨_, _, _, rfl⟩⟩ ?_
    have hln : (l.map tokA).length = l.length := by simp
    have hone : ∀ y ∈ (l.map tokA).flatMap AV.cells, y.one = true := fun y hy => by
      rw [toks_cells] at hy
      obtain ⟨t, _, ht⟩ := List.mem_flatMap.1 hy
      simp only [tokC, List.mem_cons, List.not_mem_nil, or_false] at ht
      rcases ht with rfl | rfl | rfl | rfl <;> rfl
    refine pa [] rfl ?_ ?_
    · (repeat' with_reducible apply AllP_cons) <;> first | exact trivial | assumption | omega | rfl | exact decide_eq_true (by omega) | exact decide_eq_false (by omega) | (rw [IntWalk.i64_in _ ⟨by omega, by omega⟩]; omega) | exact allOne_mem rfl | exact Nat.le_of_ble_eq_true rfl | (simp only [List.length_cons, List.length_nil]; omega) | skip
      all_goals first | (show 0 + (l.map tokA).length ≤ _; omega) | (show (0 + (l.map tokA).length) * 40 ≤ _; omega) | exact hone
    refine S_heap [(1, some (.cells (l.flatMap tokC) ⟨false, none⟩))] ?_ ?_
    · show [(1, some (Box.cells ([] ++ (l.map tokA).flatMap AV.cells) ⟨false, none⟩))] = _
      rw [toks_cells]; rfl
    refine S_while (α := Nat) (fun i => [(3, .ms 0 1 0 l.length 4 false), (4, .int .i64 i)]) (fun i => [(1, some (.cells (((l.take i).map bareT ++ l.drop i).flatMap tokC) ⟨false, none⟩))]) (fun i => i ≤ l.length) (fun i => l.length - i) 0
      (Nat.zero_le _) (.cons (by show AV.ms 0 1 0 (0 + (l.map tokA).length) 4 false = _; rw [hln, Nat.zero_add]) (.cons rfl (.nil _))) rfl ?_
    rintro i hi
    have hi : i ≤ l.length := hi
    have hcl : (((l.take i).map bareT ++ l.drop i).flatMap tokC).length = l.length * 4 := by rw [tokC_len]; simp; omega
    by_cases hlt : i < l.length
    · refine pa [.b true, .v .top] rfl ?_ ?_
      · (repeat' with_reducible apply AllP_cons) <;> first | exact trivial | assumption | omega | rfl | exact decide_eq_true (by omega) | exact decide_eq_false (by omega) | (rw [IntWalk.i64_in _ ⟨by omega, by omega⟩]; omega) | exact allOne_mem rfl | exact Nat.le_of_ble_eq_true rfl | (simp only [List.length_cons, List.length_nil]; omega) | skip
        rw [hcl]
        show i * 4 + 3 + 1 ≤ l.length * 4; omega
      refine S_round (i + 1) (by show l.length - (i + 1) < l.length - i; omega) hlt (.cons rfl (.cons (ai64 rfl (by omega)) (.nil _))) ?_
      show [(1, some (Box.cells (setRange _ (i * 4 + 3) [AV.int .i64 0]) _))] = _
      rw [bare_cells l i hlt]
    · obtain rfl : i = l.length := by omega
      refine pa [.b false] rfl ?_ ?_
      · (repeat' with_reducible apply AllP_cons) <;> first | exact trivial | assumption | omega | rfl | exact decide_eq_true (by omega) | exact decide_eq_false (by omega) | (rw [IntWalk.i64_in _ ⟨by omega, by omega⟩]; omega) | exact allOne_mem rfl | exact Nat.le_of_ble_eq_true rfl | (simp only [List.length_cons, List.length_nil]; omega) | skip
      refine S_ret ⟨_, _, rfl, trivial, _, rfl, ?_⟩
      show Frz true [(1, some (Box.cells (((l.take l.length).map bareT ++ l.drop l.length).flatMap tokC) _))] _ _
      rw [List.take_length, List.drop_length, List.append_nil]
      refine .ms rfl (by rw [tokC_len]; simp) ?_ ?_ (by simp) (toks_free _)
      · rw [toks_cells, List.drop_zero, List.take_of_length_le (by rw [tokC_len]; simp)]
      · intro x hx; obtain ⟨t, _, rfl⟩ := List.mem_map.1 hx; rfl

theorem ahead_eq (n : Nat) (s : List UInt8) : (List.replicate n 32 ++ [10]) ++ (([32, 32, 35, 32, 110, 111, 116, 104, 105, 110, 103] ++ [10]) ++ s) = ahead n ++ s := by simp [ahead, cmt]

theorem bare_sh (P : Nat) (l : List Tok) : (l.map (shT P)).map bareT = l.map bareT := by rw [List.map_map]; rfl

theorem TokenEmptyA_ok (s : List UInt8) (c : Int) (hs : s.length ≤ 1048576) (hc : -9223372036854775808 ≤ c ∧ c ≤ 9223372036854775807) (h0 : 6000 < chooseN c 9 + 13 + s.length ∨ (splitS s).2.1 = 0) : Calc cx 6 [.str s, .int .i64 c] (.bool true) :=
  pure_intro (fun a w => Tryd.call6 a w) Tryd.func6 rfl Tryd.ntmps6 rfl .bool fun B => by
    have hn9 := chooseN_lt c (n := 9) (by decide)
    have hch : ∀ σ, ∃ args', Calc cx 11 args' (.int .i64 (chooseN c 9 : Nat)) ∧ Frzs σ [.int .i64 c, .int .i64 9] args' := fun σ => ⟨_, choose_ok c 9 hc (by decide) (by decide), .cons (.refl .int) (.cons (.refl .int) (.nil _))⟩
    generalize chooseN c 9 = n at hn9 hch h0
    refine pa [.v (.bool true), .b false] rfl ?_ ?_
    · (repeat' with_reducible apply AllP_cons) <;> first | exact trivial | assumption | omega | rfl | exact decide_eq_true (by omega) | exact decide_eq_false (by omega) | (rw [IntWalk.i64_in _ ⟨by omega, by omega⟩]; omega) | exact allOne_mem rfl | exact Nat.le_of_ble_eq_true rfl | (simp only [List.length_cons, List.length_nil]; omega) | skip
      · exact ⟨_, tokenBegun_ok, .nil _⟩
      · intro x hx; simp at hx; subst hx; exact trivial
    refine S_while (α := Nat) (fun j => [(0, .str s), (1, .int .i64 c), (5, .str [10]), (6, .str (List.replicate j 32 ++ [10])), (7, .int .i64 j)]) (fun _ => []) (fun j => j ≤ n) (fun j => n - j) 0
      (Nat.zero_le _) (.cons rfl (.cons rfl (.cons rfl (.cons rfl (.cons rfl (.nil _)))))) rfl ?_
    rintro j hj
    have hj : j ≤ n := hj
    by_cases hlt : j < n
    · refine pa [.v (.int .i64 (n : Nat)), .b true] rfl ?_ ?_
      · (repeat' with_reducible apply AllP_cons) <;> first | exact trivial | assumption | omega | rfl | exact decide_eq_true (by omega) | exact decide_eq_false (by omega) | (rw [IntWalk.i64_in _ ⟨by omega, by omega⟩]; omega) | exact allOne_mem rfl | exact Nat.le_of_ble_eq_true rfl | (simp only [List.length_cons, List.length_nil]; omega) | skip
        · exact hch _
        · show (((1 + (List.replicate j (32 : UInt8) ++ [10]).length : Nat)) : Int) ≤ _; simp; omega
      exact S_round (j + 1) (by show n - (j + 1) < n - j; omega) hlt (.cons rfl (.cons rfl (.cons rfl (.cons rfl (.cons (ai64 rfl (by omega)) (.nil _)))))) rfl
    · obtain rfl : j = n := by omega
      have h1 := Split_ok s
      have hl := splitS_len s
      have h2 := Split_ok (ahead j ++ s)
      have hl2 := splitS_len (ahead j ++ s)
      have hSp1 : ∀ σ, ∃ args', Calc cx 7 args' (splitAV (splitS s)) ∧ Frzs σ [.str s] args' := fun σ => ⟨_, h1, .cons (.refl .str) (.nil _)⟩
      have hSp2 : ∀ σ, ∃ args', Calc cx 7 args' (splitAV (splitS (ahead j ++ s))) ∧ Frzs σ [.str (ahead j ++ s)] args' := fun σ => ⟨_, h2, .cons (.refl .str) (.nil _)⟩
      have hlen : ((List.replicate j (32 : UInt8) ++ [10]) ++ (([32, 32, 35, 32, 110, 111, 116, 104, 105, 110, 103] ++ [10]) ++ s)).length = j + 13 + s.length := by simp; omega
      have hlen2 : (ahead j ++ s).length = j + 13 + s.length := by rw [← ahead_eq]; exact hlen
      refine pa [.v (.int .i64 (j : Nat)), .b false] rfl ?_ ?_
      · (repeat' with_reducible apply AllP_cons) <;> first | exact trivial | (show (_ : Int) ≤ 9223372036854775807; first | (simp; done) | (simp; omega)) | assumption | omega | rfl | exact decide_eq_true (by omega) | exact decide_eq_false (by omega) | (rw [IntWalk.i64_in _ ⟨by omega, by omega⟩]; omega) | exact allOne_mem rfl | exact Nat.le_of_ble_eq_true rfl | (simp only [List.length_cons, List.length_nil]; omega) | skip
        exact hch _
      refine S_weakO [(0, .str s), (6, .str (ahead j ++ s)), (32, .str s)] (.cons rfl (.cons (by rw [← ahead_eq]; rfl) (.cons rfl (.nil _)))) ?_
      by_cases hbig : 6000 < j + 13 + s.length
      · refine pa [.v (splitAV (splitS s)), .v (splitAV (splitS (ahead j ++ s))), .b true] rfl ?_ ?_
        · (repeat' with_reducible apply AllP_cons) <;> first | exact trivial | (show (_ : Int) ≤ 9223372036854775807; first | (simp; done) | (simp; omega)) | assumption | omega | rfl | exact decide_eq_true (by omega) | exact decide_eq_false (by omega) | (rw [IntWalk.i64_in _ ⟨by omega, by omega⟩]; omega) | exact allOne_mem rfl | exact Nat.le_of_ble_eq_true rfl | (simp only [List.length_cons, List.length_nil]; omega) | skip
          · exact hSp1 _
          · exact hSp2 _
        exact S_retc .bool rfl trivial rfl
      · have hsp := splitS_ahead j s (by omega)
        rw [hsp] at hSp2 hl2
        have hnil := fun h => ((splitS_levels s).1 h).1
        have hat := fun h => ((splitS_levels s).1 h).2
        generalize splitS s = q at hSp1 hSp2 hl hl2 hnil hat h0
        obtain ⟨l, e⟩ := q
        simp only at hSp2 hl hl2 hnil hat h0
        have hdec : decide ((((ahead j ++ s).length : Nat) : Int) > 6000) = false := by rw [hlen2]; exact decide_eq_false (by omega)
        have he : e.1 = 0 := h0.resolve_left hbig
        · rw [if_pos he] at hSp2
          refine pa [.v (splitAV (l, e)), .v (splitAV (l.map (shT (j + 13)), (0, 0))), .b false, .b false, .b true, .v (.sl true false 4 ((l.map bareT).map tokA)), .v (.sl true false 4 ((l.map bareT).map tokA)), .v (.bool true)] rfl ?_ ?_
          · (repeat' with_reducible apply AllP_cons) <;> first | exact trivial | (show (_ : Int) ≤ 9223372036854775807; first | (simp; done) | (simp; omega)) | assumption | omega | rfl | exact decide_eq_true (by omega) | exact decide_eq_false (by omega) | (rw [IntWalk.i64_in _ ⟨by omega, by omega⟩]; omega) | exact allOne_mem rfl | exact Nat.le_of_ble_eq_true rfl | (simp only [List.length_cons, List.length_nil]; omega) | skip
            · exact hSp1 _
            · exact hSp2 _
            · show (((e.1 : Nat) : Int) != 0) = false
              rw [he]; rfl
            · exact ⟨_, bare_ok (st := true) (fl := false) l (by omega), .cons (.refl (.sl (fun h => by cases h) (toks_free l))) (.nil _)⟩
            · have := bare_ok (st := true) (fl := false) (l.map (shT (j + 13))) (by simp; omega)
              rw [bare_sh] at this
              exact ⟨_, this, .cons (.refl (.sl (fun h => by cases h) (toks_free _))) (.nil _)⟩
            · exact ⟨_, sameTokens_ok (st := true) (fl := false) (st' := true) (fl' := false) (l.map bareT) (by simp; omega), .cons (.refl (.sl (fun h => by cases h) (toks_free _))) (.cons (.refl (.sl (fun h => by cases h) (toks_free _))) (.nil _))⟩
          exact S_retc .bool rfl trivial rfl
theorem TokenEmptyB_ok (s : List UInt8) (c : Int) (hs : s.length ≤ 1048576) (hc : -9223372036854775808 ≤ c ∧ c ≤ 9223372036854775807) (h0 : ¬ (6000 < chooseN c 9 + 13 + s.length ∨ (splitS s).2.1 = 0)) : Calc cx 6 [.str s, .int .i64 c] (.bool true) :=
  pure_intro (fun a w => Tryd.call6 a w) Tryd.func6 rfl Tryd.ntmps6 rfl .bool fun B => by
    have hn9 := chooseN_lt c (n := 9) (by decide)
    have hch : ∀ σ, ∃ args', Calc cx 11 args' (.int .i64 (chooseN c 9 : Nat)) ∧ Frzs σ [.int .i64 c, .int .i64 9] args' := fun σ => ⟨_, choose_ok c 9 hc (by decide) (by decide), .cons (.refl .int) (.cons (.refl .int) (.nil _))⟩
    generalize chooseN c 9 = n at hn9 hch h0
    refine pa [.v (.bool true), .b false] rfl ?_ ?_
    · (repeat' with_reducible apply AllP_cons) <;> first | exact trivial | assumption | omega | rfl | exact decide_eq_true (by omega) | exact decide_eq_false (by omega) | (rw [IntWalk.i64_in _ ⟨by omega, by omega⟩]; omega) | exact allOne_mem rfl | exact Nat.le_of_ble_eq_true rfl | (simp only [List.length_cons, List.length_nil]; omega) | skip
      · exact ⟨_, tokenBegun_ok, .nil _⟩
      · intro x hx; simp at hx; subst hx; exact trivial
    refine S_while (α := Nat) (fun j => [(0, .str s), (1, .int .i64 c), (5, .str [10]), (6, .str (List.replicate j 32 ++ [10])), (7, .int .i64 j)]) (fun _ => []) (fun j => j ≤ n) (fun j => n - j) 0
      (Nat.zero_le _) (.cons rfl (.cons rfl (.cons rfl (.cons rfl (.cons rfl (.nil _)))))) rfl ?_
    rintro j hj
    have hj : j ≤ n := hj
    by_cases hlt : j < n
    · refine pa [.v (.int .i64 (n : Nat)), .b true] rfl ?_ ?_
      · (repeat' with_reducible apply AllP_cons) <;> first | exact trivial | assumption | omega | rfl | exact decide_eq_true (by omega) | exact decide_eq_false (by omega) | (rw [IntWalk.i64_in _ ⟨by omega, by omega⟩]; omega) | exact allOne_mem rfl | exact Nat.le_of_ble_eq_true rfl | (simp only [List.length_cons, List.length_nil]; omega) | skip
        · exact hch _
        · show (((1 + (List.replicate j (32 : UInt8) ++ [10]).length : Nat)) : Int) ≤ _; simp; omega
      exact S_round (j + 1) (by show n - (j + 1) < n - j; omega) hlt (.cons rfl (.cons rfl (.cons rfl (.cons rfl (.cons (ai64 rfl (by omega)) (.nil _)))))) rfl
    · obtain rfl : j = n := by omega
      have h1 := Split_ok s
      have hl := splitS_len s
      have h2 := Split_ok (ahead j ++ s)
      have hl2 := splitS_len (ahead j ++ s)
      have hSp1 : ∀ σ, ∃ args', Calc cx 7 args' (splitAV (splitS s)) ∧ Frzs σ [.str s] args' := fun σ => ⟨_, h1, .cons (.refl .str) (.nil _)⟩
      have hSp2 : ∀ σ, ∃ args', Calc cx 7 args' (splitAV (splitS (ahead j ++ s))) ∧ Frzs σ [.str (ahead j ++ s)] args' := fun σ => ⟨_, h2, .cons (.refl .str) (.nil _)⟩
      have hlen : ((List.replicate j (32 : UInt8) ++ [10]) ++ (([32, 32, 35, 32, 110, 111, 116, 104, 105, 110, 103] ++ [10]) ++ s)).length = j + 13 + s.length := by simp; omega
      have hlen2 : (ahead j ++ s).length = j + 13 + s.length := by rw [← ahead_eq]; exact hlen
      refine pa [.v (.int .i64 (j : Nat)), .b false] rfl ?_ ?_
      · (repeat' with_reducible apply AllP_cons) <;> first | exact trivial | (show (_ : Int) ≤ 9223372036854775807; first | (simp; done) | (simp; omega)) | assumption | omega | rfl | exact decide_eq_true (by omega) | exact decide_eq_false (by omega) | (rw [IntWalk.i64_in _ ⟨by omega, by omega⟩]; omega) | exact allOne_mem rfl | exact Nat.le_of_ble_eq_true rfl | (simp only [List.length_cons, List.length_nil]; omega) | skip
        exact hch _
      refine S_weakO [(0, .str s), (6, .str (ahead j ++ s)), (32, .str s)] (.cons rfl (.cons (by rw [← ahead_eq]; rfl) (.cons rfl (.nil _)))) ?_
      have hbig : ¬ 6000 < j + 13 + s.length := fun h => h0 (.inl h)
      · have hsp := splitS_ahead j s (by omega)
        rw [hsp] at hSp2 hl2
        have hnil := fun h => ((splitS_levels s).1 h).1
        have hat := fun h => ((splitS_levels s).1 h).2
        generalize splitS s = q at hSp1 hSp2 hl hl2 hnil hat h0
        obtain ⟨l, e⟩ := q
        simp only at hSp2 hl hl2 hnil hat h0
        have hdec : decide ((((ahead j ++ s).length : Nat) : Int) > 6000) = false := by rw [hlen2]; exact decide_eq_false (by omega)
        have he : ¬ e.1 = 0 := fun h => h0 (.inr h)
        · rw [if_neg he] at hSp2
          have d1 : (((e.1 : Nat) : Int) != 0) = true := bne_iff_ne.2 (by omega)
          have d2 : (((e.1 : Nat) : Int) == ((e.1 : Nat) : Int)) = true := beq_self_eq_true _
          have hl0 : l = [] := hnil (by omega)
          subst hl0
          have hat : e.2 ≤ s.length := hat (by omega)
          by_cases t1 : e.1 = 2
          · have d3 : (((e.1 : Nat) : Int) == 2) = true := by rw [t1]; rfl
            by_cases t2 : e.2 = 0
            · have d4 : (((e.2 : Nat) : Int) == 0) = true := by rw [t2]; rfl
              refine pa [.v (splitAV ([], e)), .v (splitAV ([], shF (j + 13) e)), .b false, .b true, .b true, .b true, .b true] rfl ?_ ?_
              · (repeat' with_reducible apply AllP_cons) <;> first | exact trivial | (show (_ : Int) ≤ 9223372036854775807; first | (simp; done) | (simp; omega)) | assumption | omega | rfl | exact decide_eq_true (by omega) | exact decide_eq_false (by omega) | (rw [IntWalk.i64_in _ ⟨by omega, by omega⟩]; omega) | exact allOne_mem rfl | exact Nat.le_of_ble_eq_true rfl | (simp only [List.length_cons, List.length_nil]; omega) | skip
                · exact hSp1 _
                · exact hSp2 _
              exact S_retc .bool rfl trivial rfl
            · have d4 : (((e.2 : Nat) : Int) == 0) = false := beq_false_of_ne (by omega)
              refine pa [.v (splitAV ([], e)), .v (splitAV ([], shF (j + 13) e)), .b false, .b true, .b true, .b true, .b false] rfl ?_ ?_
              · (repeat' with_reducible apply AllP_cons) <;> first | exact trivial | (show (_ : Int) ≤ 9223372036854775807; first | (simp; done) | (simp; omega)) | assumption | omega | rfl | exact decide_eq_true (by omega) | exact decide_eq_false (by omega) | (rw [IntWalk.i64_in _ ⟨by omega, by omega⟩]; omega) | exact allOne_mem rfl | exact Nat.le_of_ble_eq_true rfl | (simp only [List.length_cons, List.length_nil]; omega) | skip
                · exact hSp1 _
                · exact hSp2 _
              refine S_retc .bool rfl trivial ?_
              show AV.bool (((j + 13 + e.2 : Nat) : Int) == IntKind.i64.wrap (IntKind.i64.wrap (((e.2 : Nat) : Int) + (((ahead j ++ s).length : Nat) : Int)) - ((s.length : Nat) : Int))) = .bool true
              rw [hlen2, IntWalk.i64_in (((e.2 : Nat) : Int) + _) ⟨by omega, by omega⟩, IntWalk.i64_in _ ⟨by omega, by omega⟩]
              congr 1
              rw [beq_iff_eq]; omega
          · have d3 : (((e.1 : Nat) : Int) == 2) = false := beq_false_of_ne (by omega)
            refine pa [.v (splitAV ([], e)), .v (splitAV ([], shF (j + 13) e)), .b false, .b true, .b true, .b false, .b false] rfl ?_ ?_
            · (repeat' with_reducible apply AllP_cons) <;> first | exact trivial | (show (_ : Int) ≤ 9223372036854775807; first | (simp; done) | (simp; omega)) | assumption | omega | rfl | exact decide_eq_true (by omega) | exact decide_eq_false (by omega) | (rw [IntWalk.i64_in _ ⟨by omega, by omega⟩]; omega) | exact allOne_mem rfl | exact Nat.le_of_ble_eq_true rfl | (simp only [List.length_cons, List.length_nil]; omega) | skip
              · exact hSp1 _
              · exact hSp2 _
            refine S_retc .bool rfl trivial ?_
            show AV.bool (((j + 13 + e.2 : Nat) : Int) == IntKind.i64.wrap (IntKind.i64.wrap (((e.2 : Nat) : Int) + (((ahead j ++ s).length : Nat) : Int)) - ((s.length : Nat) : Int))) = .bool true
            rw [hlen2, IntWalk.i64_in (((e.2 : Nat) : Int) + _) ⟨by omega, by omega⟩, IntWalk.i64_in _ ⟨by omega, by omega⟩]
            congr 1
            rw [beq_iff_eq]; omega

theorem TokenEmpty_ok (s : List UInt8) (c : Int) (hs : s.length ≤ 1048576) (hc : -9223372036854775808 ≤ c ∧ c ≤ 9223372036854775807) : Calc cx 6 [.str s, .int .i64 c] (.bool true) := by
  by_cases h0 : 6000 < chooseN c 9 + 13 + s.length ∨ (splitS s).2.1 = 0
  · exact TokenEmptyA_ok s c hs hc h0
  · exact TokenEmptyB_ok s c hs hc h0

end Go.Proofs.YtkgmbnjdeokdkaaDoor
