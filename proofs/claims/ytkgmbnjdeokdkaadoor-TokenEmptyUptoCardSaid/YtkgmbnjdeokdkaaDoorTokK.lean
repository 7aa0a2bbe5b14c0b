/-
  One token: the program.
-/
import Derived.Test.YtkgmbnjdeokdkaaDoorTokJ
set_option linter.unusedVariables false
set_option linter.unusedSimpArgs false
set_option maxRecDepth 20000
namespace Go.Proofs.YtkgmbnjdeokdkaaDoor
open Go Go.Ab

theorem runH_ok (F : FuncId) (P : UInt8 → Bool) (hF : ∀ c : UInt8, Calc cx F [.int .u8 (c.toNat : Nat)] (.bool (P c))) (v u w : Nat) (s : List UInt8) (i o : Nat) (ins : List Nat) (out : List Tok) (hi : i ≤ s.length) (hs : s.length ≤ 1048576) :
    CallOk cx 36 [.ptr 0 v 0, .func (.func F) [] []] (spH v u w s i o ins out) (fun r σ => r = .ret (.str (cutT s i (stopAt P s i))) ∧ σ = spH v u w s (stopAt P s i) o ins out) :=
  run_ok F P hF v u w _ _ s i o _ _ hi hs

/-- A number, as far as it is told. -/
def natM (t : List UInt8) : Nat := min (natOf t) 9007199254740992

theorem natOf_snoc (t : List UInt8) (d : UInt8) : natOf (t ++ [d]) = 10 * natOf t + (d.toNat - 48) := by simp [natOf, List.foldl_append]

theorem natM_snoc (t : List UInt8) (d : UInt8) : natM (t ++ [d]) = min (10 * natM t + (d.toNat - 48)) 9007199254740992 := by
  unfold natM; rw [natOf_snoc]; omega

theorem natM_le (t : List UInt8) : natM t ≤ 9007199254740992 := by unfold natM; omega

theorem cutT_len {s : List UInt8} {i j : Nat} (h : i ≤ j) (hj : j ≤ s.length) : (cutT s i j).length = j - i := by simp [cutT]; omega

theorem cutT_all {p : UInt8 → Bool} {s : List UInt8} {i : Nat} : ∀ x ∈ cutT s i (stopAt p s i), p x = true := by
  intro x hx
  have e : cutT s i (stopAt p s i) = (s.drop i).takeWhile p := by
    rw [cutT, List.drop_take, stopAt, Nat.add_sub_cancel_left]
    exact (List.prefix_iff_eq_take.1 (List.takeWhile_prefix p)).symm
  rw [e] at hx
  exact List.all_eq_true.1 List.all_takeWhile x hx

theorem cutT_head {s : List UInt8} {i j : Nat} (h : i < j) (hj : j ≤ s.length) : (cutT s i j)[0]? = some (s.getD i 0) := by
  have : i < s.length := by omega
  rw [cutT, List.getElem?_drop, List.getElem?_take, if_pos (by omega)]
  simp [List.getD, this]

theorem SpEnd.ret {s : List UInt8} {x : Flt ⊕ (Nat × Nat × List Nat × List Tok)} {v : Nat} {r : AV} {σ : Heap} (h : SpEnd s x v (.ret r) σ) : r = .tup [] := by
  cases x with
  | inl e => cases h.1
  | inr q => obtain ⟨_, _, h, _⟩ := h; exact Out.ret.inj h

theorem next_ok (v u w : Nat) (s : List UInt8) (i o : Nat) (ins : List Nat) (out : List Tok) (hi : i < s.length) (hs : s.length ≤ 1048576) (ho : o ≤ 1000) (hl : out.length ≤ 900000) :
    CallOk cx 28 [.ptr 0 v 0] (spH v u w s i o ins out) (SpEnd s (endS (oneS s i o) ins out) v) :=
  callOk_intro (fun a w => Tryd.call28 a w) Tryd.func28 rfl Tryd.ntmps28 rfl fun B => by
    have hgc : (((s.getD ((i : Nat) : Int).toNat 0).toNat : Nat) : Int) = ((s[i].toNat : Nat) : Int) := by rw [Int.toNat_natCast, getD_byte hi]
    have hi2 : (0 : Int) ≤ ((i : Nat) : Int) ∧ ((i : Nat) : Int) < ((s.length : Nat) : Int) := by omega
    have hgd : s.getD i 0 = s[i] := getD_byte hi
    have hLet : ∀ σ, ∃ args', Calc cx 35 args' (.bool (isLet s[i])) ∧ Frzs σ [.int .u8 (((s.getD ((i : Nat) : Int).toNat 0).toNat : Nat) : Int)] args' := fun σ => by
      rw [hgc]; exact ⟨_, isLetter_ok s[i], .cons (.refl .int) (.nil _)⟩
    have hDig : ∀ σ, ∃ args', Calc cx 38 args' (.bool (isDg s[i])) ∧ Frzs σ [.int .u8 (((s.getD ((i : Nat) : Int).toNat 0).toNat : Nat) : Int)] args' := fun σ => by
      rw [hgc]; exact ⟨_, isDigit_ok s[i], .cons (.refl .int) (.nil _)⟩
    unfold oneS
    rw [hgd]
    by_cases c1 : isLet s[i] = true
    · rw [if_pos c1]
      rw [c1] at hLet
      obtain ⟨j, hj⟩ : ∃ j, j = stopAt (fun c => isLet c || isDg c) s i := ⟨_, rfl⟩
      obtain ⟨t, ht⟩ : ∃ t, t = cutT s i j := ⟨_, rfl⟩
      have hrun := runH_ok 37 (fun c => isLet c || isDg c) nextLetter_ok v u w s i o ins out (by omega) hs
      rw [← hj, ← ht] at hrun ⊢
      have hct : ∀ σ, ∃ args', Calc cx 39 args' (.bool (decide (t ∈ words14))) ∧ Frzs σ [.sl true false 1 (texts words14), .str t] args' := fun σ =>
        ⟨_, ContainsS_ok words14 t (by decide), .cons (.refl (.sl (fun h => by cases h) (texts_any words14))) (.cons (.refl .str) (.nil _))⟩
      have hp := fun k : Nat => putH v u w s j o ins out k t i (by omega)
      by_cases hm : t ∈ words14
      · rw [if_pos hm]
        rw [decide_eq_true hm] at hct
        refine pa [.v (.bool true), .b true, .c (.str t) (spH v u w s j o ins out), .v (.bool true), .b true, .c (.tup []) (spH v u (w + 1) s j o ins (out ++ [⟨5, t, 0, i⟩]))] rfl ?_ ?_
        · (repeat' with_reducible apply AllP_cons) <;> first | exact trivial | assumption | omega | rfl | exact decide_eq_true (by omega) | exact decide_eq_false (by omega) | (rw [IntWalk.i64_in _ ⟨by omega, by omega⟩]; omega) | exact allOne_mem rfl | exact Nat.le_of_ble_eq_true rfl | (simp only [List.length_cons, List.length_nil]; omega) | skip
          · exact hLet _
          · exact hct _
          · exact hp 5
        exact S_nil ⟨_, _, rfl, trivial, u, w + 1, rfl, rfl⟩
      · rw [if_neg hm]
        rw [decide_eq_false hm] at hct
        refine pa [.v (.bool true), .b true, .c (.str t) (spH v u w s j o ins out), .v (.bool false), .b false, .c (.tup []) (spH v u (w + 1) s j o ins (out ++ [⟨1, t, 0, i⟩]))] rfl ?_ ?_
        · (repeat' with_reducible apply AllP_cons) <;> first | exact trivial | assumption | omega | rfl | exact decide_eq_true (by omega) | exact decide_eq_false (by omega) | (rw [IntWalk.i64_in _ ⟨by omega, by omega⟩]; omega) | exact allOne_mem rfl | exact Nat.le_of_ble_eq_true rfl | (simp only [List.length_cons, List.length_nil]; omega) | skip
          · exact hLet _
          · exact hct _
          · exact hp 1
        exact S_nil ⟨_, _, rfl, trivial, u, w + 1, rfl, rfl⟩
    · rw [if_neg c1]
      rw [Bool.not_eq_true] at c1
      rw [c1] at hLet
      by_cases c2 : isDg s[i] = true
      · rw [if_pos c2]
        rw [c2] at hDig
        obtain ⟨j, hj⟩ : ∃ j, j = stopAt isDg s i := ⟨_, rfl⟩
        obtain ⟨t, ht⟩ : ∃ t, t = cutT s i j := ⟨_, rfl⟩
        have hrun := runH_ok 38 isDg isDigit_ok v u w s i o ins out (by omega) hs
        have hjl := stopAt_lt (p := isDg) hi (by rw [hgd]; exact c2)
        have hall : ∀ x ∈ t, isDg x = true := by rw [ht, hj]; exact cutT_all
        have htl : t.length = j - i := by rw [ht]; exact cutT_len (by omega) (by omega)
        have ht0 : t[0]? = some s[i] := by rw [ht, cutT_head (by omega) (by omega), hgd]
        rw [← hj, ← ht] at hrun ⊢
        rw [← hj] at hjl
        have htk : ∀ k, (h : k < t.length) → (t.map byteAV)[((k : Nat) : Int).toNat]? = some (byteAV t[k]) := fun k h => by rw [Int.toNat_natCast]; simp [h]
        refine pa [.v (.bool false), .b false, .v (.bool true), .b true, .c (.str t) (spH v u w s j o ins out)] rfl ?_ ?_
        · (repeat' with_reducible apply AllP_cons) <;> first | exact trivial | assumption | omega | rfl | exact decide_eq_true (by omega) | exact decide_eq_false (by omega) | (rw [IntWalk.i64_in _ ⟨by omega, by omega⟩]; omega) | exact allOne_mem rfl | exact Nat.le_of_ble_eq_true rfl | (simp only [List.length_cons, List.length_nil]; omega) | skip
          · exact hLet _
          · exact hDig _
        refine S_while (α := Nat) (fun k => [(0, .ptr 0 v 0), (2, .int .i64 i), (6, .str t), (7, .int .i64 (natM (t.take k) : Nat)), (41, .sl true false 1 (t.map byteAV)), (42, .int .i64 (t.length : Nat)), (43, .int .i64 (k : Nat))]) (fun _ => spH v u w s j o ins out) (fun k => k ≤ t.length) (fun k => t.length - k) 0
          (Nat.zero_le _) (.cons rfl (.cons rfl (.cons rfl (.cons rfl (.cons rfl (.cons (by show AV.int .i64 ((t.map byteAV).length : Nat) = _; rw [List.length_map]) (.cons rfl (.nil _)))))))) rfl ?_
        rintro k hk
        have hk : k ≤ t.length := hk
        by_cases hlt : k < t.length
        · have hd : isDg t[k] = true := hall _ (List.getElem_mem hlt)
          have hd : 48 ≤ t[k].toNat ∧ t[k].toNat ≤ 57 := by simpa [isDg] using hd
          have hn := natM_le (t.take k)
          refine pa [.b true, .v (byteAV t[k])] rfl ?_ ?_
          · (repeat' with_reducible apply AllP_cons) <;> first | exact trivial | assumption | omega | rfl | exact decide_eq_true (by omega) | exact decide_eq_false (by omega) | (rw [IntWalk.i64_in _ ⟨by omega, by omega⟩]; omega) | exact allOne_mem rfl | exact Nat.le_of_ble_eq_true rfl | (simp only [List.length_cons, List.length_nil]; omega) | skip
            all_goals exact htk k hlt
          refine S_round (k + 1) (by show t.length - (k + 1) < t.length - k; omega) hlt (.cons rfl (.cons rfl (.cons rfl (.cons ?_ (.cons rfl (.cons rfl (.cons (ai64 rfl (by omega)) (.nil _)))))))) rfl
          show AV.int .i64 (min (IntKind.i64.wrap (IntKind.i64.wrap (10 * ((natM (t.take k) : Nat) : Int)) + IntKind.i64.wrap (IntKind.u8.wrap (((t[k].toNat : Nat) : Int) - 48)))) 9007199254740992) = _
          rw [List.take_succ_eq_append_getElem hlt, natM_snoc, IntWalk.u8_in _ ⟨by omega, by omega⟩, IntWalk.i64_in (10 * ((natM (t.take k) : Nat) : Int)) ⟨by omega, by omega⟩, IntWalk.i64_in (((t[k].toNat : Nat) : Int) - 48) ⟨by omega, by omega⟩, IntWalk.i64_in _ ⟨by omega, by omega⟩]
          congr 1; omega
        · obtain rfl : k = t.length := by omega
          show S cx _ B _ _ [(0, .ptr 0 v 0), (2, .int .i64 i), (6, .str t), (7, .int .i64 (natM (t.take t.length) : Nat)), (41, .sl true false 1 (t.map byteAV)), (42, .int .i64 (t.length : Nat)), (43, .int .i64 (t.length : Nat))] (spH v u w s j o ins out)
          rw [List.take_length]
          have hm : natM t = min (natOf t) 9007199254740992 := rfl
          by_cases hb : 9007199254740991 < natOf t
          · rw [if_pos (.inl hb)]
            refine pa [.b false, .b true, .b true] rfl ?_ ?_
            · (repeat' with_reducible apply AllP_cons) <;> first | exact trivial | assumption | omega | rfl | exact decide_eq_true (by omega) | exact decide_eq_false (by omega) | (rw [IntWalk.i64_in _ ⟨by omega, by omega⟩]; omega) | exact allOne_mem rfl | exact Nat.le_of_ble_eq_true rfl | (simp only [List.length_cons, List.length_nil]; omega) | skip
            exact S_callP rfl rfl rfl (failH v u w s j o ins out 3 i) ⟨rfl, v, u, w, j, o, ins, out, rfl⟩
          · have hmn : natM t = natOf t := by omega
            rw [hmn]
            have fin : ∀ F : Fr, True := fun _ => trivial
            by_cases h1 : i + 1 < j
            · have hl1 : (0 : Int) < ((t.length : Nat) : Int) := by omega
              have hh : ((t.getD (0 : Int).toNat 0).toNat : Int) = ((s[i].toNat : Nat) : Int) := by
                show (((t.getD 0 0).toNat : Nat) : Int) = _
                rw [List.getD, ht0]; rfl
              by_cases h2 : s[i] = 48
              · rw [if_pos (.inr ⟨h2, h1⟩)]
                refine pa [.b false, .b false, .b true, .b true] rfl ?_ ?_
                · (repeat' with_reducible apply AllP_cons) <;> first | exact trivial | assumption | omega | rfl | exact decide_eq_true (by omega) | exact decide_eq_false (by omega) | (rw [IntWalk.i64_in _ ⟨by omega, by omega⟩]; omega) | exact allOne_mem rfl | exact Nat.le_of_ble_eq_true rfl | (simp only [List.length_cons, List.length_nil]; omega) | skip
                  rw [hh, h2]; rfl
                exact S_callP rfl rfl rfl (failH v u w s j o ins out 3 i) ⟨rfl, v, u, w, j, o, ins, out, rfl⟩
              · rw [if_neg (by rintro (h | ⟨h, _⟩); exact hb h; exact h2 h)]
                refine pa [.b false, .b false, .b true, .b false] rfl ?_ ?_
                · (repeat' with_reducible apply AllP_cons) <;> first | exact trivial | assumption | omega | rfl | exact decide_eq_true (by omega) | exact decide_eq_false (by omega) | (rw [IntWalk.i64_in _ ⟨by omega, by omega⟩]; omega) | exact allOne_mem rfl | exact Nat.le_of_ble_eq_true rfl | (simp only [List.length_cons, List.length_nil]; omega) | skip
                  · rw [hh]; exact beq_false_of_ne (fun h => h2 (UInt8.toNat_inj.1 (by show s[i].toNat = 48; omega)))
                  · show 0 + out.length * 4 = _; rw [tokC_len]; omega
                  · show (out.length + 1) * 40 ≤ 140737488355328; omega
                refine S_nil ⟨_, _, rfl, trivial, u, w + 1, rfl, ?_⟩
                show [spB v s j o (insV u ins) (.ms 2 (w + 1) 0 (out.length + 1) 4 false), insB u ins, (w + 1, some (Box.cells (out.flatMap tokC ++ [.int .i64 2, .str t, .int .i64 (natOf t : Nat), .int .i64 i]) ⟨false, none⟩))] = _
                unfold spH outV outB
                rw [List.length_append, List.flatMap_append]; rfl
            · rw [if_neg (by rintro (h | ⟨_, h⟩); exact hb h; exact h1 h)]
              refine pa [.b false, .b false, .b false, .b false] rfl ?_ ?_
              · (repeat' with_reducible apply AllP_cons) <;> first | exact trivial | assumption | omega | rfl | exact decide_eq_true (by omega) | exact decide_eq_false (by omega) | (rw [IntWalk.i64_in _ ⟨by omega, by omega⟩]; omega) | exact allOne_mem rfl | exact Nat.le_of_ble_eq_true rfl | (simp only [List.length_cons, List.length_nil]; omega) | skip
                · show 0 + out.length * 4 = _; rw [tokC_len]; omega
                · show (out.length + 1) * 40 ≤ 140737488355328; omega
              refine S_nil ⟨_, _, rfl, trivial, u, w + 1, rfl, ?_⟩
              show [spB v s j o (insV u ins) (.ms 2 (w + 1) 0 (out.length + 1) 4 false), insB u ins, (w + 1, some (Box.cells (out.flatMap tokC ++ [.int .i64 2, .str t, .int .i64 (natOf t : Nat), .int .i64 i]) ⟨false, none⟩))] = _
              unfold spH outV outB
              rw [List.length_append, List.flatMap_append]; rfl
      · rw [if_neg c2]
        rw [Bool.not_eq_true] at c2
        rw [c2] at hDig
        by_cases c3 : s[i] = 34
        · rw [if_pos c3]
          have e3 : ((((s.getD ((i : Nat) : Int).toNat 0).toNat : Nat) : Int) == 34) = true := by rw [hgc, c3]; rfl
          refine pa [.v (.bool false), .b false, .v (.bool false), .b false, .b true] rfl ?_ ?_
          · (repeat' with_reducible apply AllP_cons) <;> first | exact trivial | assumption | omega | rfl | exact decide_eq_true (by omega) | exact decide_eq_false (by omega) | (rw [IntWalk.i64_in _ ⟨by omega, by omega⟩]; omega) | exact allOne_mem rfl | exact Nat.le_of_ble_eq_true rfl | (simp only [List.length_cons, List.length_nil]; omega) | skip
            · exact hLet _
            · exact hDig _
          refine S_call rfl rfl rfl (text_ok v u w s i o ins out hi hs hl) (fun r σ' h => ?_) (fun r σ' h => h)
          obtain rfl := h.ret
          refine pa [] rfl trivial ?_
          exact S_nil ⟨_, _, rfl, trivial, h⟩
        · rw [if_neg c3]
          have e3 : ((((s.getD ((i : Nat) : Int).toNat 0).toNat : Nat) : Int) == 34) = false := by rw [hgc]; exact beq_false_of_ne (fun h => c3 (UInt8.toNat_inj.1 (by show s[i].toNat = 34; omega)))
          refine pa [.v (.bool false), .b false, .v (.bool false), .b false, .b false] rfl ?_ ?_
          · (repeat' with_reducible apply AllP_cons) <;> first | exact trivial | assumption | omega | rfl | exact decide_eq_true (by omega) | exact decide_eq_false (by omega) | (rw [IntWalk.i64_in _ ⟨by omega, by omega⟩]; omega) | exact allOne_mem rfl | exact Nat.le_of_ble_eq_true rfl | (simp only [List.length_cons, List.length_nil]; omega) | skip
            · exact hLet _
            · exact hDig _
          refine S_call rfl rfl rfl (sign_ok v u w s i o ins out hi hs ho hl) (fun r σ' h => ?_) (fun r σ' h => h)
          obtain rfl := h.ret
          refine pa [] rfl trivial ?_
          exact S_nil ⟨_, _, rfl, trivial, h⟩

end Go.Proofs.YtkgmbnjdeokdkaaDoor
