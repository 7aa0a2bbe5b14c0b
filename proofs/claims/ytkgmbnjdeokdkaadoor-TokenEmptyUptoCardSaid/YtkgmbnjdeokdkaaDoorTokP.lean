/-
  One token: the reference.
-/
import Derived.Test.YtkgmbnjdeokdkaaDoorTokO
import Derived.Test.YtkgmbnjdeokdkaaDoorTokK
import Derived.Test.YtkgmbnjdeokdkaaDoorAbThree
set_option linter.unusedVariables false
set_option linter.unusedSimpArgs false
set_option maxRecDepth 20000
namespace Go.Proofs.YtkgmbnjdeokdkaaDoor
open Go Go.Ab

theorem RsEnd.ret0 {s : List UInt8} {x : Flt ⊕ (Nat × Nat × List Nat × List Tok)} {v : Nat} {r : AV} {σ : Heap} (h : RsEnd s x v (.ret r) σ) : ∃ n : Nat, r = .int .i64 n := by
  cases x with
  | inl e => exact ⟨e.1, Out.ret.inj h.1⟩
  | inr q => obtain ⟨_, _, h, _⟩ := h; exact ⟨0, Out.ret.inj h⟩

/-- The same heap, as it is reckoned. -/
def rsA (v u w : Nat) (s : List UInt8) (i o : Int) (ins : List Nat) (out : List Tok) : Heap := [(v, some (.cells [.str s, .int .i64 i, .int .i64 o, insV u ins, outV w out] ⟨false, some 44⟩)), insB u ins, outB w out]

/-- What several roads come to (at a region) is shown once. -/
theorem S_shareO {n : Nat} {B : Bs} {Q : Post} {k k' : List AI} {fr : Fr} {σ : Heap} {all : Array Oper} {l : List Oper} {K : List Nat} (F : Fr) (σ' : Heap) (hm : (∀ fr, Weak fr F → S cx n B (.ops all l K :: k') Q fr σ') → S cx n B k Q fr σ) (hk : S cx n B (.ops all l K :: k') Q F σ') : S cx n B k Q fr σ :=
  hm fun _ hw => S_ops_weak hw hk

theorem opens_iff (t : List UInt8) : t ∈ opens ↔ t = [40] ∨ t = [91] ∨ t = [123] := by simp [opens]
theorem closes_iff (t : List UInt8) : t ∈ closes ↔ t = [41] ∨ t = [93] ∨ t = [125] := by simp [closes]

/-- The number as the reference tells it. -/
def NatR (t : List UInt8) (n : Nat) : Prop := (natOf t ≤ 9007199254740991 → n = natOf t) ∧ (9007199254740991 < natOf t → 9007199254740991 < n) ∧ n ≤ 90071992547409920

theorem oneLet_ok (v u w : Nat) (s : List UInt8) (i o : Nat) (ins : List Nat) (out : List Tok) (hi : i < s.length) (hs : s.length ≤ 1048576) (ho : o ≤ 30) (hl : out.length ≤ 900000) (c0 : isLet s[i] = true) :
    CallOk cx 23 [.ptr 0 v 0] (rsH v u w s i o ins out) (RsEnd s (endS (oneS s i o) ins out) v) :=
  callOk_intro (fun a w => Tryd.call23 a w) Tryd.func23 rfl Tryd.ntmps23 rfl fun B => by
    have hgc : (((s.getD ((i : Nat) : Int).toNat 0).toNat : Nat) : Int) = ((s[i].toNat : Nat) : Int) := by rw [Int.toNat_natCast, getD_byte hi]
    have hi2 : (0 : Int) ≤ ((i : Nat) : Int) ∧ ((i : Nat) : Int) < ((s.length : Nat) : Int) := by omega
    have hgd : s.getD i 0 = s[i] := getD_byte hi
    have letA : ∀ (c : UInt8) (x : Int) σ, x = ((c.toNat : Nat) : Int) → ∃ args', Calc cx 29 args' (.bool (isLet c)) ∧ Frzs σ [.int .u8 x] args' := fun c x σ h => by
      rw [h]; exact ⟨_, IsLetterByte_ok c, .cons (.refl .int) (.nil _)⟩
    have digA : ∀ (c : UInt8) (x : Int) σ, x = ((c.toNat : Nat) : Int) → ∃ args', Calc cx 30 args' (.bool (isDg c)) ∧ Frzs σ [.int .u8 x] args' := fun c x σ h => by
      rw [h]; exact ⟨_, IsDigitByte_ok c, .cons (.refl .int) (.nil _)⟩
    have hLet := fun σ => letA s[i] _ σ hgc
    have hDig := fun σ => digA s[i] _ σ hgc
    unfold oneS
    rw [hgd]
    by_cases c1 : isLet s[i] = true
    · rw [if_pos c1]
      rw [c1] at hLet
      obtain ⟨J, hJ⟩ : ∃ J, J = stopAt (fun c => isLet c || isDg c) s i := ⟨_, rfl⟩
      obtain ⟨t, ht⟩ : ∃ t, t = cutT s i J := ⟨_, rfl⟩
      have hJl := stopAt_le (p := fun c => isLet c || isDg c) (s := s) (i := i) (by omega)
      rw [← hJ, ← ht]
      rw [← hJ] at hJl
      refine pa [.v (.bool true), .b true] rfl ?_ ?_
      · (repeat' with_reducible apply AllP_cons) <;> first | exact trivial | assumption | omega | rfl | exact decide_eq_true (by omega) | exact decide_eq_false (by omega) | (rw [IntWalk.i64_in _ ⟨by omega, by omega⟩]; omega) | exact allOne_mem rfl | exact Nat.le_of_ble_eq_true rfl | (simp only [List.length_cons, List.length_nil]; omega) | skip
        exact hLet _
      refine S_while (α := Nat) (fun j => [(0, .ptr 0 v 0), (3, .int .i64 i)]) (fun j => rsH v u w s j o ins out) (fun j => i ≤ j ∧ j ≤ s.length ∧ stopAt (fun c => isLet c || isDg c) s j = J) (fun j => s.length - j) i
        ⟨Nat.le_refl _, by show i ≤ s.length; omega, hJ.symm⟩ (.cons rfl (.cons rfl (.nil _))) rfl ?_
      rintro j ⟨h1, h2, h3⟩
      have h1 : i ≤ j := h1
      have h2 : j ≤ s.length := h2
      have hwj : IntKind.i64.wrap ((j : Nat) + 1) = ((j + 1 : Nat) : Int) := by rw [IntWalk.i64_in _ ⟨by omega, by omega⟩]; omega
      -- behind the run
      have hcut : cutL (some ((i : Nat) : Int)) (some ((J : Nat) : Int)) s = t := by
        rw [ht]; show (s.take ((J : Nat) : Int).toNat).drop ((i : Nat) : Int).toNat = _
        rw [Int.toNat_natCast, Int.toNat_natCast]; rfl
      have hJ2 : ((i : Nat) : Int) ≤ ((J : Nat) : Int) ∧ ((J : Nat) : Int) ≤ ((s.length : Nat) : Int) := by omega
      by_cases hlt : j < s.length
      · have hgj : (((s.getD ((j : Nat) : Int).toNat 0).toNat : Nat) : Int) = ((s[j].toNat : Nat) : Int) := by rw [Int.toNat_natCast, getD_byte hlt]
        have hj2 : (0 : Int) ≤ ((j : Nat) : Int) ∧ ((j : Nat) : Int) < ((s.length : Nat) : Int) := by omega
        have hL := fun σ => letA s[j] _ σ hgj
        have hD := fun σ => digA s[j] _ σ hgj
        by_cases l1 : isLet s[j] = true
        · rw [l1] at hL
          refine pa [.b true, .v (.bool true), .b true, .b true] rfl ?_ ?_
          · (repeat' with_reducible apply AllP_cons) <;> first | exact trivial | assumption | omega | rfl | exact decide_eq_true (by omega) | exact decide_eq_false (by omega) | (rw [IntWalk.i64_in _ ⟨by omega, by omega⟩]; omega) | exact allOne_mem rfl | exact Nat.le_of_ble_eq_true rfl | (simp only [List.length_cons, List.length_nil]; omega) | skip
            exact hL _
          refine S_round (j + 1) (by show s.length - (j + 1) < s.length - j; omega) ⟨by show i ≤ j + 1; omega, hlt, by rw [← h3]; exact (stopAt_yes hlt (by rw [l1]; rfl)).symm⟩ (.cons rfl (.cons rfl (.nil _))) ?_
          show rsA v u w s (IntKind.i64.wrap ((j : Nat) + 1)) (o : Nat) ins out = _
          rw [hwj]; rfl
        · rw [Bool.not_eq_true] at l1
          rw [l1] at hL
          by_cases l2 : isDg s[j] = true
          · rw [l2] at hD
            refine pa [.b true, .v (.bool false), .b false, .v (.bool true), .b true] rfl ?_ ?_
            · (repeat' with_reducible apply AllP_cons) <;> first | exact trivial | assumption | omega | rfl | exact decide_eq_true (by omega) | exact decide_eq_false (by omega) | (rw [IntWalk.i64_in _ ⟨by omega, by omega⟩]; omega) | exact allOne_mem rfl | exact Nat.le_of_ble_eq_true rfl | (simp only [List.length_cons, List.length_nil]; omega) | skip
              · exact hL _
              · exact hD _
            refine S_round (j + 1) (by show s.length - (j + 1) < s.length - j; omega) ⟨by show i ≤ j + 1; omega, hlt, by rw [← h3]; exact (stopAt_yes hlt (by rw [l2, l1]; rfl)).symm⟩ (.cons rfl (.cons rfl (.nil _))) ?_
            show rsA v u w s (IntKind.i64.wrap ((j : Nat) + 1)) (o : Nat) ins out = _
            rw [hwj]; rfl
          · rw [Bool.not_eq_true] at l2
            rw [l2] at hD
            have hjJ : j = J := by rw [← h3]; exact (stopAt_no hlt (by rw [l1, l2]; rfl)).symm
            subst hjJ
            have hW : ∀ σ, ∃ args', Calc cx 31 args' (.bool (decide (t ∈ words14))) ∧ Frzs σ [.str (cutL (some ((i : Nat) : Int)) (some ((j : Nat) : Int)) s)] args' := fun σ => by
              rw [hcut]; exact ⟨_, IsSourceWord_ok t, .cons (.refl .str) (.nil _)⟩
            have hp : ∀ k : Nat, CallOk cx 24 [.ptr 0 v 0, .int .i64 k, .str (cutL (some ((i : Nat) : Int)) (some ((j : Nat) : Int)) s), .int .i64 i] (rsH v u w s j o ins out) (fun e σ => e = .ret (.tup []) ∧ σ = rsH v u (w + 1) s j o ins (out ++ [⟨k, t, 0, i⟩])) := fun k => by
              rw [hcut]; exact rputH v u w s j o ins out k t i (by omega)
            by_cases hm : t ∈ words14
            · rw [if_pos hm]
              rw [decide_eq_true hm] at hW
              refine pa [.b true, .v (.bool false), .b false, .v (.bool false), .b false, .v (.bool true), .b true, .c (.tup []) (rsH v u (w + 1) s j o ins (out ++ [⟨5, t, 0, i⟩]))] rfl ?_ ?_
              · (repeat' with_reducible apply AllP_cons) <;> first | exact trivial | assumption | omega | rfl | exact decide_eq_true (by omega) | exact decide_eq_false (by omega) | (rw [IntWalk.i64_in _ ⟨by omega, by omega⟩]; omega) | exact allOne_mem rfl | exact Nat.le_of_ble_eq_true rfl | (simp only [List.length_cons, List.length_nil]; omega) | skip
                all_goals first | exact hL _ | exact hD _ | exact hW _ | exact hp 5
              exact S_ret ⟨_, _, rfl, trivial, u, w + 1, rfl, rfl⟩
            · rw [if_neg hm]
              rw [decide_eq_false hm] at hW
              refine pa [.b true, .v (.bool false), .b false, .v (.bool false), .b false, .v (.bool false), .b false, .c (.tup []) (rsH v u (w + 1) s j o ins (out ++ [⟨1, t, 0, i⟩]))] rfl ?_ ?_
              · (repeat' with_reducible apply AllP_cons) <;> first | exact trivial | assumption | omega | rfl | exact decide_eq_true (by omega) | exact decide_eq_false (by omega) | (rw [IntWalk.i64_in _ ⟨by omega, by omega⟩]; omega) | exact allOne_mem rfl | exact Nat.le_of_ble_eq_true rfl | (simp only [List.length_cons, List.length_nil]; omega) | skip
                all_goals first | exact hL _ | exact hD _ | exact hW _ | exact hp 1
              exact S_ret ⟨_, _, rfl, trivial, u, w + 1, rfl, rfl⟩
      · have hjJ : j = J := by rw [← h3]; exact (stopAt_end (by omega)).symm
        subst hjJ
        have hL := hLet
        have hD := hDig
        have hW : ∀ σ, ∃ args', Calc cx 31 args' (.bool (decide (t ∈ words14))) ∧ Frzs σ [.str (cutL (some ((i : Nat) : Int)) (some ((j : Nat) : Int)) s)] args' := fun σ => by
          rw [hcut]; exact ⟨_, IsSourceWord_ok t, .cons (.refl .str) (.nil _)⟩
        have hp : ∀ k : Nat, CallOk cx 24 [.ptr 0 v 0, .int .i64 k, .str (cutL (some ((i : Nat) : Int)) (some ((j : Nat) : Int)) s), .int .i64 i] (rsH v u w s j o ins out) (fun e σ => e = .ret (.tup []) ∧ σ = rsH v u (w + 1) s j o ins (out ++ [⟨k, t, 0, i⟩])) := fun k => by
          rw [hcut]; exact rputH v u w s j o ins out k t i (by omega)
        by_cases hm : t ∈ words14
        · rw [if_pos hm]
          rw [decide_eq_true hm] at hW
          refine pa [.b false, .b false, .v (.bool true), .b true, .c (.tup []) (rsH v u (w + 1) s j o ins (out ++ [⟨5, t, 0, i⟩]))] rfl ?_ ?_
          · (repeat' with_reducible apply AllP_cons) <;> first | exact trivial | assumption | omega | rfl | exact decide_eq_true (by omega) | exact decide_eq_false (by omega) | (rw [IntWalk.i64_in _ ⟨by omega, by omega⟩]; omega) | exact allOne_mem rfl | exact Nat.le_of_ble_eq_true rfl | (simp only [List.length_cons, List.length_nil]; omega) | skip
            all_goals first | exact hL _ | exact hD _ | exact hW _ | exact hp 5
          exact S_ret ⟨_, _, rfl, trivial, u, w + 1, rfl, rfl⟩
        · rw [if_neg hm]
          rw [decide_eq_false hm] at hW
          refine pa [.b false, .b false, .v (.bool false), .b false, .c (.tup []) (rsH v u (w + 1) s j o ins (out ++ [⟨1, t, 0, i⟩]))] rfl ?_ ?_
          · (repeat' with_reducible apply AllP_cons) <;> first | exact trivial | assumption | omega | rfl | exact decide_eq_true (by omega) | exact decide_eq_false (by omega) | (rw [IntWalk.i64_in _ ⟨by omega, by omega⟩]; omega) | exact allOne_mem rfl | exact Nat.le_of_ble_eq_true rfl | (simp only [List.length_cons, List.length_nil]; omega) | skip
            all_goals first | exact hL _ | exact hD _ | exact hW _ | exact hp 1
          exact S_ret ⟨_, _, rfl, trivial, u, w + 1, rfl, rfl⟩
    · exact absurd c0 c1

theorem oneDig_ok (v u w : Nat) (s : List UInt8) (i o : Nat) (ins : List Nat) (out : List Tok) (hi : i < s.length) (hs : s.length ≤ 1048576) (ho : o ≤ 30) (hl : out.length ≤ 900000) (c1 : ¬ isLet s[i] = true) (c2 : isDg s[i] = true) :
    CallOk cx 23 [.ptr 0 v 0] (rsH v u w s i o ins out) (RsEnd s (endS (oneS s i o) ins out) v) :=
  callOk_intro (fun a w => Tryd.call23 a w) Tryd.func23 rfl Tryd.ntmps23 rfl fun B => by
    have hgc : (((s.getD ((i : Nat) : Int).toNat 0).toNat : Nat) : Int) = ((s[i].toNat : Nat) : Int) := by rw [Int.toNat_natCast, getD_byte hi]
    have hi2 : (0 : Int) ≤ ((i : Nat) : Int) ∧ ((i : Nat) : Int) < ((s.length : Nat) : Int) := by omega
    have hgd : s.getD i 0 = s[i] := getD_byte hi
    have letA : ∀ (c : UInt8) (x : Int) σ, x = ((c.toNat : Nat) : Int) → ∃ args', Calc cx 29 args' (.bool (isLet c)) ∧ Frzs σ [.int .u8 x] args' := fun c x σ h => by
      rw [h]; exact ⟨_, IsLetterByte_ok c, .cons (.refl .int) (.nil _)⟩
    have digA : ∀ (c : UInt8) (x : Int) σ, x = ((c.toNat : Nat) : Int) → ∃ args', Calc cx 30 args' (.bool (isDg c)) ∧ Frzs σ [.int .u8 x] args' := fun c x σ h => by
      rw [h]; exact ⟨_, IsDigitByte_ok c, .cons (.refl .int) (.nil _)⟩
    have hLet := fun σ => letA s[i] _ σ hgc
    have hDig := fun σ => digA s[i] _ σ hgc
    unfold oneS
    rw [hgd]
    · rw [if_neg c1]
      rw [Bool.not_eq_true] at c1
      rw [c1] at hLet
      · rw [if_pos c2]
        rw [c2] at hDig
        obtain ⟨J, hJ⟩ : ∃ J, J = stopAt isDg s i := ⟨_, rfl⟩
        obtain ⟨t, ht⟩ : ∃ t, t = cutT s i J := ⟨_, rfl⟩
        have hJl := stopAt_lt (p := isDg) hi (by rw [hgd]; exact c2)
        rw [← hJ, ← ht]
        rw [← hJ] at hJl
        refine pa [.v (.bool false), .b false, .v (.bool true), .b true] rfl ?_ ?_
        · (repeat' with_reducible apply AllP_cons) <;> first | exact trivial | assumption | omega | rfl | exact decide_eq_true (by omega) | exact decide_eq_false (by omega) | (rw [IntWalk.i64_in _ ⟨by omega, by omega⟩]; omega) | exact allOne_mem rfl | exact Nat.le_of_ble_eq_true rfl | (simp only [List.length_cons, List.length_nil]; omega) | skip
          · exact hLet _
          · exact hDig _
        refine S_while (α := Nat × Nat) (fun (j, n) => [(0, .ptr 0 v 0), (3, .int .i64 i), (4, .int .u8 (((s.getD ((i : Nat) : Int).toNat 0).toNat : Nat) : Int)), (6, .int .i64 n)]) (fun (j, n) => rsH v u w s j o ins out) (fun (j, n) => i ≤ j ∧ j ≤ s.length ∧ stopAt isDg s j = J ∧ NatR (cutT s i j) n) (fun (j, n) => s.length - j) (i, 0)
          ⟨Nat.le_refl _, by omega, hJ.symm, by have : cutT s i i = [] := by simp [cutT]
                                                rw [this]; exact ⟨fun _ => rfl, fun h => absurd h (by decide), by decide⟩⟩ (.cons rfl (.cons rfl (.cons rfl (.cons rfl (.nil _))))) rfl ?_
        rintro ⟨j, n⟩ ⟨h1, h2, h3, hn⟩
        have h1 : i ≤ j := h1
        have h2 : j ≤ s.length := h2
        show S cx _ B _ _ [(0, .ptr 0 v 0), (3, .int .i64 i), (4, .int .u8 (((s.getD ((i : Nat) : Int).toNat 0).toNat : Nat) : Int)), (6, .int .i64 n)] (rsH v u w s j o ins out)
        have hwj : IntKind.i64.wrap ((j : Nat) + 1) = ((j + 1 : Nat) : Int) := by rw [IntWalk.i64_in _ ⟨by omega, by omega⟩]; omega
        have hcut : cutL (some ((i : Nat) : Int)) (some ((J : Nat) : Int)) s = t := by
          rw [ht]; show (s.take ((J : Nat) : Int).toNat).drop ((i : Nat) : Int).toNat = _
          rw [Int.toNat_natCast, Int.toNat_natCast]; rfl
        have hJ2 : ((i : Nat) : Int) ≤ ((J : Nat) : Int) ∧ ((J : Nat) : Int) ≤ ((s.length : Nat) : Int) := by omega
        by_cases hgo : ∃ h : j < s.length, isDg s[j] = true
        · obtain ⟨hlt, l2⟩ := hgo
          have hgj : (((s.getD ((j : Nat) : Int).toNat 0).toNat : Nat) : Int) = ((s[j].toNat : Nat) : Int) := by rw [Int.toNat_natCast, getD_byte hlt]
          have hj2 : (0 : Int) ≤ ((j : Nat) : Int) ∧ ((j : Nat) : Int) < ((s.length : Nat) : Int) := by omega
          have hD := fun σ => digA s[j] _ σ hgj
          rw [l2] at hD
          have hd : 48 ≤ s[j].toNat ∧ s[j].toNat ≤ 57 := by simpa [isDg] using l2
          have hsn : cutT s i (j + 1) = cutT s i j ++ [s[j]] := by
            rw [cutT, List.take_succ_eq_append_getElem hlt, List.drop_append_of_le_length (by simp; omega)]; rfl
          have hst : stopAt isDg s (j + 1) = J := by rw [← h3]; exact (stopAt_yes hlt l2).symm
          by_cases hsm : n ≤ 9007199254740991
          · refine pa [.b true, .v (.bool true), .b true, .b true] rfl ?_ ?_
            · (repeat' with_reducible apply AllP_cons) <;> first | exact trivial | assumption | omega | rfl | exact decide_eq_true (by omega) | exact decide_eq_false (by omega) | (rw [IntWalk.i64_in _ ⟨by omega, by omega⟩]; omega) | exact allOne_mem rfl | exact Nat.le_of_ble_eq_true rfl | (simp only [List.length_cons, List.length_nil]; omega) | skip
              exact hD _
            refine S_round (j + 1, 10 * n + s[j].toNat - 48) (by show s.length - (j + 1) < s.length - j; omega) ⟨by show i ≤ j + 1; omega, hlt, hst, ?_⟩ (.cons rfl (.cons rfl (.cons rfl (.cons ?_ (.nil _))))) ?_
            · show NatR (cutT s i (j + 1)) (10 * n + s[j].toNat - 48)
              obtain ⟨q1, q2, q3⟩ := hn
              rw [hsn]
              refine ⟨fun h => ?_, fun h => ?_, by omega⟩
              · rw [natOf_snoc] at h ⊢
                have := q1 (by omega)
                omega
              · rw [natOf_snoc] at h
                by_cases hq : natOf (cutT s i j) ≤ 9007199254740991
                · have := q1 hq; omega
                · have := q2 (by omega); omega
            · show AV.int .i64 (IntKind.i64.wrap (IntKind.i64.wrap (IntKind.i64.wrap (10 * ((n : Nat) : Int)) + IntKind.i64.wrap (((s.getD ((j : Nat) : Int).toNat 0).toNat : Nat) : Int)) - 48)) = .int .i64 ((10 * n + s[j].toNat - 48 : Nat) : Int)
              rw [hgj, IntWalk.i64_in (10 * ((n : Nat) : Int)) ⟨by omega, by omega⟩, IntWalk.i64_in ((s[j].toNat : Nat) : Int) ⟨by omega, by omega⟩, IntWalk.i64_in (10 * ((n : Nat) : Int) + _) ⟨by omega, by omega⟩, IntWalk.i64_in _ ⟨by omega, by omega⟩]
              congr 1; omega
            · show rsA v u w s (IntKind.i64.wrap ((j : Nat) + 1)) (o : Nat) ins out = _
              rw [hwj]; rfl
          · refine pa [.b true, .v (.bool true), .b true, .b false] rfl ?_ ?_
            · (repeat' with_reducible apply AllP_cons) <;> first | exact trivial | assumption | omega | rfl | exact decide_eq_true (by omega) | exact decide_eq_false (by omega) | (rw [IntWalk.i64_in _ ⟨by omega, by omega⟩]; omega) | exact allOne_mem rfl | exact Nat.le_of_ble_eq_true rfl | (simp only [List.length_cons, List.length_nil]; omega) | skip
              exact hD _
            refine S_round (j + 1, n) (by show s.length - (j + 1) < s.length - j; omega) ⟨by show i ≤ j + 1; omega, hlt, hst, ?_⟩ (.cons rfl (.cons rfl (.cons rfl (.cons rfl (.nil _))))) ?_
            · show NatR (cutT s i (j + 1)) n
              obtain ⟨q1, q2, q3⟩ := hn
              rw [hsn]
              refine ⟨fun h => ?_, fun h => by omega, q3⟩
              rw [natOf_snoc] at h
              have := q1 (by omega)
              omega
            · show rsA v u w s (IntKind.i64.wrap ((j : Nat) + 1)) (o : Nat) ins out = _
              rw [hwj]; rfl
        · have hjJ : j = J := by
            by_cases hlt : j < s.length
            · have l2 : isDg s[j] = false := by
                cases e : isDg s[j] with
                | false => rfl
                | true => exact absurd ⟨hlt, e⟩ hgo
              rw [← h3]; exact (stopAt_no hlt l2).symm
            · rw [← h3]; exact (stopAt_end (by omega)).symm
          subst hjJ
          rw [← ht] at hn
          refine' S_shareO [(0, .ptr 0 v 0), (3, .int .i64 i), (4, .int .u8 (((s.getD ((i : Nat) : Int).toNat 0).toNat : Nat) : Int)), (6, .int .i64 n), (186, .bool (decide (((n : Nat) : Int) > 9007199254740991)))] (rsH v u w s j o ins out) (fun cont => ?main) ?rest
          case main =>
            by_cases hlt : j < s.length
            · have hgj : (((s.getD ((j : Nat) : Int).toNat 0).toNat : Nat) : Int) = ((s[j].toNat : Nat) : Int) := by rw [Int.toNat_natCast, getD_byte hlt]
              have hj2 : (0 : Int) ≤ ((j : Nat) : Int) ∧ ((j : Nat) : Int) < ((s.length : Nat) : Int) := by omega
              have hD := fun σ => digA s[j] _ σ hgj
              have l2 : isDg s[j] = false := by
                cases e : isDg s[j] with
                | false => rfl
                | true => exact absurd ⟨hlt, e⟩ hgo
              rw [l2] at hD
              refine pa [.b true, .v (.bool false), .b false] rfl ?_ ?_
              · (repeat' with_reducible apply AllP_cons) <;> first | exact trivial | assumption | omega | rfl | exact decide_eq_true (by omega) | exact decide_eq_false (by omega) | (rw [IntWalk.i64_in _ ⟨by omega, by omega⟩]; omega) | exact allOne_mem rfl | exact Nat.le_of_ble_eq_true rfl | (simp only [List.length_cons, List.length_nil]; omega) | skip
                exact hD _
              exact cont _ (.cons rfl (.cons rfl (.cons rfl (.cons rfl (.cons rfl (.nil _))))))
            · refine pa [.b false, .b false] rfl ?_ ?_
              · (repeat' with_reducible apply AllP_cons) <;> first | exact trivial | assumption | omega | rfl | exact decide_eq_true (by omega) | exact decide_eq_false (by omega) | (rw [IntWalk.i64_in _ ⟨by omega, by omega⟩]; omega) | exact allOne_mem rfl | exact Nat.le_of_ble_eq_true rfl | (simp only [List.length_cons, List.length_nil]; omega) | skip
              exact cont _ (.cons rfl (.cons rfl (.cons rfl (.cons rfl (.cons rfl (.nil _))))))
          case rest =>
            have hnr := hn
            by_cases hb : 9007199254740991 < natOf t
            · rw [if_pos (.inl hb)]
              have hbig := hnr.2.1 hb
              refine pa [.b true, .b true] rfl ?_ ?_
              · (repeat' with_reducible apply AllP_cons) <;> first | exact trivial | assumption | omega | rfl | exact decide_eq_true (by omega) | exact decide_eq_false (by omega) | (rw [IntWalk.i64_in _ ⟨by omega, by omega⟩]; omega) | exact allOne_mem rfl | exact Nat.le_of_ble_eq_true rfl | (simp only [List.length_cons, List.length_nil]; omega) | skip
              exact S_ret ⟨_, _, rfl, trivial, rfl, u, w, o, ins, out, rfl⟩
            · have hnn : n = natOf t := hnr.1 (by omega)
              have hsm : n ≤ 9007199254740991 := by omega
              by_cases z : s[i] = 48
              · have ez : ((((s.getD ((i : Nat) : Int).toNat 0).toNat : Nat) : Int) == 48) = true := by rw [hgc, z]; rfl
                by_cases z2 : i + 1 < j
                · rw [if_pos (.inr ⟨z, z2⟩)]
                  have ew : decide (((j : Nat) : Int) > IntKind.i64.wrap (((i : Nat) : Int) + 1)) = true := by rw [IntWalk.i64_in _ ⟨by omega, by omega⟩]; exact decide_eq_true (by omega)
                  refine pa [.b false, .b true, .b true] rfl ?_ ?_
                  · (repeat' with_reducible apply AllP_cons) <;> first | exact trivial | assumption | omega | rfl | exact decide_eq_true (by omega) | exact decide_eq_false (by omega) | (rw [IntWalk.i64_in _ ⟨by omega, by omega⟩]; omega) | exact allOne_mem rfl | exact Nat.le_of_ble_eq_true rfl | (simp only [List.length_cons, List.length_nil]; omega) | skip
                  exact S_ret ⟨_, _, rfl, trivial, rfl, u, w, o, ins, out, rfl⟩
                · rw [if_neg (by rintro (h | ⟨_, h⟩); exact hb h; exact z2 h)]
                  have ew : decide (((j : Nat) : Int) > IntKind.i64.wrap (((i : Nat) : Int) + 1)) = false := by rw [IntWalk.i64_in _ ⟨by omega, by omega⟩]; exact decide_eq_false (by omega)
                  refine pa [.b false, .b true, .b false] rfl ?_ ?_
                  · (repeat' with_reducible apply AllP_cons) <;> first | exact trivial | assumption | omega | rfl | exact decide_eq_true (by omega) | exact decide_eq_false (by omega) | (rw [IntWalk.i64_in _ ⟨by omega, by omega⟩]; omega) | exact allOne_mem rfl | exact Nat.le_of_ble_eq_true rfl | (simp only [List.length_cons, List.length_nil]; omega) | skip
                  refine S_drawCN [rsB v s j o (insV u ins) (outV w out), insB u ins, (w + 1, some (Box.cells (out.flatMap tokC ++ [.int .i64 2, .str (cutL (some ((i : Nat) : Int)) (some ((j : Nat) : Int)) s), .int .i64 (n : Nat), .int .i64 i]) ⟨false, none⟩))] 19 22 [] [.ms 2 (w + 1) 0 (out.length + 1) 4 false] rfl rfl rfl rfl rfl ?_ ?_
                  · (repeat' with_reducible apply AllP_cons) <;> first | exact trivial | assumption | omega | rfl | exact decide_eq_true (by omega) | exact decide_eq_false (by omega) | (rw [IntWalk.i64_in _ ⟨by omega, by omega⟩]; omega) | exact allOne_mem rfl | exact Nat.le_of_ble_eq_true rfl | (simp only [List.length_cons, List.length_nil]; omega) | skip
                    · show 0 + out.length * 4 = _; rw [tokC_len]; omega
                    · show (out.length + 1) * 40 ≤ 140737488355328; omega
                  refine pa [] rfl ?_ ?_
                  · (repeat' with_reducible apply AllP_cons) <;> first | exact trivial | assumption | omega | rfl | exact decide_eq_true (by omega) | exact decide_eq_false (by omega) | (rw [IntWalk.i64_in _ ⟨by omega, by omega⟩]; omega) | exact allOne_mem rfl | exact Nat.le_of_ble_eq_true rfl | (simp only [List.length_cons, List.length_nil]; omega) | skip
                  refine S_ret ⟨_, _, rfl, trivial, u, w + 1, rfl, ?_⟩
                  show [rsB v s j o (insV u ins) (.ms 2 (w + 1) 0 (out.length + 1) 4 false), insB u ins, (w + 1, some (Box.cells (out.flatMap tokC ++ [.int .i64 2, .str (cutL (some ((i : Nat) : Int)) (some ((j : Nat) : Int)) s), .int .i64 (n : Nat), .int .i64 i]) ⟨false, none⟩))] = _
                  rw [hcut, hnn]
                  unfold rsH outV outB
                  rw [List.length_append, List.flatMap_append]; rfl
              · rw [if_neg (by rintro (h | ⟨h, _⟩); exact hb h; exact z h)]
                have ez : ((((s.getD ((i : Nat) : Int).toNat 0).toNat : Nat) : Int) == 48) = false := by rw [hgc]; exact beq_false_of_ne (fun h => z (UInt8.toNat_inj.1 (by show s[i].toNat = 48; omega)))
                refine pa [.b false, .b false, .b false] rfl ?_ ?_
                · (repeat' with_reducible apply AllP_cons) <;> first | exact trivial | assumption | omega | rfl | exact decide_eq_true (by omega) | exact decide_eq_false (by omega) | (rw [IntWalk.i64_in _ ⟨by omega, by omega⟩]; omega) | exact allOne_mem rfl | exact Nat.le_of_ble_eq_true rfl | (simp only [List.length_cons, List.length_nil]; omega) | skip
                refine S_drawCN [rsB v s j o (insV u ins) (outV w out), insB u ins, (w + 1, some (Box.cells (out.flatMap tokC ++ [.int .i64 2, .str (cutL (some ((i : Nat) : Int)) (some ((j : Nat) : Int)) s), .int .i64 (n : Nat), .int .i64 i]) ⟨false, none⟩))] 19 22 [] [.ms 2 (w + 1) 0 (out.length + 1) 4 false] rfl rfl rfl rfl rfl ?_ ?_
                · (repeat' with_reducible apply AllP_cons) <;> first | exact trivial | assumption | omega | rfl | exact decide_eq_true (by omega) | exact decide_eq_false (by omega) | (rw [IntWalk.i64_in _ ⟨by omega, by omega⟩]; omega) | exact allOne_mem rfl | exact Nat.le_of_ble_eq_true rfl | (simp only [List.length_cons, List.length_nil]; omega) | skip
                  · show 0 + out.length * 4 = _; rw [tokC_len]; omega
                  · show (out.length + 1) * 40 ≤ 140737488355328; omega
                refine pa [] rfl ?_ ?_
                · (repeat' with_reducible apply AllP_cons) <;> first | exact trivial | assumption | omega | rfl | exact decide_eq_true (by omega) | exact decide_eq_false (by omega) | (rw [IntWalk.i64_in _ ⟨by omega, by omega⟩]; omega) | exact allOne_mem rfl | exact Nat.le_of_ble_eq_true rfl | (simp only [List.length_cons, List.length_nil]; omega) | skip
                refine S_ret ⟨_, _, rfl, trivial, u, w + 1, rfl, ?_⟩
                show [rsB v s j o (insV u ins) (.ms 2 (w + 1) 0 (out.length + 1) 4 false), insB u ins, (w + 1, some (Box.cells (out.flatMap tokC ++ [.int .i64 2, .str (cutL (some ((i : Nat) : Int)) (some ((j : Nat) : Int)) s), .int .i64 (n : Nat), .int .i64 i]) ⟨false, none⟩))] = _
                rw [hcut, hnn]
                unfold rsH outV outB
                rw [List.length_append, List.flatMap_append]; rfl

theorem oneSig_ok (v u w : Nat) (s : List UInt8) (i o : Nat) (ins : List Nat) (out : List Tok) (hi : i < s.length) (hs : s.length ≤ 1048576) (ho : o ≤ 30) (hl : out.length ≤ 900000) (c1 : ¬ isLet s[i] = true) (c2 : ¬ isDg s[i] = true) :
    CallOk cx 23 [.ptr 0 v 0] (rsH v u w s i o ins out) (RsEnd s (endS (oneS s i o) ins out) v) :=
  callOk_intro (fun a w => Tryd.call23 a w) Tryd.func23 rfl Tryd.ntmps23 rfl fun B => by
    have hgc : (((s.getD ((i : Nat) : Int).toNat 0).toNat : Nat) : Int) = ((s[i].toNat : Nat) : Int) := by rw [Int.toNat_natCast, getD_byte hi]
    have hi2 : (0 : Int) ≤ ((i : Nat) : Int) ∧ ((i : Nat) : Int) < ((s.length : Nat) : Int) := by omega
    have hgd : s.getD i 0 = s[i] := getD_byte hi
    have letA : ∀ (c : UInt8) (x : Int) σ, x = ((c.toNat : Nat) : Int) → ∃ args', Calc cx 29 args' (.bool (isLet c)) ∧ Frzs σ [.int .u8 x] args' := fun c x σ h => by
      rw [h]; exact ⟨_, IsLetterByte_ok c, .cons (.refl .int) (.nil _)⟩
    have digA : ∀ (c : UInt8) (x : Int) σ, x = ((c.toNat : Nat) : Int) → ∃ args', Calc cx 30 args' (.bool (isDg c)) ∧ Frzs σ [.int .u8 x] args' := fun c x σ h => by
      rw [h]; exact ⟨_, IsDigitByte_ok c, .cons (.refl .int) (.nil _)⟩
    have hLet := fun σ => letA s[i] _ σ hgc
    have hDig := fun σ => digA s[i] _ σ hgc
    unfold oneS
    rw [hgd]
    · rw [if_neg c1]
      rw [Bool.not_eq_true] at c1
      rw [c1] at hLet
      · rw [if_neg c2]
        rw [Bool.not_eq_true] at c2
        rw [c2] at hDig
        by_cases c3 : s[i] = 34
        · rw [if_pos c3]
          have e3 : ((((s.getD ((i : Nat) : Int).toNat 0).toNat : Nat) : Int) == 34) = true := by rw [hgc, c3]; rfl
          refine pa [.v (.bool false), .b false, .v (.bool false), .b false, .b true] rfl ?_ ?_
          · (repeat' with_reducible apply AllP_cons) <;> first | exact trivial | assumption | omega | rfl | exact decide_eq_true (by omega) | exact decide_eq_false (by omega) | (rw [IntWalk.i64_in _ ⟨by omega, by omega⟩]; omega) | exact allOne_mem rfl | exact Nat.le_of_ble_eq_true rfl | (simp only [List.length_cons, List.length_nil]; omega) | skip
            · exact hLet _
            · exact hDig _
          refine S_call rfl rfl rfl (quoted_ok v u w s i o ins out hi hs hl) (fun r σ' h => ?_) (fun r σ' h => ?_)
          · obtain ⟨m, rfl⟩ := h.ret0
            refine pa [] rfl trivial ?_
            exact S_ret ⟨_, _, rfl, trivial, h⟩
          · unfold RsEnd at h
            split at h
            · cases h.1
            · obtain ⟨_, _, h, _⟩ := h; cases h
        · rw [if_neg c3]
          have e3 : ((((s.getD ((i : Nat) : Int).toNat 0).toNat : Nat) : Int) == 34) = false := by rw [hgc]; exact beq_false_of_ne (fun h => c3 (UInt8.toNat_inj.1 (by show s[i].toNat = 34; omega)))
          have hSg : ∀ σ, ∃ args', Calc cx 33 args' (.str ((signAt s i).getD [])) ∧ Frzs σ [.str s, .int .i64 i] args' := fun σ => ⟨_, SignAt_ok s i hi hs, .cons (.refl .str) (.cons (.refl .int) (.nil _))⟩
          have hw1 : IntKind.i64.wrap ((o : Nat) + 1) = ((o + 1 : Nat) : Int) := by rw [IntWalk.i64_in _ ⟨by omega, by omega⟩]; omega
          cases hsg : signAt s i with
          | none =>
            rw [hsg] at hSg
            refine pa [.v (.bool false), .b false, .v (.bool false), .b false, .b false, .v (.str []), .b true] rfl ?_ ?_
            · (repeat' with_reducible apply AllP_cons) <;> first | exact trivial | assumption | omega | rfl | exact decide_eq_true (by omega) | exact decide_eq_false (by omega) | (rw [IntWalk.i64_in _ ⟨by omega, by omega⟩]; omega) | exact allOne_mem rfl | exact Nat.le_of_ble_eq_true rfl | (simp only [List.length_cons, List.length_nil]; omega) | skip
              · exact hLet _
              · exact hDig _
              · exact hSg _
            exact S_ret ⟨_, _, rfl, trivial, rfl, u, w, o, ins, out, rfl⟩
          | some t =>
            rw [hsg] at hSg
            simp only [Option.getD_some] at hSg
            have htl := signAt_le hsg
            have hwt : IntKind.i64.wrap ((i : Nat) + ((t.length : Nat) : Int)) = ((i + t.length : Nat) : Int) := by rw [IntWalk.i64_in _ ⟨by omega, by omega⟩]; omega
            have ht0 : (t == []) = false := beq_false_of_ne (fun h => by rw [h] at htl; simp at htl; omega)
            refine pa [.v (.bool false), .b false, .v (.bool false), .b false, .b false, .v (.str t)] rfl ?_ ?_
            · (repeat' with_reducible apply AllP_cons) <;> first | exact trivial | assumption | omega | rfl | exact decide_eq_true (by omega) | exact decide_eq_false (by omega) | (rw [IntWalk.i64_in _ ⟨by omega, by omega⟩]; omega) | exact allOne_mem rfl | exact Nat.le_of_ble_eq_true rfl | (simp only [List.length_cons, List.length_nil]; omega) | skip
              · exact hLet _
              · exact hDig _
              · exact hSg _
            simp only
            by_cases q0 : t = [40]
            · subst q0
              rw [if_pos (by decide)]
              by_cases o1 : 30 ≤ o
              · rw [if_pos o1]
                refine pa [.b false, .b true, .b true, .b true] rfl ?_ ?_
                · (repeat' with_reducible apply AllP_cons) <;> first | exact trivial | assumption | omega | rfl | exact decide_eq_true (by omega) | exact decide_eq_false (by omega) | (rw [IntWalk.i64_in _ ⟨by omega, by omega⟩]; omega) | exact allOne_mem rfl | exact Nat.le_of_ble_eq_true rfl | (simp only [List.length_cons, List.length_nil]; omega) | skip
                exact S_ret ⟨_, _, rfl, trivial, rfl, u, w, o, ins, out, rfl⟩
              · rw [if_neg o1]
                refine pa [.b false, .b true, .b true, .b false] rfl ?_ ?_
                · (repeat' with_reducible apply AllP_cons) <;> first | exact trivial | assumption | omega | rfl | exact decide_eq_true (by omega) | exact decide_eq_false (by omega) | (rw [IntWalk.i64_in _ ⟨by omega, by omega⟩]; omega) | exact allOne_mem rfl | exact Nat.le_of_ble_eq_true rfl | (simp only [List.length_cons, List.length_nil]; omega) | skip
                refine S_heap (rsH v u w s i (o + 1) ins out) ?_ ?_
                · show rsA v u w s i (IntKind.i64.wrap ((o : Nat) + 1)) ins out = _
                  rw [hw1]; rfl
                refine pa [.c (.tup []) (rsH v u (w + 1) s i (o + 1) ins (out ++ [⟨4, ([40] : List UInt8), 0, i⟩]))] rfl ?_ ?_
                · (repeat' with_reducible apply AllP_cons) <;> first | exact trivial | assumption | omega | rfl | exact decide_eq_true (by omega) | exact decide_eq_false (by omega) | (rw [IntWalk.i64_in _ ⟨by omega, by omega⟩]; omega) | exact allOne_mem rfl | exact Nat.le_of_ble_eq_true rfl | (simp only [List.length_cons, List.length_nil]; omega) | skip
                  exact rputH v u w s i (o + 1) ins out 4 ([40] : List UInt8) i (by omega)
                refine S_heap (rsH v u (w + 1) s (i + ([40] : List UInt8).length) (o + 1) ins (out ++ [⟨4, ([40] : List UInt8), 0, i⟩])) ?_ ?_
                · show rsA v u (w + 1) s (IntKind.i64.wrap ((i : Nat) + ((([40] : List UInt8).length : Nat) : Int))) (((o + 1) : Nat) : Int) ins (out ++ [⟨4, ([40] : List UInt8), 0, i⟩]) = _
                  rw [hwt]; rfl
                exact S_ret ⟨_, _, rfl, trivial, u, w + 1, rfl, rfl⟩
            have n0 : (t == [40]) = false := beq_false_of_ne q0
            by_cases q1 : t = [91]
            · subst q1
              rw [if_pos (by decide)]
              by_cases o1 : 30 ≤ o
              · rw [if_pos o1]
                refine pa [.b false, .b false, .b true, .b true, .b true] rfl ?_ ?_
                · (repeat' with_reducible apply AllP_cons) <;> first | exact trivial | assumption | omega | rfl | exact decide_eq_true (by omega) | exact decide_eq_false (by omega) | (rw [IntWalk.i64_in _ ⟨by omega, by omega⟩]; omega) | exact allOne_mem rfl | exact Nat.le_of_ble_eq_true rfl | (simp only [List.length_cons, List.length_nil]; omega) | skip
                exact S_ret ⟨_, _, rfl, trivial, rfl, u, w, o, ins, out, rfl⟩
              · rw [if_neg o1]
                refine pa [.b false, .b false, .b true, .b true, .b false] rfl ?_ ?_
                · (repeat' with_reducible apply AllP_cons) <;> first | exact trivial | assumption | omega | rfl | exact decide_eq_true (by omega) | exact decide_eq_false (by omega) | (rw [IntWalk.i64_in _ ⟨by omega, by omega⟩]; omega) | exact allOne_mem rfl | exact Nat.le_of_ble_eq_true rfl | (simp only [List.length_cons, List.length_nil]; omega) | skip
                refine S_heap (rsH v u w s i (o + 1) ins out) ?_ ?_
                · show rsA v u w s i (IntKind.i64.wrap ((o : Nat) + 1)) ins out = _
                  rw [hw1]; rfl
                refine pa [.c (.tup []) (rsH v u (w + 1) s i (o + 1) ins (out ++ [⟨4, ([91] : List UInt8), 0, i⟩]))] rfl ?_ ?_
                · (repeat' with_reducible apply AllP_cons) <;> first | exact trivial | assumption | omega | rfl | exact decide_eq_true (by omega) | exact decide_eq_false (by omega) | (rw [IntWalk.i64_in _ ⟨by omega, by omega⟩]; omega) | exact allOne_mem rfl | exact Nat.le_of_ble_eq_true rfl | (simp only [List.length_cons, List.length_nil]; omega) | skip
                  exact rputH v u w s i (o + 1) ins out 4 ([91] : List UInt8) i (by omega)
                refine S_heap (rsH v u (w + 1) s (i + ([91] : List UInt8).length) (o + 1) ins (out ++ [⟨4, ([91] : List UInt8), 0, i⟩])) ?_ ?_
                · show rsA v u (w + 1) s (IntKind.i64.wrap ((i : Nat) + ((([91] : List UInt8).length : Nat) : Int))) (((o + 1) : Nat) : Int) ins (out ++ [⟨4, ([91] : List UInt8), 0, i⟩]) = _
                  rw [hwt]; rfl
                exact S_ret ⟨_, _, rfl, trivial, u, w + 1, rfl, rfl⟩
            have n1 : (t == [91]) = false := beq_false_of_ne q1
            by_cases q2 : t = [123]
            · subst q2
              rw [if_pos (by decide)]
              by_cases o1 : 30 ≤ o
              · rw [if_pos o1]
                refine pa [.b false, .b false, .b false, .b true, .b true] rfl ?_ ?_
                · (repeat' with_reducible apply AllP_cons) <;> first | exact trivial | assumption | omega | rfl | exact decide_eq_true (by omega) | exact decide_eq_false (by omega) | (rw [IntWalk.i64_in _ ⟨by omega, by omega⟩]; omega) | exact allOne_mem rfl | exact Nat.le_of_ble_eq_true rfl | (simp only [List.length_cons, List.length_nil]; omega) | skip
                exact S_ret ⟨_, _, rfl, trivial, rfl, u, w, o, ins, out, rfl⟩
              · rw [if_neg o1]
                refine pa [.b false, .b false, .b false, .b true, .b false] rfl ?_ ?_
                · (repeat' with_reducible apply AllP_cons) <;> first | exact trivial | assumption | omega | rfl | exact decide_eq_true (by omega) | exact decide_eq_false (by omega) | (rw [IntWalk.i64_in _ ⟨by omega, by omega⟩]; omega) | exact allOne_mem rfl | exact Nat.le_of_ble_eq_true rfl | (simp only [List.length_cons, List.length_nil]; omega) | skip
                refine S_heap (rsH v u w s i (o + 1) ins out) ?_ ?_
                · show rsA v u w s i (IntKind.i64.wrap ((o : Nat) + 1)) ins out = _
                  rw [hw1]; rfl
                refine pa [.c (.tup []) (rsH v u (w + 1) s i (o + 1) ins (out ++ [⟨4, ([123] : List UInt8), 0, i⟩]))] rfl ?_ ?_
                · (repeat' with_reducible apply AllP_cons) <;> first | exact trivial | assumption | omega | rfl | exact decide_eq_true (by omega) | exact decide_eq_false (by omega) | (rw [IntWalk.i64_in _ ⟨by omega, by omega⟩]; omega) | exact allOne_mem rfl | exact Nat.le_of_ble_eq_true rfl | (simp only [List.length_cons, List.length_nil]; omega) | skip
                  exact rputH v u w s i (o + 1) ins out 4 ([123] : List UInt8) i (by omega)
                refine S_heap (rsH v u (w + 1) s (i + ([123] : List UInt8).length) (o + 1) ins (out ++ [⟨4, ([123] : List UInt8), 0, i⟩])) ?_ ?_
                · show rsA v u (w + 1) s (IntKind.i64.wrap ((i : Nat) + ((([123] : List UInt8).length : Nat) : Int))) (((o + 1) : Nat) : Int) ins (out ++ [⟨4, ([123] : List UInt8), 0, i⟩]) = _
                  rw [hwt]; rfl
                exact S_ret ⟨_, _, rfl, trivial, u, w + 1, rfl, rfl⟩
            have n2 : (t == [123]) = false := beq_false_of_ne q2
            rw [if_neg (by rw [opens_iff]; rintro (h | h | h); exact q0 h; exact q1 h; exact q2 h)]
            by_cases q3 : t = [41]
            · subst q3
              rw [if_pos (by decide)]
              by_cases o1 : o = 0
              · rw [if_pos o1]
                refine pa [.b false, .b false, .b false, .b false, .b true, .b true, .b true] rfl ?_ ?_
                · (repeat' with_reducible apply AllP_cons) <;> first | exact trivial | assumption | omega | rfl | exact decide_eq_true (by omega) | exact decide_eq_false (by omega) | (rw [IntWalk.i64_in _ ⟨by omega, by omega⟩]; omega) | exact allOne_mem rfl | exact Nat.le_of_ble_eq_true rfl | (simp only [List.length_cons, List.length_nil]; omega) | skip
                exact S_ret ⟨_, _, rfl, trivial, rfl, u, w, o, ins, out, rfl⟩
              · rw [if_neg o1]
                have hwm : IntKind.i64.wrap ((o : Nat) - 1) = ((o - 1 : Nat) : Int) := by rw [IntWalk.i64_in _ ⟨by omega, by omega⟩]; omega
                refine pa [.b false, .b false, .b false, .b false, .b true, .b true, .b false] rfl ?_ ?_
                · (repeat' with_reducible apply AllP_cons) <;> first | exact trivial | assumption | omega | rfl | exact decide_eq_true (by omega) | exact decide_eq_false (by omega) | (rw [IntWalk.i64_in _ ⟨by omega, by omega⟩]; omega) | exact allOne_mem rfl | exact Nat.le_of_ble_eq_true rfl | (simp only [List.length_cons, List.length_nil]; omega) | skip
                refine S_heap (rsH v u w s i (o - 1) ins out) ?_ ?_
                · show rsA v u w s i (IntKind.i64.wrap ((o : Nat) - 1)) ins out = _
                  rw [hwm]; rfl
                refine pa [.c (.tup []) (rsH v u (w + 1) s i (o - 1) ins (out ++ [⟨4, ([41] : List UInt8), 0, i⟩]))] rfl ?_ ?_
                · (repeat' with_reducible apply AllP_cons) <;> first | exact trivial | assumption | omega | rfl | exact decide_eq_true (by omega) | exact decide_eq_false (by omega) | (rw [IntWalk.i64_in _ ⟨by omega, by omega⟩]; omega) | exact allOne_mem rfl | exact Nat.le_of_ble_eq_true rfl | (simp only [List.length_cons, List.length_nil]; omega) | skip
                  exact rputH v u w s i (o - 1) ins out 4 ([41] : List UInt8) i (by omega)
                refine S_heap (rsH v u (w + 1) s (i + ([41] : List UInt8).length) (o - 1) ins (out ++ [⟨4, ([41] : List UInt8), 0, i⟩])) ?_ ?_
                · show rsA v u (w + 1) s (IntKind.i64.wrap ((i : Nat) + ((([41] : List UInt8).length : Nat) : Int))) (((o - 1) : Nat) : Int) ins (out ++ [⟨4, ([41] : List UInt8), 0, i⟩]) = _
                  rw [hwt]; rfl
                exact S_ret ⟨_, _, rfl, trivial, u, w + 1, rfl, rfl⟩
            have n3 : (t == [41]) = false := beq_false_of_ne q3
            by_cases q4 : t = [93]
            · subst q4
              rw [if_pos (by decide)]
              by_cases o1 : o = 0
              · rw [if_pos o1]
                refine pa [.b false, .b false, .b false, .b false, .b false, .b true, .b true, .b true] rfl ?_ ?_
                · (repeat' with_reducible apply AllP_cons) <;> first | exact trivial | assumption | omega | rfl | exact decide_eq_true (by omega) | exact decide_eq_false (by omega) | (rw [IntWalk.i64_in _ ⟨by omega, by omega⟩]; omega) | exact allOne_mem rfl | exact Nat.le_of_ble_eq_true rfl | (simp only [List.length_cons, List.length_nil]; omega) | skip
                exact S_ret ⟨_, _, rfl, trivial, rfl, u, w, o, ins, out, rfl⟩
              · rw [if_neg o1]
                have hwm : IntKind.i64.wrap ((o : Nat) - 1) = ((o - 1 : Nat) : Int) := by rw [IntWalk.i64_in _ ⟨by omega, by omega⟩]; omega
                refine pa [.b false, .b false, .b false, .b false, .b false, .b true, .b true, .b false] rfl ?_ ?_
                · (repeat' with_reducible apply AllP_cons) <;> first | exact trivial | assumption | omega | rfl | exact decide_eq_true (by omega) | exact decide_eq_false (by omega) | (rw [IntWalk.i64_in _ ⟨by omega, by omega⟩]; omega) | exact allOne_mem rfl | exact Nat.le_of_ble_eq_true rfl | (simp only [List.length_cons, List.length_nil]; omega) | skip
                refine S_heap (rsH v u w s i (o - 1) ins out) ?_ ?_
                · show rsA v u w s i (IntKind.i64.wrap ((o : Nat) - 1)) ins out = _
                  rw [hwm]; rfl
                refine pa [.c (.tup []) (rsH v u (w + 1) s i (o - 1) ins (out ++ [⟨4, ([93] : List UInt8), 0, i⟩]))] rfl ?_ ?_
                · (repeat' with_reducible apply AllP_cons) <;> first | exact trivial | assumption | omega | rfl | exact decide_eq_true (by omega) | exact decide_eq_false (by omega) | (rw [IntWalk.i64_in _ ⟨by omega, by omega⟩]; omega) | exact allOne_mem rfl | exact Nat.le_of_ble_eq_true rfl | (simp only [List.length_cons, List.length_nil]; omega) | skip
                  exact rputH v u w s i (o - 1) ins out 4 ([93] : List UInt8) i (by omega)
                refine S_heap (rsH v u (w + 1) s (i + ([93] : List UInt8).length) (o - 1) ins (out ++ [⟨4, ([93] : List UInt8), 0, i⟩])) ?_ ?_
                · show rsA v u (w + 1) s (IntKind.i64.wrap ((i : Nat) + ((([93] : List UInt8).length : Nat) : Int))) (((o - 1) : Nat) : Int) ins (out ++ [⟨4, ([93] : List UInt8), 0, i⟩]) = _
                  rw [hwt]; rfl
                exact S_ret ⟨_, _, rfl, trivial, u, w + 1, rfl, rfl⟩
            have n4 : (t == [93]) = false := beq_false_of_ne q4
            by_cases q5 : t = [125]
            · subst q5
              rw [if_pos (by decide)]
              by_cases o1 : o = 0
              · rw [if_pos o1]
                refine pa [.b false, .b false, .b false, .b false, .b false, .b false, .b true, .b true] rfl ?_ ?_
                · (repeat' with_reducible apply AllP_cons) <;> first | exact trivial | assumption | omega | rfl | exact decide_eq_true (by omega) | exact decide_eq_false (by omega) | (rw [IntWalk.i64_in _ ⟨by omega, by omega⟩]; omega) | exact allOne_mem rfl | exact Nat.le_of_ble_eq_true rfl | (simp only [List.length_cons, List.length_nil]; omega) | skip
                exact S_ret ⟨_, _, rfl, trivial, rfl, u, w, o, ins, out, rfl⟩
              · rw [if_neg o1]
                have hwm : IntKind.i64.wrap ((o : Nat) - 1) = ((o - 1 : Nat) : Int) := by rw [IntWalk.i64_in _ ⟨by omega, by omega⟩]; omega
                refine pa [.b false, .b false, .b false, .b false, .b false, .b false, .b true, .b false] rfl ?_ ?_
                · (repeat' with_reducible apply AllP_cons) <;> first | exact trivial | assumption | omega | rfl | exact decide_eq_true (by omega) | exact decide_eq_false (by omega) | (rw [IntWalk.i64_in _ ⟨by omega, by omega⟩]; omega) | exact allOne_mem rfl | exact Nat.le_of_ble_eq_true rfl | (simp only [List.length_cons, List.length_nil]; omega) | skip
                refine S_heap (rsH v u w s i (o - 1) ins out) ?_ ?_
                · show rsA v u w s i (IntKind.i64.wrap ((o : Nat) - 1)) ins out = _
                  rw [hwm]; rfl
                refine pa [.c (.tup []) (rsH v u (w + 1) s i (o - 1) ins (out ++ [⟨4, ([125] : List UInt8), 0, i⟩]))] rfl ?_ ?_
                · (repeat' with_reducible apply AllP_cons) <;> first | exact trivial | assumption | omega | rfl | exact decide_eq_true (by omega) | exact decide_eq_false (by omega) | (rw [IntWalk.i64_in _ ⟨by omega, by omega⟩]; omega) | exact allOne_mem rfl | exact Nat.le_of_ble_eq_true rfl | (simp only [List.length_cons, List.length_nil]; omega) | skip
                  exact rputH v u w s i (o - 1) ins out 4 ([125] : List UInt8) i (by omega)
                refine S_heap (rsH v u (w + 1) s (i + ([125] : List UInt8).length) (o - 1) ins (out ++ [⟨4, ([125] : List UInt8), 0, i⟩])) ?_ ?_
                · show rsA v u (w + 1) s (IntKind.i64.wrap ((i : Nat) + ((([125] : List UInt8).length : Nat) : Int))) (((o - 1) : Nat) : Int) ins (out ++ [⟨4, ([125] : List UInt8), 0, i⟩]) = _
                  rw [hwt]; rfl
                exact S_ret ⟨_, _, rfl, trivial, u, w + 1, rfl, rfl⟩
            have n5 : (t == [125]) = false := beq_false_of_ne q5
            rw [if_neg (by rw [closes_iff]; rintro (h | h | h); exact q3 h; exact q4 h; exact q5 h)]
            refine pa [.b false, .b false, .b false, .b false, .b false, .b false, .b false] rfl ?_ ?_
            · (repeat' with_reducible apply AllP_cons) <;> first | exact trivial | assumption | omega | rfl | exact decide_eq_true (by omega) | exact decide_eq_false (by omega) | (rw [IntWalk.i64_in _ ⟨by omega, by omega⟩]; omega) | exact allOne_mem rfl | exact Nat.le_of_ble_eq_true rfl | (simp only [List.length_cons, List.length_nil]; omega) | skip

            refine pa [.c (.tup []) (rsH v u (w + 1) s i o ins (out ++ [⟨4, t, 0, i⟩]))] rfl ?_ ?_
            · (repeat' with_reducible apply AllP_cons) <;> first | exact trivial | assumption | omega | rfl | exact decide_eq_true (by omega) | exact decide_eq_false (by omega) | (rw [IntWalk.i64_in _ ⟨by omega, by omega⟩]; omega) | exact allOne_mem rfl | exact Nat.le_of_ble_eq_true rfl | (simp only [List.length_cons, List.length_nil]; omega) | skip
              exact rputH v u w s i o ins out 4 t i (by omega)
            refine S_heap (rsH v u (w + 1) s (i + t.length) o ins (out ++ [⟨4, t, 0, i⟩])) ?_ ?_
            · show rsA v u (w + 1) s (IntKind.i64.wrap ((i : Nat) + ((t.length : Nat) : Int))) ((o : Nat) : Int) ins (out ++ [⟨4, t, 0, i⟩]) = _
              rw [hwt]; rfl
            exact S_ret ⟨_, _, rfl, trivial, u, w + 1, rfl, rfl⟩

theorem one_ok (v u w : Nat) (s : List UInt8) (i o : Nat) (ins : List Nat) (out : List Tok) (hi : i < s.length) (hs : s.length ≤ 1048576) (ho : o ≤ 30) (hl : out.length ≤ 900000) :
    CallOk cx 23 [.ptr 0 v 0] (rsH v u w s i o ins out) (RsEnd s (endS (oneS s i o) ins out) v) := by
  by_cases c1 : isLet s[i] = true
  · exact oneLet_ok v u w s i o ins out hi hs ho hl c1
  · by_cases c2 : isDg s[i] = true
    · exact oneDig_ok v u w s i o ins out hi hs ho hl c1 c2
    · exact oneSig_ok v u w s i o ins out hi hs ho hl c1 c2

end Go.Proofs.YtkgmbnjdeokdkaaDoor
