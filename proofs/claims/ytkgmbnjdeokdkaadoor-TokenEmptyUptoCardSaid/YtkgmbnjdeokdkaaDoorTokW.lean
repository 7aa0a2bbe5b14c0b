/-
  The law TokenLevels: the walk.
-/
import Derived.Test.YtkgmbnjdeokdkaaDoorTokV
set_option linter.unusedVariables false
set_option linter.unusedSimpArgs false
set_option maxRecDepth 20000
namespace Go.Proofs.YtkgmbnjdeokdkaaDoor
open Go Go.Ab

theorem lvStep_some {n : Nat} {st : Option Lvl} {t : Tok} {r : Lvl} (h : lvStep n st t = some r) : ∃ q, st = some q ∧ q.at_ ≤ t.place ∧ t.place ≤ n ∧ 0 ≤ lvIn q.lv t.kind ∧ lvIn q.lv t.kind ≤ 30 ∧ ((t.kind = 7 ∨ t.kind = 8) → q.prev = 6 ∨ q.prev = 8) ∧ r = ⟨lvIn q.lv t.kind, t.place, t.kind⟩ := by
  cases st with
  | none => cases h
  | some q =>
    unfold lvStep at h
    simp only at h
    split at h
    · cases h
    · split at h
      · cases h
      · split at h
        · cases h
        · rename_i h1 h2 h3
          refine ⟨q, rfl, by omega, by omega, by omega, by omega, fun hk => ?_, (Option.some.inj h).symm⟩
          by_cases h6 : q.prev = 6
          · exact .inl h6
          · by_cases h8 : q.prev = 8
            · exact .inr h8
            · exact absurd ⟨hk, h6, h8⟩ h3

theorem lvl_none (n : Nat) (l : List Tok) : l.foldl (lvStep n) none = none := by
  induction l with
  | nil => rfl
  | cons t r ih => exact ih

theorem lvl_take {n : Nat} {l : List Tok} {r : Lvl} (h : lvl n l = some r) (i : Nat) : ∃ q, lvl n (l.take i) = some q := by
  rw [← List.take_append_drop i l, lvl_app] at h
  cases hq : lvl n (l.take i) with
  | none => rw [hq, lvl_none] at h; cases h
  | some q => exact ⟨q, rfl⟩

theorem lvl_prev {n : Nat} {l : List Tok} {i : Nat} {q : Lvl} (hi : i < l.length) (h : lvl n (l.take (i + 1)) = some q) : q.prev = l[i].kind := by
  rw [List.take_succ_eq_append_getElem hi, lvl_snoc] at h
  obtain ⟨_, _, _, _, _, _, _, rfl⟩ := lvStep_some h
  rfl

theorem TokenLevels_ok (s : List UInt8) (hs : s.length ≤ 1048576) : Calc cx 4 [.str s] (.bool true) :=
  pure_intro (fun a w => Tryd.call4 a w) Tryd.func4 rfl Tryd.ntmps4 rfl .bool fun B => by
    have hl := splitS_len s
    have h1 := Split_ok s
    obtain ⟨g1, g2⟩ := splitS_levels s
    generalize splitS s = q at h1 hl g1 g2
    obtain ⟨l, e⟩ := q
    simp only at hl g1 g2
    have hB : ∀ σ, ∃ args', Calc cx 9 args' (.bool true) ∧ Frzs σ [] args' := fun σ => ⟨_, tokenBegun_ok, .nil _⟩
    have hSp : ∀ σ, ∃ args', Calc cx 7 args' (splitAV (l, e)) ∧ Frzs σ [.str s] args' := fun σ => ⟨_, h1, .cons (.refl .str) (.nil _)⟩
    by_cases he : e.1 = 0
    · obtain ⟨a, p, hlv⟩ := g2 he
      refine pa [.v (.bool true), .b false, .v (splitAV (l, e)), .b false] rfl ?_ ?_
      · (repeat' with_reducible apply AllP_cons) <;> first | exact trivial | assumption | omega | rfl | exact decide_eq_true (by omega) | exact decide_eq_false (by omega) | (rw [IntWalk.i64_in _ ⟨by omega, by omega⟩]; omega) | exact allOne_mem rfl | exact Nat.le_of_ble_eq_true rfl | (simp only [List.length_cons, List.length_nil]; omega) | skip
        · exact hB _
        · exact hSp _
        · exact (by rw [he]; rfl : ((((e.1 : Nat) : Int)) != 0) = false)
      refine S_while (α := Nat × Lvl) (fun (i, q) => [(0, .str s), (3, .sl true false 4 (l.map tokA)), (5, .int .i64 q.lv), (6, .int .i64 (q.at_ : Nat)), (7, .int .i64 i)]) (fun _ => [xf e]) (fun (i, q) => i ≤ l.length ∧ lvl s.length (l.take i) = some q) (fun (i, q) => l.length - i) (0, ⟨0, 0, 6⟩)
        ⟨Nat.zero_le _, rfl⟩ (.cons rfl (.cons rfl (.cons rfl (.cons rfl (.cons rfl (.nil _)))))) rfl ?_
      rintro ⟨i, q⟩ ⟨hi, hq⟩
      have hi : i ≤ l.length := hi
      have hq : lvl s.length (l.take i) = some q := hq
      show S cx _ B _ _ [(0, .str s), (3, .sl true false 4 (l.map tokA)), (5, .int .i64 q.lv), (6, .int .i64 (q.at_ : Nat)), (7, .int .i64 i)] [xf e]
      have hln : (l.map tokA).length = l.length := by simp
      by_cases hlt : i < l.length
      · obtain ⟨q', hq'⟩ := lvl_take hlv (i + 1)
        have hst := hq'
        rw [List.take_succ_eq_append_getElem hlt, lvl_snoc, hq] at hst
        obtain ⟨q0, e0, c1, c2, c3, c4, c5, rfl⟩ := lvStep_some hst
        cases e0
        have hg := toks_get hlt
        have hpv : 0 < i → q.prev = (l[i - 1]'(by omega)).kind := fun h => by
          have := lvl_prev (n := s.length) (l := l) (i := i - 1) (q := q) (by omega) (by rw [show i - 1 + 1 = i by omega]; exact hq)
          exact this
        have hgp : 0 < i → (l.map tokA)[(IntKind.i64.wrap (((i : Nat) : Int) - 1)).toNat]? = some (tokA (l[i - 1]'(by omega))) := fun h => by
          rw [IntWalk.i64_in _ ⟨by omega, by omega⟩, show ((i : Nat) : Int) - 1 = ((i - 1 : Nat) : Int) by omega]; exact toks_get (by omega)
        by_cases k7 : l[i].kind = 7
        · have hk : l[i].kind = 7 := k7
          have hlvk : lvIn q.lv l[i].kind = q.lv + 1 := by rw [hk]; rfl
          rw [hlvk] at c3 c4
          have hw : IntKind.i64.wrap (q.lv + 1) = q.lv + 1 := IntWalk.i64_in _ ⟨by omega, by omega⟩
          have hwd : decide (IntKind.i64.wrap (q.lv + 1) < 0) = false := by rw [hw]; exact decide_eq_false (by omega)
          have hwd2 : decide (IntKind.i64.wrap (q.lv + 1) > 30) = false := by rw [hw]; exact decide_eq_false (by omega)
          by_cases i0 : i = 0
          · have i0' : ¬ 0 < i := by omega
            refine pa [.b true, .v (tokA l[i]), .b false, .v (tokA l[i]), .b false, .v (tokA l[i]), .v (tokA l[i]), .b true, .b false, .b false, .v (tokA l[i]), .b true, .b true, .b false, .b false, .b false] rfl ?_ ?_
            · (repeat' with_reducible apply AllP_cons) <;> first | exact trivial | assumption | omega | rfl | exact decide_eq_true (by omega) | exact decide_eq_false (by omega) | (rw [IntWalk.i64_in _ ⟨by omega, by omega⟩]; omega) | exact allOne_mem rfl | exact Nat.le_of_ble_eq_true rfl | (simp only [List.length_cons, List.length_nil]; omega) | skip
              all_goals first | exact hgp (by omega) | (rw [IntWalk.i64_in _ ⟨by omega, by omega⟩]; omega) | simp [*]
            refine S_round (i + 1, ⟨lvIn q.lv l[i].kind, l[i].place, l[i].kind⟩) (by show l.length - (i + 1) < l.length - i; omega) ⟨hlt, hq'⟩ (.cons rfl (.cons rfl (.cons ?_ (.cons rfl (.cons (ai64 rfl (by omega)) (.nil _)))))) rfl
            show AV.int .i64 (IntKind.i64.wrap (q.lv + 1)) = .int .i64 (lvIn q.lv l[i].kind)
            rw [hlvk, hw]
          have i1 : 0 < i := by omega
          have hp := c5 (by rw [hk]; decide)
          rw [hpv i1] at hp
          rcases hp with hp | hp
          · refine pa [.b true, .v (tokA l[i]), .b false, .v (tokA l[i]), .b false, .v (tokA l[i]), .v (tokA l[i]), .b true, .b false, .b false, .v (tokA l[i]), .b true, .b true, .b true, .v (tokA (l[i - 1]'(by omega))), .b false, .b false] rfl ?_ ?_
            · (repeat' with_reducible apply AllP_cons) <;> first | exact trivial | assumption | omega | rfl | exact decide_eq_true (by omega) | exact decide_eq_false (by omega) | (rw [IntWalk.i64_in _ ⟨by omega, by omega⟩]; omega) | exact allOne_mem rfl | exact Nat.le_of_ble_eq_true rfl | (simp only [List.length_cons, List.length_nil]; omega) | skip
              all_goals first | exact hgp (by omega) | (rw [IntWalk.i64_in _ ⟨by omega, by omega⟩]; omega) | simp [*]
            refine S_round (i + 1, ⟨lvIn q.lv l[i].kind, l[i].place, l[i].kind⟩) (by show l.length - (i + 1) < l.length - i; omega) ⟨hlt, hq'⟩ (.cons rfl (.cons rfl (.cons ?_ (.cons rfl (.cons (ai64 rfl (by omega)) (.nil _)))))) rfl
            show AV.int .i64 (IntKind.i64.wrap (q.lv + 1)) = .int .i64 (lvIn q.lv l[i].kind)
            rw [hlvk, hw]
          · refine pa [.b true, .v (tokA l[i]), .b false, .v (tokA l[i]), .b false, .v (tokA l[i]), .v (tokA l[i]), .b true, .b false, .b false, .v (tokA l[i]), .b true, .b true, .b true, .v (tokA (l[i - 1]'(by omega))), .b true, .v (tokA (l[i - 1]'(by omega))), .b false] rfl ?_ ?_
            · (repeat' with_reducible apply AllP_cons) <;> first | exact trivial | assumption | omega | rfl | exact decide_eq_true (by omega) | exact decide_eq_false (by omega) | (rw [IntWalk.i64_in _ ⟨by omega, by omega⟩]; omega) | exact allOne_mem rfl | exact Nat.le_of_ble_eq_true rfl | (simp only [List.length_cons, List.length_nil]; omega) | skip
              all_goals first | exact hgp (by omega) | (rw [IntWalk.i64_in _ ⟨by omega, by omega⟩]; omega) | simp [*]
            refine S_round (i + 1, ⟨lvIn q.lv l[i].kind, l[i].place, l[i].kind⟩) (by show l.length - (i + 1) < l.length - i; omega) ⟨hlt, hq'⟩ (.cons rfl (.cons rfl (.cons ?_ (.cons rfl (.cons (ai64 rfl (by omega)) (.nil _)))))) rfl
            show AV.int .i64 (IntKind.i64.wrap (q.lv + 1)) = .int .i64 (lvIn q.lv l[i].kind)
            rw [hlvk, hw]
        by_cases k8 : l[i].kind = 8
        · have hk : l[i].kind = 8 := k8
          have hlvk : lvIn q.lv l[i].kind = q.lv - 1 := by rw [hk]; rfl
          rw [hlvk] at c3 c4
          have hw : IntKind.i64.wrap (q.lv - 1) = q.lv - 1 := IntWalk.i64_in _ ⟨by omega, by omega⟩
          have hwd : decide (IntKind.i64.wrap (q.lv - 1) < 0) = false := by rw [hw]; exact decide_eq_false (by omega)
          have hwd2 : decide (IntKind.i64.wrap (q.lv - 1) > 30) = false := by rw [hw]; exact decide_eq_false (by omega)
          by_cases i0 : i = 0
          · have i0' : ¬ 0 < i := by omega
            refine pa [.b true, .v (tokA l[i]), .b false, .v (tokA l[i]), .b false, .v (tokA l[i]), .v (tokA l[i]), .b false, .b true, .b false, .b false, .v (tokA l[i]), .b false, .v (tokA l[i]), .b true, .b false, .b false, .b false] rfl ?_ ?_
            · (repeat' with_reducible apply AllP_cons) <;> first | exact trivial | assumption | omega | rfl | exact decide_eq_true (by omega) | exact decide_eq_false (by omega) | (rw [IntWalk.i64_in _ ⟨by omega, by omega⟩]; omega) | exact allOne_mem rfl | exact Nat.le_of_ble_eq_true rfl | (simp only [List.length_cons, List.length_nil]; omega) | skip
              all_goals first | exact hgp (by omega) | (rw [IntWalk.i64_in _ ⟨by omega, by omega⟩]; omega) | simp [*]
            refine S_round (i + 1, ⟨lvIn q.lv l[i].kind, l[i].place, l[i].kind⟩) (by show l.length - (i + 1) < l.length - i; omega) ⟨hlt, hq'⟩ (.cons rfl (.cons rfl (.cons ?_ (.cons rfl (.cons (ai64 rfl (by omega)) (.nil _)))))) rfl
            show AV.int .i64 (IntKind.i64.wrap (q.lv - 1)) = .int .i64 (lvIn q.lv l[i].kind)
            rw [hlvk, hw]
          have i1 : 0 < i := by omega
          have hp := c5 (by rw [hk]; decide)
          rw [hpv i1] at hp
          rcases hp with hp | hp
          · refine pa [.b true, .v (tokA l[i]), .b false, .v (tokA l[i]), .b false, .v (tokA l[i]), .v (tokA l[i]), .b false, .b true, .b false, .b false, .v (tokA l[i]), .b false, .v (tokA l[i]), .b true, .b true, .v (tokA (l[i - 1]'(by omega))), .b false, .b false] rfl ?_ ?_
            · (repeat' with_reducible apply AllP_cons) <;> first | exact trivial | assumption | omega | rfl | exact decide_eq_true (by omega) | exact decide_eq_false (by omega) | (rw [IntWalk.i64_in _ ⟨by omega, by omega⟩]; omega) | exact allOne_mem rfl | exact Nat.le_of_ble_eq_true rfl | (simp only [List.length_cons, List.length_nil]; omega) | skip
              all_goals first | exact hgp (by omega) | (rw [IntWalk.i64_in _ ⟨by omega, by omega⟩]; omega) | simp [*]
            refine S_round (i + 1, ⟨lvIn q.lv l[i].kind, l[i].place, l[i].kind⟩) (by show l.length - (i + 1) < l.length - i; omega) ⟨hlt, hq'⟩ (.cons rfl (.cons rfl (.cons ?_ (.cons rfl (.cons (ai64 rfl (by omega)) (.nil _)))))) rfl
            show AV.int .i64 (IntKind.i64.wrap (q.lv - 1)) = .int .i64 (lvIn q.lv l[i].kind)
            rw [hlvk, hw]
          · refine pa [.b true, .v (tokA l[i]), .b false, .v (tokA l[i]), .b false, .v (tokA l[i]), .v (tokA l[i]), .b false, .b true, .b false, .b false, .v (tokA l[i]), .b false, .v (tokA l[i]), .b true, .b true, .v (tokA (l[i - 1]'(by omega))), .b true, .v (tokA (l[i - 1]'(by omega))), .b false] rfl ?_ ?_
            · (repeat' with_reducible apply AllP_cons) <;> first | exact trivial | assumption | omega | rfl | exact decide_eq_true (by omega) | exact decide_eq_false (by omega) | (rw [IntWalk.i64_in _ ⟨by omega, by omega⟩]; omega) | exact allOne_mem rfl | exact Nat.le_of_ble_eq_true rfl | (simp only [List.length_cons, List.length_nil]; omega) | skip
              all_goals first | exact hgp (by omega) | (rw [IntWalk.i64_in _ ⟨by omega, by omega⟩]; omega) | simp [*]
            refine S_round (i + 1, ⟨lvIn q.lv l[i].kind, l[i].place, l[i].kind⟩) (by show l.length - (i + 1) < l.length - i; omega) ⟨hlt, hq'⟩ (.cons rfl (.cons rfl (.cons ?_ (.cons rfl (.cons (ai64 rfl (by omega)) (.nil _)))))) rfl
            show AV.int .i64 (IntKind.i64.wrap (q.lv - 1)) = .int .i64 (lvIn q.lv l[i].kind)
            rw [hlvk, hw]
        have hlvk : lvIn q.lv l[i].kind = q.lv := by rw [lvIn, if_neg k7, if_neg k8]
        rw [hlvk] at c3 c4
        refine pa [.b true, .v (tokA l[i]), .b false, .v (tokA l[i]), .b false, .v (tokA l[i]), .v (tokA l[i]), .b false, .b false, .b false, .b false, .v (tokA l[i]), .b false, .v (tokA l[i]), .b false, .b false, .b false, .b false, .b false] rfl ?_ ?_
        · (repeat' with_reducible apply AllP_cons) <;> first | exact trivial | assumption | omega | rfl | exact decide_eq_true (by omega) | exact decide_eq_false (by omega) | (rw [IntWalk.i64_in _ ⟨by omega, by omega⟩]; omega) | exact allOne_mem rfl | exact Nat.le_of_ble_eq_true rfl | (simp only [List.length_cons, List.length_nil]; omega) | skip
          all_goals first | exact hgp (by omega) | (rw [IntWalk.i64_in _ ⟨by omega, by omega⟩]; omega) | simp [*]
        refine S_round (i + 1, ⟨lvIn q.lv l[i].kind, l[i].place, l[i].kind⟩) (by show l.length - (i + 1) < l.length - i; omega) ⟨hlt, hq'⟩ (.cons rfl (.cons rfl (.cons ?_ (.cons rfl (.cons (ai64 rfl (by omega)) (.nil _)))))) rfl
        show AV.int .i64 q.lv = .int .i64 (lvIn q.lv l[i].kind)
        rw [hlvk]
      · obtain rfl : i = l.length := by omega
        rw [List.take_length, hlv] at hq
        cases hq
        refine pa [.b false] rfl ?_ ?_
        · (repeat' with_reducible apply AllP_cons) <;> first | exact trivial | assumption | omega | rfl | exact decide_eq_true (by omega) | exact decide_eq_false (by omega) | (rw [IntWalk.i64_in _ ⟨by omega, by omega⟩]; omega) | exact allOne_mem rfl | exact Nat.le_of_ble_eq_true rfl | (simp only [List.length_cons, List.length_nil]; omega) | skip
        exact S_retc .bool rfl trivial rfl
    · obtain ⟨hnil, hat⟩ := g1 he
      subst hnil
      refine pa [.v (.bool true), .b false, .v (splitAV ([], e)), .b true, .b true, .b true] rfl ?_ ?_
      · (repeat' with_reducible apply AllP_cons) <;> first | exact trivial | assumption | omega | rfl | exact decide_eq_true (by omega) | exact decide_eq_false (by omega) | (rw [IntWalk.i64_in _ ⟨by omega, by omega⟩]; omega) | exact allOne_mem rfl | exact Nat.le_of_ble_eq_true rfl | (simp only [List.length_cons, List.length_nil]; omega) | skip
        · exact hB _
        · exact hSp _
        · exact bne_iff_ne.2 (by show ((e.1 : Nat) : Int) ≠ 0; omega)
      refine S_retc .bool rfl trivial ?_
      exact congrArg AV.bool (decide_eq_true (by show ((e.2 : Nat) : Int) ≤ ((s.length : Nat) : Int); omega))

end Go.Proofs.YtkgmbnjdeokdkaaDoor
