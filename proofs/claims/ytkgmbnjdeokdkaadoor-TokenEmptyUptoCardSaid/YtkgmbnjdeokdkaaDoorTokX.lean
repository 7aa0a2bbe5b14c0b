/-
  The law TokenStands.
-/
import Derived.Test.YtkgmbnjdeokdkaaDoorTokW
set_option linter.unusedVariables false
set_option linter.unusedSimpArgs false
set_option maxRecDepth 20000
namespace Go.Proofs.YtkgmbnjdeokdkaaDoor
open Go Go.Ab

structure StandsT (s : List UInt8) (t : Tok) : Prop where
  a : t.kind = 1 ∨ t.kind = 2 ∨ t.kind = 4 ∨ t.kind = 5 → t.text ≠ [] ∧ t.place + t.text.length ≤ s.length ∧ cutT s t.place (t.place + t.text.length) = t.text
  b : t.kind = 3 → t.place < s.length ∧ s.getD t.place 0 = 34
  c : t.kind ≠ 1 → t.kind ≠ 2 → t.kind ≠ 4 → t.kind ≠ 5 → t.kind ≠ 3 → t.text = []
  d : t.num ≠ 0 → t.kind = 2

theorem stands_plain {s : List UInt8} {k i : Nat} (h : k ≠ 1 ∧ k ≠ 2 ∧ k ≠ 3 ∧ k ≠ 4 ∧ k ≠ 5) : StandsT s ⟨k, [], 0, i⟩ :=
  ⟨fun h' => by simp only at h'; omega, fun h' => by simp only at h'; omega, fun _ _ _ _ _ => rfl, fun h' => absurd rfl h'⟩

theorem cut_stands {s : List UInt8} {i j : Nat} (h : i < j) (hj : j ≤ s.length) : cutT s i j ≠ [] ∧ i + (cutT s i j).length ≤ s.length ∧ cutT s i (i + (cutT s i j).length) = cutT s i j := by
  have hl := cutT_len (s := s) (Nat.le_of_lt h) hj
  refine ⟨fun e => by rw [e] at hl; simp at hl; omega, by omega, by rw [hl, show i + (j - i) = j by omega]⟩

theorem sign_stands {s t : List UInt8} {i : Nat} (h : signAt s i = some t) (hi : i < s.length) : t ≠ [] ∧ i + t.length ≤ s.length ∧ cutT s i (i + t.length) = t := by
  have hl := signAt_le h
  refine ⟨fun e => by rw [e] at hl; simp at hl; omega, by omega, ?_⟩
  unfold signAt at h
  have h1 := List.find?_some h
  have hp := List.prefix_iff_eq_take.1 (List.isPrefixOf_iff_prefix.1 h1)
  rw [cutT, List.drop_take, Nat.add_sub_cancel_left]; exact hp.symm

theorem oneS_stands {s : List UInt8} {i o j o' : Nat} {t : Tok} (hi : i < s.length) (h : oneS s i o = .inr (t, j, o')) : StandsT s t := by
  have hgd : s.getD i 0 = s[i] := getD_byte hi
  unfold oneS at h
  split at h
  · rename_i h1
    cases h
    have hb := stopAt_lt (p := fun c => isLet c || isDg c) hi (by rw [h1]; rfl)
    refine ⟨fun _ => cut_stands hb.1 hb.2, fun h => ?_, fun h1 h2 h3 h4 h5 => ?_, fun h => absurd rfl h⟩
    · exfalso; revert h; show (if _ then 5 else 1) = 3 → False; split <;> simp
    · exfalso; revert h1 h4; show (if _ then 5 else 1) ≠ 1 → (if _ then 5 else 1) ≠ 5 → False; split <;> simp
  · split at h
    · rename_i h1
      have hb := stopAt_lt (p := isDg) hi h1
      split at h
      · cases h
      · cases h
        exact ⟨fun _ => cut_stands hb.1 hb.2, fun h => (by cases h), fun _ h => absurd rfl h, fun _ => rfl⟩
    · split at h
      · rename_i h3
        split at h
        · cases h
        · cases h
          exact ⟨fun h => by simp only at h; omega, fun _ => ⟨hi, h3⟩, fun _ _ _ _ h => absurd rfl h, fun h => absurd rfl h⟩
      · split at h
        · cases h
        · rename_i g hs
          have hst := sign_stands hs hi
          have fin : ∀ {x : Flt ⊕ (Tok × Nat × Nat)} {jj oo : Nat}, x = .inr (⟨4, g, 0, i⟩, jj, oo) → x = .inr (t, j, o') → StandsT s t := fun h1 h2 => by
            rw [h1] at h2; cases h2
            exact ⟨fun _ => hst, fun h => (by cases h), fun _ _ h => absurd rfl h, fun h => absurd rfl h⟩
          split at h
          · split at h
            · cases h
            · exact fin rfl h
          · split at h
            · split at h
              · cases h
              · exact fin rfl h
            · exact fin rfl h

theorem stands_line : ∀ (f : Nat) {s : List UInt8} {i o k : Nat} {out out' : List Tok}, i ≤ s.length → lineF f s i o out = .inr (k, out') → (∀ t ∈ out, StandsT s t) → ∀ t ∈ out', StandsT s t
  | 0, s, i, o, k, out, out', hi, h, hq => by cases h
  | f + 1, s, i, o, k, out, out', hi, h, hq => by
    rw [lineF] at h
    split at h
    · rename_i hc
      split at h
      · exact stands_line f (gapC_le (by omega)).2 h hq
      · split at h
        · cases h
        · rename_i t j o' hx
          have hb := oneS_le hc.1 hx
          refine stands_line f (gapC_le (by omega)).2 h (fun t' ht => ?_)
          rcases List.mem_append.1 ht with ht | ht
          · exact hq _ ht
          · simp at ht; rw [ht]; exact oneS_stands hc.1 hx
    · split at h
      · cases h
      · cases h
        intro t' ht
        rcases List.mem_append.1 ht with ht | ht
        · exact hq _ ht
        · simp at ht; rw [ht]; exact stands_plain (by decide)

theorem furS_stands {s : List UInt8} {n i : Nat} {ins ins' : List Nat} {l : List Tok} (h : furS n i ins = .inr (ins', l)) : ∀ t ∈ l, StandsT s t := by
  unfold furS at h
  split at h
  · split at h
    · cases h
    · cases h
      intro t ht; simp at ht; rw [ht]; exact stands_plain (by decide)
  · split at h
    · cases h
      intro t ht
      rw [List.eq_of_mem_replicate ht]; exact stands_plain (by decide)
    · cases h

theorem stands_all : ∀ (f : Nat) {s : List UInt8} {i : Nat} {ins : List Nat} {out l : List Tok}, i ≤ s.length → allF f s i ins out = .inr l → (∀ t ∈ out, StandsT s t) → ∀ t ∈ l, StandsT s t
  | 0, s, i, ins, out, l, hi, h, hq => by cases h
  | f + 1, s, i, ins, out, l, hi, h, hq => by
    rw [allF] at h
    have hg := gapC_le hi
    have app : ∀ {l' : List Tok}, (∀ t ∈ l', StandsT s t) → ∀ t ∈ out ++ l', StandsT s t := fun hl t ht => (List.mem_append.1 ht).elim (hq t) (hl t)
    split at h
    · split at h
      · cases h
      · rename_i hx; cases h; exact app (furS_stands hx)
    · split at h
      · exact stands_all f (by omega) h hq
      · split at h
        · cases h
        · rename_i hx
          split at h
          · cases h
          · rename_i hy
            exact stands_all f (lineF_le _ hg.2 hy).2.1 h (stands_line _ hg.2 hy (app (furS_stands hx)))

theorem splitS_stands (s : List UInt8) : ∀ t ∈ (splitS s).1, StandsT s t := by
  unfold splitS
  split
  · intro t ht; cases ht
  · split
    · intro t ht; cases ht
    · rename_i h; exact stands_all _ (Nat.zero_le _) h (fun t ht => by cases ht)

structure BSt where
  i : Nat
  v : Nat
  b : Option Box

theorem TokenStands_ok (s : List UInt8) (hs : s.length ≤ 1048576) : Calc cx 5 [.str s] (.bool true) :=
  pure_intro (fun a w => Tryd.call5 a w) Tryd.func5 rfl Tryd.ntmps5 rfl .bool fun B => by
    have hl := splitS_len s
    have h1 := Split_ok s
    have g1 := splitS_stands s
    generalize splitS s = q at h1 hl g1
    obtain ⟨l, e⟩ := q
    simp only at hl g1
    refine pa [.v (.bool true), .b false, .v (splitAV (l, e))] rfl ?_ ?_
    · (repeat' with_reducible apply AllP_cons) <;> first | exact trivial | assumption | omega | rfl | exact decide_eq_true (by omega) | exact decide_eq_false (by omega) | (rw [IntWalk.i64_in _ ⟨by omega, by omega⟩]; omega) | exact allOne_mem rfl | exact Nat.le_of_ble_eq_true rfl | (simp only [List.length_cons, List.length_nil]; omega) | skip
      · exact ⟨_, tokenBegun_ok, .nil _⟩
      · exact ⟨_, h1, .cons (.refl .str) (.nil _)⟩
    refine S_dead ?_ ⟨_, _, .inl rfl⟩
    refine S_while (α := BSt) (fun q => [(0, .str s), (3, .sl true false 4 (l.map tokA)), (4, .ptr 0 0 0), (5, .int .i64 q.i)]) (fun q => [xf e, (q.v, q.b)]) (fun q => q.i ≤ l.length) (fun q => l.length - q.i) ⟨0, 0, none⟩
      (Nat.zero_le _) (.cons rfl (.cons rfl (.cons rfl (.cons rfl (.nil _))))) rfl ?_
    rintro ⟨i, v, b⟩ hi
    have hi : i ≤ l.length := hi
    show S cx _ B _ _ [(0, .str s), (3, .sl true false 4 (l.map tokA)), (4, .ptr 0 0 0), (5, .int .i64 i)] [xf e, (v, b)]
    have hln : (l.map tokA).length = l.length := by simp
    refine S_drop (id := 1) rfl ?_ ⟨_, _, .inl rfl⟩
    refine S_heap [xf e, (v, none)] rfl ?_
    by_cases hlt : i < l.length
    · by_cases he : e.1 = 0
      · have he' : (((e.1 : Nat) : Int) == 0) = true := by rw [he]; rfl
        have hg := toks_get hlt
        have hst := g1 l[i] (List.getElem_mem hlt)
        generalize l[i] = t at hg hst
        obtain ⟨k, x, n, p⟩ := t
        obtain ⟨sa, sb, sc, sd⟩ := hst
        simp only at sa sb sc sd
        by_cases k1 : k = 1
        · subst k1
          obtain ⟨q1, q2, q3⟩ := sa (by decide)
          have w1 : (x == []) = false := beq_false_of_ne q1
          have w2 : decide (IntKind.i64.wrap (((p : Nat) : Int) + ((x.length : Nat) : Int)) > ((s.length : Nat) : Int)) = false := by rw [IntWalk.i64_in _ ⟨by omega, by omega⟩]; exact decide_eq_false (by omega)
          have s1 : ((p : Nat) : Int) ≤ IntKind.i64.wrap (((p : Nat) : Int) + ((x.length : Nat) : Int)) := by rw [IntWalk.i64_in _ ⟨by omega, by omega⟩]; omega
          have s2 : IntKind.i64.wrap (((p : Nat) : Int) + ((x.length : Nat) : Int)) ≤ ((s.length : Nat) : Int) := by rw [IntWalk.i64_in _ ⟨by omega, by omega⟩]; omega
          have w3 : (!(cutL (some ((p : Nat) : Int)) (some (IntKind.i64.wrap (((p : Nat) : Int) + ((x.length : Nat) : Int)))) s == x)) = false := by
            rw [IntWalk.i64_in _ ⟨by omega, by omega⟩]
            show (!((s.take ((p + x.length : Nat) : Int).toNat).drop ((p : Nat) : Int).toNat == x)) = false
            rw [Int.toNat_natCast, Int.toNat_natCast, show (s.take (p + x.length)).drop p = x from q3]; simp
          have n0 : n = 0 := by
            rcases Nat.eq_zero_or_pos n with h | h
            · exact h
            · exact absurd (sd (by omega)) (by decide)
          subst n0
          refine pa [.b true, .b true, .v (tokA ⟨1, x, 0, p⟩), .b true, .b true, .b false, .b false, .b false, .b false, .b false] rfl ?_ ?_
          · (repeat' with_reducible apply AllP_cons) <;> first | exact trivial | assumption | omega | rfl | exact decide_eq_true (by omega) | exact decide_eq_false (by omega) | (rw [IntWalk.i64_in _ ⟨by omega, by omega⟩]; omega) | exact allOne_mem rfl | exact Nat.le_of_ble_eq_true rfl | (simp only [List.length_cons, List.length_nil]; omega) | skip
            all_goals first | exact s1 | exact s2 | (rw [IntWalk.i64_in _ ⟨by omega, by omega⟩]; omega) | exact beq_false_of_ne (by omega) | exact bne_iff_ne.2 (by omega) | (simp; omega) | simp [*] | simp
          exact S_round ⟨i + 1, v + 1, _⟩ (by show l.length - (i + 1) < l.length - i; omega) hlt (.cons rfl (.cons rfl (.cons rfl (.cons (show _ = AV.int .i64 ((i + 1 : Nat) : Int) from ai64 rfl (by omega)) (.nil _))))) rfl
        by_cases k2 : k = 2
        · subst k2
          obtain ⟨q1, q2, q3⟩ := sa (by decide)
          have w1 : (x == []) = false := beq_false_of_ne q1
          have w2 : decide (IntKind.i64.wrap (((p : Nat) : Int) + ((x.length : Nat) : Int)) > ((s.length : Nat) : Int)) = false := by rw [IntWalk.i64_in _ ⟨by omega, by omega⟩]; exact decide_eq_false (by omega)
          have s1 : ((p : Nat) : Int) ≤ IntKind.i64.wrap (((p : Nat) : Int) + ((x.length : Nat) : Int)) := by rw [IntWalk.i64_in _ ⟨by omega, by omega⟩]; omega
          have s2 : IntKind.i64.wrap (((p : Nat) : Int) + ((x.length : Nat) : Int)) ≤ ((s.length : Nat) : Int) := by rw [IntWalk.i64_in _ ⟨by omega, by omega⟩]; omega
          have w3 : (!(cutL (some ((p : Nat) : Int)) (some (IntKind.i64.wrap (((p : Nat) : Int) + ((x.length : Nat) : Int)))) s == x)) = false := by
            rw [IntWalk.i64_in _ ⟨by omega, by omega⟩]
            show (!((s.take ((p + x.length : Nat) : Int).toNat).drop ((p : Nat) : Int).toNat == x)) = false
            rw [Int.toNat_natCast, Int.toNat_natCast, show (s.take (p + x.length)).drop p = x from q3]; simp
          by_cases n0 : n = 0
          · subst n0
            refine pa [.b true, .b true, .v (tokA ⟨2, x, 0, p⟩), .b false, .b true, .b true, .b false, .b false, .b false, .b false, .b false] rfl ?_ ?_
            · (repeat' with_reducible apply AllP_cons) <;> first | exact trivial | assumption | omega | rfl | exact decide_eq_true (by omega) | exact decide_eq_false (by omega) | (rw [IntWalk.i64_in _ ⟨by omega, by omega⟩]; omega) | exact allOne_mem rfl | exact Nat.le_of_ble_eq_true rfl | (simp only [List.length_cons, List.length_nil]; omega) | skip
              all_goals first | exact s1 | exact s2 | (rw [IntWalk.i64_in _ ⟨by omega, by omega⟩]; omega) | exact beq_false_of_ne (by omega) | exact bne_iff_ne.2 (by omega) | (simp; omega) | simp [*] | simp
            exact S_round ⟨i + 1, v + 1, _⟩ (by show l.length - (i + 1) < l.length - i; omega) hlt (.cons rfl (.cons rfl (.cons rfl (.cons (show _ = AV.int .i64 ((i + 1 : Nat) : Int) from ai64 rfl (by omega)) (.nil _))))) rfl
          have n1 : (((n : Nat) : Int) != 0) = true := bne_iff_ne.2 (by omega)
          refine pa [.b true, .b true, .v (tokA ⟨2, x, n, p⟩), .b false, .b true, .b true, .b false, .b false, .b false, .b true, .b false] rfl ?_ ?_
          · (repeat' with_reducible apply AllP_cons) <;> first | exact trivial | assumption | omega | rfl | exact decide_eq_true (by omega) | exact decide_eq_false (by omega) | (rw [IntWalk.i64_in _ ⟨by omega, by omega⟩]; omega) | exact allOne_mem rfl | exact Nat.le_of_ble_eq_true rfl | (simp only [List.length_cons, List.length_nil]; omega) | skip
            all_goals first | exact s1 | exact s2 | (rw [IntWalk.i64_in _ ⟨by omega, by omega⟩]; omega) | exact beq_false_of_ne (by omega) | exact bne_iff_ne.2 (by omega) | (simp; omega) | simp [*] | simp
          exact S_round ⟨i + 1, v + 1, _⟩ (by show l.length - (i + 1) < l.length - i; omega) hlt (.cons rfl (.cons rfl (.cons rfl (.cons (show _ = AV.int .i64 ((i + 1 : Nat) : Int) from ai64 rfl (by omega)) (.nil _))))) rfl
        by_cases k4 : k = 4
        · subst k4
          obtain ⟨q1, q2, q3⟩ := sa (by decide)
          have w1 : (x == []) = false := beq_false_of_ne q1
          have w2 : decide (IntKind.i64.wrap (((p : Nat) : Int) + ((x.length : Nat) : Int)) > ((s.length : Nat) : Int)) = false := by rw [IntWalk.i64_in _ ⟨by omega, by omega⟩]; exact decide_eq_false (by omega)
          have s1 : ((p : Nat) : Int) ≤ IntKind.i64.wrap (((p : Nat) : Int) + ((x.length : Nat) : Int)) := by rw [IntWalk.i64_in _ ⟨by omega, by omega⟩]; omega
          have s2 : IntKind.i64.wrap (((p : Nat) : Int) + ((x.length : Nat) : Int)) ≤ ((s.length : Nat) : Int) := by rw [IntWalk.i64_in _ ⟨by omega, by omega⟩]; omega
          have w3 : (!(cutL (some ((p : Nat) : Int)) (some (IntKind.i64.wrap (((p : Nat) : Int) + ((x.length : Nat) : Int)))) s == x)) = false := by
            rw [IntWalk.i64_in _ ⟨by omega, by omega⟩]
            show (!((s.take ((p + x.length : Nat) : Int).toNat).drop ((p : Nat) : Int).toNat == x)) = false
            rw [Int.toNat_natCast, Int.toNat_natCast, show (s.take (p + x.length)).drop p = x from q3]; simp
          have n0 : n = 0 := by
            rcases Nat.eq_zero_or_pos n with h | h
            · exact h
            · exact absurd (sd (by omega)) (by decide)
          subst n0
          refine pa [.b true, .b true, .v (tokA ⟨4, x, 0, p⟩), .b false, .b false, .b true, .b true, .b false, .b false, .b false, .b false, .b false] rfl ?_ ?_
          · (repeat' with_reducible apply AllP_cons) <;> first | exact trivial | assumption | omega | rfl | exact decide_eq_true (by omega) | exact decide_eq_false (by omega) | (rw [IntWalk.i64_in _ ⟨by omega, by omega⟩]; omega) | exact allOne_mem rfl | exact Nat.le_of_ble_eq_true rfl | (simp only [List.length_cons, List.length_nil]; omega) | skip
            all_goals first | exact s1 | exact s2 | (rw [IntWalk.i64_in _ ⟨by omega, by omega⟩]; omega) | exact beq_false_of_ne (by omega) | exact bne_iff_ne.2 (by omega) | (simp; omega) | simp [*] | simp
          exact S_round ⟨i + 1, v + 1, _⟩ (by show l.length - (i + 1) < l.length - i; omega) hlt (.cons rfl (.cons rfl (.cons rfl (.cons (show _ = AV.int .i64 ((i + 1 : Nat) : Int) from ai64 rfl (by omega)) (.nil _))))) rfl
        by_cases k5 : k = 5
        · subst k5
          obtain ⟨q1, q2, q3⟩ := sa (by decide)
          have w1 : (x == []) = false := beq_false_of_ne q1
          have w2 : decide (IntKind.i64.wrap (((p : Nat) : Int) + ((x.length : Nat) : Int)) > ((s.length : Nat) : Int)) = false := by rw [IntWalk.i64_in _ ⟨by omega, by omega⟩]; exact decide_eq_false (by omega)
          have s1 : ((p : Nat) : Int) ≤ IntKind.i64.wrap (((p : Nat) : Int) + ((x.length : Nat) : Int)) := by rw [IntWalk.i64_in _ ⟨by omega, by omega⟩]; omega
          have s2 : IntKind.i64.wrap (((p : Nat) : Int) + ((x.length : Nat) : Int)) ≤ ((s.length : Nat) : Int) := by rw [IntWalk.i64_in _ ⟨by omega, by omega⟩]; omega
          have w3 : (!(cutL (some ((p : Nat) : Int)) (some (IntKind.i64.wrap (((p : Nat) : Int) + ((x.length : Nat) : Int)))) s == x)) = false := by
            rw [IntWalk.i64_in _ ⟨by omega, by omega⟩]
            show (!((s.take ((p + x.length : Nat) : Int).toNat).drop ((p : Nat) : Int).toNat == x)) = false
            rw [Int.toNat_natCast, Int.toNat_natCast, show (s.take (p + x.length)).drop p = x from q3]; simp
          have n0 : n = 0 := by
            rcases Nat.eq_zero_or_pos n with h | h
            · exact h
            · exact absurd (sd (by omega)) (by decide)
          subst n0
          refine pa [.b true, .b true, .v (tokA ⟨5, x, 0, p⟩), .b false, .b false, .b false, .b true, .b false, .b false, .b false, .b false, .b false] rfl ?_ ?_
          · (repeat' with_reducible apply AllP_cons) <;> first | exact trivial | assumption | omega | rfl | exact decide_eq_true (by omega) | exact decide_eq_false (by omega) | (rw [IntWalk.i64_in _ ⟨by omega, by omega⟩]; omega) | exact allOne_mem rfl | exact Nat.le_of_ble_eq_true rfl | (simp only [List.length_cons, List.length_nil]; omega) | skip
            all_goals first | exact s1 | exact s2 | (rw [IntWalk.i64_in _ ⟨by omega, by omega⟩]; omega) | exact beq_false_of_ne (by omega) | exact bne_iff_ne.2 (by omega) | (simp; omega) | simp [*] | simp
          exact S_round ⟨i + 1, v + 1, _⟩ (by show l.length - (i + 1) < l.length - i; omega) hlt (.cons rfl (.cons rfl (.cons rfl (.cons (show _ = AV.int .i64 ((i + 1 : Nat) : Int) from ai64 rfl (by omega)) (.nil _))))) rfl
        by_cases k3 : k = 3
        · subst k3
          obtain ⟨q1, q2⟩ := sb rfl
          have w3 : ((((s.getD ((p : Nat) : Int).toNat 0).toNat : Nat) : Int) != 34) = false := by rw [Int.toNat_natCast, q2]; rfl
          have n0 : n = 0 := by
            rcases Nat.eq_zero_or_pos n with h | h
            · exact h
            · exact absurd (sd (by omega)) (by decide)
          subst n0
          refine pa [.b true, .b true, .v (tokA ⟨3, x, 0, p⟩), .b false, .b false, .b false, .b false, .b true, .b false, .b false, .b false] rfl ?_ ?_
          · (repeat' with_reducible apply AllP_cons) <;> first | exact trivial | assumption | omega | rfl | exact decide_eq_true (by omega) | exact decide_eq_false (by omega) | (rw [IntWalk.i64_in _ ⟨by omega, by omega⟩]; omega) | exact allOne_mem rfl | exact Nat.le_of_ble_eq_true rfl | (simp only [List.length_cons, List.length_nil]; omega) | skip
            all_goals first | (rw [IntWalk.i64_in _ ⟨by omega, by omega⟩]; omega) | exact beq_false_of_ne (by omega) | exact bne_iff_ne.2 (by omega) | (simp; omega) | simp [*] | simp
          exact S_round ⟨i + 1, v + 1, _⟩ (by show l.length - (i + 1) < l.length - i; omega) hlt (.cons rfl (.cons rfl (.cons rfl (.cons (show _ = AV.int .i64 ((i + 1 : Nat) : Int) from ai64 rfl (by omega)) (.nil _))))) rfl
        have q1 := sc k1 k2 k4 k5 k3
        subst q1
        have n0 : n = 0 := by
          rcases Nat.eq_zero_or_pos n with h | h
          · exact h
          · exact absurd (sd (by omega)) (by exact k2)
        subst n0
        refine pa [.b true, .b true, .v (tokA ⟨k, [], 0, p⟩), .b false, .b false, .b false, .b false, .b false, .b false, .b false, .b false] rfl ?_ ?_
        · (repeat' with_reducible apply AllP_cons) <;> first | exact trivial | assumption | omega | rfl | exact decide_eq_true (by omega) | exact decide_eq_false (by omega) | (rw [IntWalk.i64_in _ ⟨by omega, by omega⟩]; omega) | exact allOne_mem rfl | exact Nat.le_of_ble_eq_true rfl | (simp only [List.length_cons, List.length_nil]; omega) | skip
          all_goals first | (rw [IntWalk.i64_in _ ⟨by omega, by omega⟩]; omega) | exact beq_false_of_ne (by omega) | exact bne_iff_ne.2 (by omega) | (simp; omega) | simp [*] | simp
        exact S_round ⟨i + 1, v + 1, _⟩ (by show l.length - (i + 1) < l.length - i; omega) hlt (.cons rfl (.cons rfl (.cons rfl (.cons (show _ = AV.int .i64 ((i + 1 : Nat) : Int) from ai64 rfl (by omega)) (.nil _))))) rfl
      · have he' : (((e.1 : Nat) : Int) == 0) = false := beq_false_of_ne (by omega)
        refine pa [.b true, .b false] rfl ?_ ?_
        · (repeat' with_reducible apply AllP_cons) <;> first | exact trivial | assumption | omega | rfl | exact decide_eq_true (by omega) | exact decide_eq_false (by omega) | (rw [IntWalk.i64_in _ ⟨by omega, by omega⟩]; omega) | exact allOne_mem rfl | exact Nat.le_of_ble_eq_true rfl | (simp only [List.length_cons, List.length_nil]; omega) | skip
        exact S_retc .bool rfl trivial rfl
    · refine pa [.b false, .b false] rfl ?_ ?_
      · (repeat' with_reducible apply AllP_cons) <;> first | exact trivial | assumption | omega | rfl | exact decide_eq_true (by omega) | exact decide_eq_false (by omega) | (rw [IntWalk.i64_in _ ⟨by omega, by omega⟩]; omega) | exact allOne_mem rfl | exact Nat.le_of_ble_eq_true rfl | (simp only [List.length_cons, List.length_nil]; omega) | skip
      exact S_retc .bool rfl trivial rfl

end Go.Proofs.YtkgmbnjdeokdkaaDoor
