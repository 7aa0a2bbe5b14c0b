/-
  Entries of the log: read one by one.
-/
import Derived.Test.YtjbgcbolakdhaaaLogC
set_option linter.unusedVariables false
set_option linter.unusedSimpArgs false
set_option maxRecDepth 20000
namespace Go.Proofs.Ytjbgcbolakdhaaa
open Go Go.Ab

theorem readN_bd : ∀ (s : List UInt8) (i n : Nat), i ≤ 8 → (readN s i n).1 ≤ 9007199254740991 ∧ (readN s i n).2.1 ≤ 8 ∧ ((readN s i n).2.2 = 0 → i < (readN s i n).2.1 ∧ (readN s i n).2.1 ≤ i + s.length)
  | [], i, n, h => by simp [readN]
  | c :: r, i, n, h => by
    have ih := readN_bd r (i + 1) (n + c.toNat % 128 * 128 ^ i)
    unfold readN
    split
    · simp
    · simp only
      split
      · have := ih (by omega)
        refine ⟨this.1, this.2.1, fun h => ?_⟩
        have := this.2.2 h
        simp; omega
      · split
        · simp
        · split
          · simp
          · simp; omega

/-- The entry that a log begins with. -/
def nextL (l : List UInt8) : List UInt8 × List UInt8 × Bool :=
  match l with
  | [] => ([], [], false)
  | c :: r =>
    if c.toNat ≠ 76 then ([], [], false)
    else
      let x := readN r 0 0
      if x.2.2 ≠ 0 ∨ 100000 < x.1 ∨ l.length < 1 + x.2.1 + x.1 + 4 then ([], [], false)
      else
        let s := (l.drop (1 + x.2.1)).take x.1
        (s, l.drop (1 + x.2.1 + x.1 + 4), entryOf s == l.take (1 + x.2.1 + x.1 + 4))

def nextAV (x : List UInt8 × List UInt8 × Bool) : AV := .tup [.str x.1, .str x.2.1, .bool x.2.2]

theorem nextAV_free (x : List UInt8 × List UInt8 × Bool) : Free true (nextAV x) := .tup (by intro y hy; simp at hy; rcases hy with rfl | rfl | rfl; exact .str; exact .str; exact .bool)

theorem next_ok (l : List UInt8) (hl : l.length ≤ 9223372036854000000) : Calc cx 36 [.str l] (nextAV (nextL l)) :=
  pure_intro (fun a w => Try.call36 a w) Try.func36 rfl Try.ntmps36 rfl (nextAV_free _) fun B => by
    refine ab 1000 rfl trivial ?_
    refine S_guard rfl rfl rfl rfl (fun hg => ?_) (fun hg => ?_)
    · have hl0 : l = [] := by simpa using hg
      subst hl0
      refine ab 1000 rfl trivial ?_
      refine S_cond rfl (fun _ => ?_) (fun h => by cases h)
      refine ab 1000 rfl trivial ?_
      exact S_retc (nextAV_free _) rfl trivial rfl
    · have hl0 : l ≠ [] := by
        intro h; subst h; exact absurd hg (by decide)
      obtain ⟨c, r, rfl⟩ : ∃ c r, l = c :: r := by
        cases l with
        | nil => exact absurd rfl hl0
        | cons c r => exact ⟨c, r, rfl⟩
      refine ab 1000 rfl ⟨by rw [List.length_cons]; omega, by decide, trivial⟩ ?_
      refine S_cond rfl (fun h => ?_) (fun h => ?_)
      · have hc : c.toNat ≠ 76 := by
          intro he
          simp [List.getD, he] at h
        refine ab 1000 rfl trivial ?_
        refine S_retc (nextAV_free _) rfl trivial ?_
        simp only [nextL, ne_eq, hc, not_false_eq_true, if_true]; rfl
      · have hc : c.toNat = 76 := by
          have h' : (c.toNat : Int) = 76 := by simpa [List.getD] using h
          omega
        refine ab 1000 rfl ⟨by simp; omega, by decide, trivial⟩ ?_
        refine S_pure rfl rfl rfl (ReadNumber_ok r (by simp at hl; omega)) (.cons (.refl .str) (.nil _)) ?_
        obtain ⟨b1, b2, b3⟩ := readN_bd r 0 0 (by decide)
        have hN : nextL (c :: r) = (if (readN r 0 0).2.2 ≠ 0 ∨ 100000 < (readN r 0 0).1 ∨ (c :: r).length < 1 + (readN r 0 0).2.1 + (readN r 0 0).1 + 4 then ([], [], false)
          else ((((c :: r).drop (1 + (readN r 0 0).2.1)).take (readN r 0 0).1), (c :: r).drop (1 + (readN r 0 0).2.1 + (readN r 0 0).1 + 4), entryOf (((c :: r).drop (1 + (readN r 0 0).2.1)).take (readN r 0 0).1) == (c :: r).take (1 + (readN r 0 0).2.1 + (readN r 0 0).1 + 4))) := by
          simp only [nextL, ne_eq, hc, not_true_eq_false, if_false]
        generalize hx : readN r 0 0 = x at *
        obtain ⟨n, k, e⟩ := x
        simp only at b1 b2 b3 hN
        generalize hlr : c :: r = l at *
        refine ab 1000 rfl trivial ?_
        refine S_guard rfl rfl rfl rfl (fun hg => ?_) (fun hg => ?_)
        · have he : e ≠ 0 := by
            have := (bne_iff_ne (a := ((e : Nat) : Int)) (b := 0)).1 hg
            omega
          refine ab 1000 rfl trivial ?_
          refine S_guard rfl rfl rfl rfl (fun _ => ?_) (fun hh => by cases hh)
          refine ab 1000 rfl trivial ?_
          refine S_cond rfl (fun _ => ?_) (fun hh => by cases hh)
          refine ab 1000 rfl trivial ?_
          refine S_retc (nextAV_free _) rfl trivial ?_
          rw [hN, if_pos (.inl he)]; rfl
        · have he : e = 0 := by
            exact Classical.byContradiction fun h => absurd (((bne_iff_ne (a := ((e : Nat) : Int)) (b := 0)).2 (by omega)).symm.trans hg) (by decide)
          subst he
          refine ab 1000 rfl trivial ?_
          refine S_guard rfl rfl rfl rfl (fun hh => ?_) (fun hh => ?_)
          · have hh : 100000 < n := by have := of_decide_eq_true hh; omega
            refine ab 1000 rfl trivial ?_
            refine S_cond rfl (fun _ => ?_) (fun hh => by cases hh)
            refine ab 1000 rfl trivial ?_
            refine S_retc (nextAV_free _) rfl trivial ?_
            rw [hN, if_pos (.inr (.inl hh))]; rfl
          · have hh : n ≤ 100000 := by have := of_decide_eq_false hh; omega
            have w1 : IntKind.i64.wrap (1 + (k : Int)) = ((1 + k : Nat) : Int) := w64 rfl (by omega)
            have w2 : IntKind.i64.wrap (((1 + k : Nat) : Int) + (n : Int)) = ((1 + k + n : Nat) : Int) := w64 rfl (by omega)
            have w3 : IntKind.i64.wrap (((1 + k + n : Nat) : Int) + 4) = ((1 + k + n + 4 : Nat) : Int) := w64 rfl (by omega)
            refine ab 1000 rfl trivial ?_
            refine S_weak (fr' := [(0, .str l), (5, .int .i64 n), (6, .int .i64 k), (39, .bool (decide ((l.length : Int) < ((1 + k + n + 4 : Nat) : Int))))]) (.cons rfl (.cons rfl (.cons rfl (.cons ?_ (.nil _))))) ?_
            · show AV.bool (decide ((l.length : Int) < IntKind.i64.wrap (IntKind.i64.wrap (IntKind.i64.wrap (1 + (k : Int)) + (n : Int)) + 4))) = _
              rw [w1, w2, w3]
            refine S_dec rfl (fun hlen => ?_) (fun hlen => ?_)
            · refine ab 1000 rfl trivial ?_
              refine S_retc (nextAV_free _) rfl trivial ?_
              rw [hN, if_pos (.inr (.inr (by omega)))]; rfl
            · rw [if_neg (by simp; omega)] at hN
              refine ab 1000 rfl ⟨by rw [w1, w2]; omega, by rw [w1, w2]; omega, by rw [w1]; omega, trivial⟩ ?_
              have hcut : cutL (some (IntKind.i64.wrap (1 + (k : Int)))) (some (IntKind.i64.wrap (IntKind.i64.wrap (1 + (k : Int)) + (n : Int)))) l = (l.drop (1 + k)).take n := by
                rw [w1, w2]
                simp only [cutL, Int.toNat_natCast, List.drop_take]
                congr 1; omega
              generalize hs' : (l.drop (1 + k)).take n = s' at *
              have hsl : s'.length ≤ 100000 := by rw [← hs']; simp; omega
              refine S_weak (fr' := [(0, .str l), (8, .str s'), (9, .int .i64 ((1 + k + n + 4 : Nat) : Int))]) (.cons rfl (.cons (congrArg _ hcut) (.cons ?_ (.nil _)))) ?_
              · show AV.int .i64 (IntKind.i64.wrap (IntKind.i64.wrap (IntKind.i64.wrap (1 + (k : Int)) + (n : Int)) + 4)) = _
                rw [w1, w2, w3]
              refine S_draw 13 [] [.str (entryOf s')] rfl rfl rfl rfl ⟨rfl, rfl, rfl, rfl, by omega, by omega, rfl, ⟨_, entry_ok s' (by omega), .cons (.refl .str) (.nil _)⟩, rfl, rfl, rfl, by omega, by omega, rfl, rfl, rfl, rfl, trivial⟩ ?_
              refine ab 1000 rfl trivial ?_
              refine S_retc (nextAV_free _) rfl trivial ?_
              rw [hN]
              show AV.tup [.str s', .str (l.drop ((1 + k + n + 4 : Nat) : Int).toNat), .bool (entryOf s' == l.take ((1 + k + n + 4 : Nat) : Int).toNat)] = _
              rw [Int.toNat_natCast]; rfl

end Go.Proofs.Ytjbgcbolakdhaaa
