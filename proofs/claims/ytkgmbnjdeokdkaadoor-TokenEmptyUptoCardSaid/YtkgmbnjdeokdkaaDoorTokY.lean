/-
  The law TokenEmpty, plain: what stands ahead of a source moves its places, and no more.
-/
import Derived.Test.YtkgmbnjdeokdkaaDoorTokX
set_option linter.unusedVariables false
set_option linter.unusedSimpArgs false
set_option maxRecDepth 20000
namespace Go.Proofs.YtkgmbnjdeokdkaaDoor
open Go Go.Ab

def shF (P : Nat) (e : Flt) : Flt := (e.1, P + e.2)
def shT (P : Nat) (t : Tok) : Tok := ⟨t.kind, t.text, t.num, P + t.place⟩

section
variable {pre s : List UInt8} {P : Nat} (hP : pre.length = P)
include hP

theorem drop_sh (i : Nat) : (pre ++ s).drop (P + i) = s.drop i := by
  rw [← hP, List.drop_append, List.drop_eq_nil_of_le (by omega), Nat.add_sub_cancel_left, List.nil_append]

theorem get_sh (i : Nat) : (pre ++ s)[P + i]? = s[i]? := by
  rw [List.getElem?_append_right (by omega)]; congr 1; omega

theorem getD_sh (i : Nat) : (pre ++ s).getD (P + i) 0 = s.getD i 0 := by
  rw [List.getD, List.getD, get_sh hP]

theorem stopAt_sh (p : UInt8 → Bool) (i : Nat) : stopAt p (pre ++ s) (P + i) = P + stopAt p s i := by
  rw [stopAt, stopAt, drop_sh hP, Nat.add_assoc]

theorem gapE_sh (i : Nat) : gapE (pre ++ s) (P + i) = P + gapE s i := stopAt_sh hP _ i

theorem gapC_sh (i : Nat) : gapC (pre ++ s) (P + i) = P + gapC s i := by
  rw [gapC, gapC, gapE_sh hP, get_sh hP, stopAt_sh hP]
  split <;> rfl

theorem cutT_sh (i j : Nat) : cutT (pre ++ s) (P + i) (P + j) = cutT s i j := by
  have : (pre ++ s).take (P + j) = pre ++ s.take j := by
    rw [List.take_append, List.take_of_length_le (by omega)]; congr 2; omega
  rw [cutT, this, drop_sh hP, cutT]

theorem signAt_sh (i : Nat) : signAt (pre ++ s) (P + i) = signAt s i := by
  rw [signAt, signAt, drop_sh hP]
end

theorem quoteS_sh (P : Nat) : ∀ (n : Nat) (l : List UInt8), l.length ≤ n → ∀ (i : Nat) (b : List UInt8), quoteS l (P + i) b = match quoteS l i b with | .inl p => .inl (P + p) | .inr (b', j) => .inr (b', P + j)
  | 0, l, hn, i, b => by
    have : l = [] := List.length_eq_zero_iff.1 (by omega)
    subst this; simp [quoteS]
  | n + 1, [], hn, i, b => by simp [quoteS]
  | n + 1, c :: r, hn, i, b => by
    simp only [List.length_cons] at hn
    rw [quoteS.eq_def, quoteS.eq_def (c :: r) i b]
    simp only
    split
    · rfl
    · split
      · rfl
      · split
        · exact quoteS_sh P n r (by omega) (i + 1) (b ++ [c])
        · split
          · rfl
          · rename_i d r
            simp only [List.length_cons] at hn
            split
            · rfl
            · exact quoteS_sh P n r (by omega) (i + 2) _

def shO (P : Nat) (x : Flt ⊕ (Tok × Nat × Nat)) : Flt ⊕ (Tok × Nat × Nat) := match x with
  | .inl e => .inl (shF P e)
  | .inr (t, j, o) => .inr (shT P t, P + j, o)

theorem oneS_sh {pre s : List UInt8} {P : Nat} (hP : pre.length = P) (i o : Nat) : oneS (pre ++ s) (P + i) o = shO P (oneS s i o) := by
  unfold oneS
  rw [getD_sh hP, stopAt_sh hP, stopAt_sh hP, cutT_sh hP, cutT_sh hP, signAt_sh hP, show P + i + 1 = P + (i + 1) by omega, drop_sh hP, quoteS_sh P _ _ (Nat.le_refl _)]
  split
  · rfl
  · split
    · have : (P + (i + 1) < P + stopAt isDg s i) ↔ (i + 1 < stopAt isDg s i) := by omega
      simp only [this]
      split <;> rfl
    · split
      · cases quoteS (s.drop (i + 1)) (i + 1) [] with
        | inl p => rfl
        | inr q => rfl
      · cases signAt s i with
        | none => rfl
        | some t =>
          simp only [Nat.add_assoc]
          split
          · split <;> rfl
          · split
            · split <;> rfl
            · rfl

def shL (P : Nat) (x : Flt ⊕ (Nat × List Tok)) : Flt ⊕ (Nat × List Tok) := match x with
  | .inl e => .inl (shF P e)
  | .inr (k, l) => .inr (P + k, l.map (shT P))

theorem lineF_sh {pre s : List UInt8} {P : Nat} (hP : pre.length = P) : ∀ (f f' : Nat) (i o : Nat) (out : List Tok), i ≤ s.length → s.length - i < f → s.length - i < f' → lineF f (pre ++ s) (P + i) o (out.map (shT P)) = shL P (lineF f' s i o out)
  | 0, f', i, o, out, hi, h, h' => by omega
  | f + 1, 0, i, o, out, hi, h, h' => by omega
  | f + 1, f' + 1, i, o, out, hi, h, h' => by
    rw [lineF, lineF, get_sh hP]
    have hl : (P + i < (pre ++ s).length) ↔ i < s.length := by rw [List.length_append, hP]; omega
    simp only [hl]
    split
    · rename_i hc
      split
      · rw [show P + i + 1 = P + (i + 1) by omega, gapC_sh hP]
        have hg := gapC_le (s := s) (i := i + 1) (by omega)
        exact lineF_sh hP f f' (gapC s (i + 1)) o out hg.2 (by omega) (by omega)
      · rw [oneS_sh hP]
        cases hx : oneS s i o with
        | inl e => rfl
        | inr q =>
          obtain ⟨t, j, o'⟩ := q
          have hb := oneS_le hc.1 hx
          have hg := gapC_le (s := s) (i := j) (by omega)
          show lineF f (pre ++ s) (gapC (pre ++ s) (P + j)) o' (out.map (shT P) ++ [shT P t]) = shL P (lineF f' s (gapC s j) o' (out ++ [t]))
          rw [gapC_sh hP, ← lineF_sh hP f f' (gapC s j) o' (out ++ [t]) hg.2 (by omega) (by omega), List.map_append]; rfl
    · split
      · rfl
      · show Sum.inr (_, _) = shL P (.inr (_, _))
        unfold shL
        simp only [List.map_append]
        congr 2
        split <;> omega

def shG (P : Nat) (x : Flt ⊕ (List Nat × List Tok)) : Flt ⊕ (List Nat × List Tok) := match x with
  | .inl e => .inl (shF P e)
  | .inr (k, l) => .inr (k, l.map (shT P))

theorem furS_sh (P n i : Nat) (ins : List Nat) : furS n (P + i) ins = shG P (furS n i ins) := by
  unfold furS
  split
  · split <;> rfl
  · split
    · unfold shG; simp only [List.map_replicate]; rfl
    · rfl

def shA (P : Nat) (x : Flt ⊕ List Tok) : Flt ⊕ List Tok := match x with
  | .inl e => .inl (shF P e)
  | .inr l => .inr (l.map (shT P))

theorem allF_sh {pre s : List UInt8} {P : Nat} (hP : pre.length = P) : ∀ (f f' : Nat) (i : Nat) (ins : List Nat) (out : List Tok), i ≤ s.length → s.length - i < f → s.length - i < f' → allF f (pre ++ s) (P + i) ins (out.map (shT P)) = shA P (allF f' s i ins out)
  | 0, f', i, ins, out, hi, h, h' => by omega
  | f + 1, 0, i, ins, out, hi, h, h' => by omega
  | f + 1, f' + 1, i, ins, out, hi, h, h' => by
    rw [allF, allF, gapC_sh hP, get_sh hP, gapE_sh hP, furS_sh, furS_sh]
    have hg := gapC_le hi
    have hl : ((pre ++ s).length ≤ P + gapC s i) ↔ s.length ≤ gapC s i := by rw [List.length_append, hP]; omega
    have hn : P + gapE s i - (P + i) = gapE s i - i := by omega
    simp only [hl, hn]
    split
    · cases furS 0 (gapC s i) ins with
      | inl e => rfl
      | inr q => show Sum.inr _ = Sum.inr _; rw [List.map_append]
    · rename_i hlt
      split
      · exact allF_sh hP f f' (gapC s i + 1) ins out (by omega) (by omega) (by omega)
      · cases hx : furS (gapE s i - i) (gapC s i) ins with
        | inl e => rfl
        | inr q =>
          obtain ⟨ins', l⟩ := q
          show (match lineF ((pre ++ s).length + 1) (pre ++ s) (P + gapC s i) 0 (out.map (shT P) ++ l.map (shT P)) with | .inl e => .inl e | .inr (k, out') => allF f (pre ++ s) k ins' out') = shA P (match lineF (s.length + 1) s (gapC s i) 0 (out ++ l) with | .inl e => .inl e | .inr (k, out') => allF f' s k ins' out')
          rw [← List.map_append, lineF_sh hP _ (s.length + 1) (gapC s i) 0 (out ++ l) hg.2 (by rw [List.length_append]; omega) (by omega)]
          cases hy : lineF (s.length + 1) s (gapC s i) 0 (out ++ l) with
          | inl e => rfl
          | inr q =>
            obtain ⟨k, out2⟩ := q
            have hb := lineF_le _ hg.2 hy
            have hb4 := hb.2.2.2 (by omega)
            exact allF_sh hP f f' k ins' out2 hb.2.1 (by omega) (by omega)

/-- What is put ahead of a source. -/
def cmt : List UInt8 := [32, 32, 35, 32, 110, 111, 116, 104, 105, 110, 103]
def ahead (b : Nat) : List UInt8 := List.replicate b 32 ++ 10 :: (cmt ++ [10])

theorem gap_blank (b : Nat) (r : List UInt8) : gapE (List.replicate b 32 ++ 10 :: r) 0 = b := by
  have : (List.replicate b (32 : UInt8) ++ 10 :: r).takeWhile (· == 32) = List.replicate b 32 := by
    induction b with
    | zero => rfl
    | succ b ih => rw [List.replicate_succ, List.cons_append, List.takeWhile_cons, ih]; rfl
  rw [gapE, stopAt, List.drop_zero, this, List.length_replicate, Nat.zero_add]

theorem splitS_ahead (b : Nat) (s : List UInt8) (h : (ahead b ++ s).length ≤ 6000) :
    splitS (ahead b ++ s) = ((splitS s).1.map (shT (b + 13)), if (splitS s).2.1 = 0 then (0, 0) else shF (b + 13) (splitS s).2) := by
  have hlen : (ahead b).length = b + 13 := by simp [ahead, cmt]
  have hs : s.length ≤ 6000 := by rw [List.length_append] at h; omega
  have hL : (ahead b ++ s).length = b + 13 + s.length := by rw [List.length_append, hlen]
  have e1 : ahead b ++ s = List.replicate b 32 ++ 10 :: (cmt ++ 10 :: s) := by simp [ahead]
  have g1 : gapE (ahead b ++ s) 0 = b := by rw [e1]; exact gap_blank b _
  have t1 : (ahead b ++ s)[b]? = some 10 := by
    rw [e1, List.getElem?_append_right (by simp)]; simp
  have c1 : gapC (ahead b ++ s) 0 = b := by rw [gapC, g1, t1]; rfl
  have hP1 : (List.replicate b (32 : UInt8) ++ [10]).length = b + 1 := by simp
  have e2 : ahead b ++ s = (List.replicate b 32 ++ [10]) ++ (cmt ++ 10 :: s) := by rw [e1]; simp
  have c2 : gapC (ahead b ++ s) (b + 1) = b + 12 := by
    have := gapC_sh hP1 (s := cmt ++ 10 :: s) 0
    rw [← e2] at this
    rw [show b + 1 = b + 1 + 0 by omega, this]
    have : gapC (cmt ++ 10 :: s) 0 = 11 := rfl
    omega
  have t2 : (ahead b ++ s)[b + 12]? = some 10 := by
    have := get_sh hP1 (s := cmt ++ 10 :: s) 11
    rw [← e2] at this
    rw [show b + 12 = b + 1 + 11 by omega, this]; rfl
  have key : allF ((ahead b ++ s).length + 1) (ahead b ++ s) 0 [0] [] = shA (b + 13) (allF (s.length + 1) s 0 [0] []) := by
    have := allF_sh (s := s) hlen ((ahead b ++ s).length - 1) (s.length + 1) 0 [0] [] (Nat.zero_le _) (by omega) (by omega)
    obtain ⟨n, hn⟩ : ∃ n, (ahead b ++ s).length + 1 = n + 1 + 1 := ⟨(ahead b ++ s).length - 1, by omega⟩
    rw [hn, allF, c1, if_neg (by omega), t1, if_pos rfl, allF, c2, if_neg (by omega), t2, if_pos rfl]
    rw [show (ahead b ++ s).length - 1 = n by omega] at this
    exact this
  unfold splitS
  rw [if_neg (by omega), if_neg (by omega), key]
  cases hx : allF (s.length + 1) s 0 [0] [] with
  | inl e =>
    have := allF_err _ (by omega) (Nat.zero_le _) hx
    show ([], shF (b + 13) e) = ([], if e.1 = 0 then (0, 0) else shF (b + 13) e)
    rw [if_neg (by omega)]
  | inr l => rfl

end Go.Proofs.YtkgmbnjdeokdkaaDoor
