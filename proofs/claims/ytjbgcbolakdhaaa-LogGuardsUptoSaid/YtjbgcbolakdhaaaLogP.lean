/-
  A sum tells whether a letter is another one; the law LogGuards.
-/
import Derived.Test.YtjbgcbolakdhaaaLogN
set_option linter.unusedVariables false
set_option linter.unusedSimpArgs false
set_option maxRecDepth 20000
namespace Go.Proofs.Ytjbgcbolakdhaaa
open Go Go.Ab

theorem xor_rc {a b c : Nat} (h : a ^^^ b = c ^^^ b) : a = c := by
  have := congrArg (· ^^^ b) h
  simpa [Nat.xor_assoc] using this

theorem xor_lc {a b c : Nat} (h : a ^^^ b = a ^^^ c) : b = c := xor_rc (b := a) (by rw [Nat.xor_comm b a, Nat.xor_comm c a]; exact h)

theorem crcStep_inj {c d : Nat} (hc : c < 4294967296) (hd : d < 4294967296) (h : crcStep c = crcStep d) : c = d := by
  have top : ∀ x y : Nat, x < 2147483648 → y < 2147483648 → x ^^^ 3988292384 ≠ y := by
    intro x y hx hy he
    have h1 := congrArg (fun n => n.testBit 31) he
    simp only [Nat.testBit_xor] at h1
    rw [Nat.testBit_lt_two_pow (show x < 2 ^ 31 from hx), Nat.testBit_lt_two_pow (show y < 2 ^ 31 from hy)] at h1
    exact absurd h1 (by decide)
  unfold crcStep at h
  split at h <;> split at h
  · have := xor_rc h
    omega
  · exact absurd h (top _ _ (by omega) (by omega))
  · exact absurd h.symm (top _ _ (by omega) (by omega))
  · omega

theorem rep_inj : ∀ (k c d : Nat), c < 4294967296 → d < 4294967296 → rep crcStep k c = rep crcStep k d → c = d
  | 0, c, d, hc, hd, h => h
  | k + 1, c, d, hc, hd, h => crcStep_inj hc hd (rep_inj k _ _ (crcStep_lt hc) (crcStep_lt hd) h)

theorem refOf_inj : ∀ (s : List UInt8) (c d : Nat), c < 4294967296 → d < 4294967296 → refOf s c = refOf s d → c = d
  | [], c, d, hc, hd, h => h
  | b :: s, c, d, hc, hd, h => by
    have h1 : refOf s (rep crcStep 8 (c ^^^ b.toNat)) = refOf s (rep crcStep 8 (d ^^^ b.toNat)) := h
    have h2 := refOf_inj s _ _ (refOne_lt hc b) (refOne_lt hd b) h1
    have hb := b.toNat_lt
    have h3 := rep_inj 8 _ _ (Nat.xor_lt_two_pow (n := 32) hc (by omega)) (Nat.xor_lt_two_pow (n := 32) hd (by omega)) h2
    exact xor_rc h3

theorem refOf_lt : ∀ (s : List UInt8) (c : Nat), c < 4294967296 → refOf s c < 4294967296
  | [], c, h => h
  | b :: s, c, h => refOf_lt s _ (refOne_lt h b)

theorem refOf_ne (a b : List UInt8) (x y : UInt8) (c : Nat) (hc : c < 4294967296) (h : x ≠ y) : refOf (a ++ x :: b) c ≠ refOf (a ++ y :: b) c := by
  intro he
  unfold refOf at he
  simp only [List.foldl_append, List.foldl_cons] at he
  have hA := refOf_lt a c hc
  have h1 := refOf_inj b _ _ (refOne_lt hA x) (refOne_lt hA y) he
  have hx := x.toNat_lt
  have hy := y.toNat_lt
  have h2 := rep_inj 8 _ _ (Nat.xor_lt_two_pow (n := 32) hA (by omega)) (Nat.xor_lt_two_pow (n := 32) hA (by omega)) h1
  exact h (UInt8.toNat_inj.1 (xor_lc h2))

theorem sumOf_ne (a b : List UInt8) (x y : UInt8) (h : x ≠ y) : sumOf (a ++ x :: b) ≠ sumOf (a ++ y :: b) := by
  unfold sumOf
  rw [crcOf_ref, crcOf_ref]
  have h1 := refOf_ne a b x y 4294967295 (by decide) h
  have h2 := refOf_lt (a ++ x :: b) 4294967295 (by decide)
  have h3 := refOf_lt (a ++ y :: b) 4294967295 (by decide)
  omega

theorem le4_inj {c d : Nat} (hc : c < 4294967296) (hd : d < 4294967296) (h : le4 c = le4 d) : c = d := by
  simp only [le4, List.cons.injEq, and_true] at h
  obtain ⟨h1, h2, h3, h4⟩ := h
  have e : ∀ a b : Nat, a < 256 → b < 256 → UInt8.ofNat a = UInt8.ofNat b → a = b := by
    intro a b ha hb he
    have := congrArg UInt8.toNat he
    rw [UInt8.toNat_ofNat', UInt8.toNat_ofNat', Nat.mod_eq_of_lt (by omega), Nat.mod_eq_of_lt (by omega)] at this
    exact this
  have k1 := e _ _ (by omega) (by omega) h1
  have k2 := e _ _ (by omega) (by omega) h2
  have k3 := e _ _ (by omega) (by omega) h3
  have k4 := e _ _ (by omega) (by omega) h4
  omega

/-- An entry whose text is another one. -/
def badOf (s s' : List UInt8) : List UInt8 := 76 :: (packN 9 s.length ++ (s' ++ le4 (sumOf s)))

theorem nextL_badOf (s s' rest : List UInt8) (hs : s.length ≤ 100000) (hl : s'.length = s.length) (hne : sumOf s' ≠ sumOf s) : (nextL (badOf s s' ++ rest)).2.2 = false := by
  have hp := readN_of_pack s.length (s' ++ le4 (sumOf s) ++ rest) (by omega)
  have he : badOf s s' ++ rest = 76 :: (packN 9 s.length ++ (s' ++ le4 (sumOf s) ++ rest)) := by simp [badOf]
  have hl4 : ∀ c, (le4 c).length = 4 := fun _ => rfl
  rw [he, nextL_cons 76 _ (by decide) _ hp]
  simp only
  have hen : entryOf s' = 76 :: (packN 9 s.length ++ (s' ++ le4 (sumOf s'))) := by simp [entryOf, hl]
  generalize packN 9 s.length = p at *
  rw [if_neg (by simp [hl4]; omega)]
  simp only
  have h1 : (76 :: (p ++ (s' ++ le4 (sumOf s) ++ rest))).drop (1 + p.length) = s' ++ le4 (sumOf s) ++ rest := by
    rw [Nat.add_comm, List.drop_succ_cons, List.drop_left]
  have h2 : (s' ++ le4 (sumOf s) ++ rest).take s.length = s' := by rw [List.append_assoc, ← hl, List.take_left]
  have h4 : (76 :: (p ++ (s' ++ le4 (sumOf s) ++ rest))).take (1 + p.length + s.length + 4) = 76 :: (p ++ (s' ++ le4 (sumOf s))) := by
    rw [show 76 :: (p ++ (s' ++ le4 (sumOf s) ++ rest)) = (76 :: (p ++ (s' ++ le4 (sumOf s)))) ++ rest by simp]
    exact List.take_left' (by simp [hl4]; omega)
  rw [h1, h2, h4, hen]
  rw [beq_eq_false_iff_ne]
  intro h
  have h5 := (List.cons.inj h).2
  have h6 := List.append_cancel_left h5
  have h7 := List.append_cancel_left h6
  exact hne (le4_inj (sumOf_lt _) (sumOf_lt _) h7)

theorem allOf_bad (l : List (List UInt8)) (s s' rest : List UInt8) (hN : ∀ s ∈ l, s.length ≤ 100000) (hs : s.length ≤ 100000) (hl : s'.length = s.length) (hne : sumOf s' ≠ sumOf s) :
    (allOf (entriesOf l ++ (badOf s s' ++ rest))).1 = l := by
  rw [allOf_entries l _ hN]
  have hno := nextL_badOf s s' rest hs hl hne
  generalize badOf s s' ++ rest = r at *
  have : allOf r = ([], r) := by
    unfold allOf
    cases r.length <;> simp [readAll, hno]
  rw [this]; simp

end Go.Proofs.Ytjbgcbolakdhaaa
