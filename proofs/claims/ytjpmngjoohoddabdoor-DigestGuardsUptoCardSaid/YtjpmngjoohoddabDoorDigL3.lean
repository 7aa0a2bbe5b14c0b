/-
  The program's Root; the laws DigestRoots, DigestSplits.
-/
import Derived.Test.YtjpmngjoohoddabDoorDigS
import Derived.Test.YtjpmngjoohoddabDoorRefI
set_option linter.unusedVariables false
set_option linter.unusedSimpArgs false
set_option maxRecDepth 20000
namespace Go.Proofs.YtjpmngjoohoddabDoor
open Go Go.Ab

theorem checkL_fit {l : List (List UInt8)} (h : checkL l 2000 = 0) : TextsFit l := by
  unfold checkL at h
  split at h
  · cases h
  rename_i h1
  split at h
  · cases h
  rename_i h2
  refine ⟨by omega, fun s hs => ?_⟩
  rcases Nat.lt_or_ge 100000 s.length with h | h
  · exact absurd (List.any_eq_true.2 ⟨s, hs, by simpa using h⟩) h2
  · exact h

theorem fit_checkL {l : List (List UInt8)} (h : TextsFit l) : checkL l 2000 = 0 := by
  unfold checkL
  rw [if_neg (by have := h.len; omega), if_neg]
  intro h2
  obtain ⟨s, hs, h3⟩ := List.any_eq_true.1 h2
  have := h.txt s hs
  simp at h3; omega

theorem check_ok {st fl : Bool} (l : List (List UInt8)) (hl : l.length ≤ 9223372036854775806) : Calc cx 49 [.sl st fl 1 (texts l)] (.int .i64 (checkL l 2000 : Nat)) :=
  pure_intro (fun a w => Tryd.call49 a w) Tryd.func49 rfl Tryd.ntmps49 rfl .int fun B => by
    have htl := texts_len l
    refine ab 1000 rfl trivial ?_
    refine S_dec rfl (fun h => ?_) (fun h => ?_)
    · have h : 2000 < l.length := by have : (2000 : Int) < (((texts l).length : Nat) : Int) := h; omega
      refine ab 1000 rfl trivial ?_
      refine S_retc .int rfl trivial ?_
      rw [checkL, if_pos h]; rfl
    have h2 : ¬ 2000 < l.length := by have : ¬ (2000 : Int) < (((texts l).length : Nat) : Int) := h; omega
    refine ab 1000 rfl trivial ?_
    refine S_while (α := Nat) (fun i => [(8, .sl st fl 1 (texts l)), (9, .int .i64 ((texts l).length : Nat)), (10, .int .i64 (i : Nat))]) (fun _ => []) (fun i => i ≤ l.length ∧ ∀ s ∈ l.take i, s.length ≤ 100000) (fun i => l.length - i) 0
      ⟨Nat.zero_le _, by simp⟩ (.cons rfl (.cons rfl (.cons rfl (.nil _)))) rfl ?_
    rintro i ⟨hi, hN⟩
    refine ab 1000 rfl trivial ?_
    refine S_dec rfl (fun hlt => ?_) (fun hlt => ?_)
    · have hil : i < l.length := by have : ((i : Nat) : Int) < ((texts l).length : Nat) := hlt; omega
      refine ab 1000 rfl trivial ?_
      refine S_index (.str l[i]) rfl rfl rfl ⟨rfl, by omega, by rw [Int.toNat_natCast]; exact texts_get hil, trivial⟩ ?_
      refine ab 1000 rfl trivial ?_
      refine S_dec rfl (fun h => ?_) (fun h => ?_)
      · have h : 100000 < l[i].length := by have : (100000 : Int) < ((l[i].length : Nat) : Int) := h; omega
        refine ab 1000 rfl trivial ?_
        refine S_retc .int rfl trivial ?_
        rw [checkL, if_neg h2, if_pos (List.any_eq_true.2 ⟨l[i], List.getElem_mem hil, by simpa using h⟩)]; rfl
      · have h : l[i].length ≤ 100000 := by have : ¬ (100000 : Int) < ((l[i].length : Nat) : Int) := h; omega
        refine ab 1000 rfl trivial ?_
        refine S_round (i + 1) (by show l.length - (i + 1) < l.length - i; omega) ⟨hil, fun s hs => ?_⟩ (.cons rfl (.cons rfl (.cons (ai64 rfl (by omega)) (.nil _)))) rfl
        rw [List.take_succ_eq_append_getElem hil] at hs
        rcases List.mem_append.1 hs with hs | hs
        · exact hN s hs
        · simp at hs; subst hs; exact h
    · have hil : i = l.length := by have : ¬ ((i : Nat) : Int) < ((texts l).length : Nat) := hlt; omega
      rw [hil, List.take_length] at hN
      refine ab 1000 rfl trivial ?_
      refine S_retc .int rfl trivial ?_
      rw [fit_checkL ⟨by omega, hN⟩]; rfl

theorem Root_ok {st fl : Bool} (l : List (List UInt8)) (hl : l.length ≤ 9223372036854775806) : Calc cx 17 [.sl st fl 1 (texts l)] (.tup [.str (if checkL l 2000 = 0 then rootS l else []), .int .i64 (checkL l 2000 : Nat)]) :=
  pure_intro (fun a w => Tryd.call17 a w) Tryd.func17 rfl Tryd.ntmps17 rfl (ans_free _ _) fun B => by
    have lend : ∀ σ : Heap, Frz false σ (.sl st fl 1 (texts l)) (.sl st fl 1 (texts l)) := fun σ => .refl (.sl (fun h => by cases h) (texts_any l))
    refine ab 1000 rfl trivial ?_
    refine S_pure rfl rfl rfl (check_ok (st := st) (fl := fl) l hl) (.cons (lend _) (.nil _)) ?_
    refine ab 1000 rfl trivial ?_
    refine S_bne rfl (fun h => ?_) (fun h => ?_)
    · have h : checkL l 2000 ≠ 0 := by have : ((checkL l 2000 : Nat) : Int) ≠ 0 := h; omega
      refine ab 1000 rfl trivial ?_
      refine S_retc (ans_free _ _) rfl trivial ?_
      rw [if_neg h]; rfl
    · have h : checkL l 2000 = 0 := by have : ((checkL l 2000 : Nat) : Int) = 0 := h; omega
      refine ab 1000 rfl trivial ?_
      refine S_pure rfl rfl rfl (root_ok l.length l rfl (checkL_fit h)) (.cons (.lend rfl (fun h => by cases h) (texts_any l)) (.nil _)) ?_
      refine ab 1000 rfl trivial ?_
      refine S_retc (ans_free _ _) rfl trivial ?_
      rw [h, if_pos rfl]; rfl

theorem DigestRoots_ok {st fl : Bool} (l : List (List UInt8)) (hl : l.length ≤ 1048576) : Calc cx 4 [.sl st fl 1 (texts l)] (.bool true) :=
  pure_intro (fun a w => Tryd.call4 a w) Tryd.func4 rfl Tryd.ntmps4 rfl .bool fun B => by
    have lend : ∀ σ : Heap, Frz false σ (.sl st fl 1 (texts l)) (.sl st fl 1 (texts l)) := fun σ => .refl (.sl (fun h => by cases h) (texts_any l))
    refine ab 1000 rfl trivial ?_
    refine S_pure rfl rfl rfl (Root_ok (st := st) (fl := fl) l (by omega)) (.cons (lend _) (.nil _)) ?_
    refine ab 1000 rfl trivial ?_
    refine S_pure rfl rfl rfl (CheckList_ok (st := st) (fl := fl) l 2000 (by omega)) (.cons (lend _) (.cons (.refl .int) (.nil _))) ?_
    refine ab 1000 rfl trivial ?_
    refine S_beq rfl (fun hc => ?_) (fun hc => ?_)
    · have hc : checkL l 2000 = 0 := by have : ((checkL l 2000 : Nat) : Int) = 0 := hc; omega
      rw [hc, if_pos rfl]
      refine ab 1000 rfl trivial ?_
      refine S_pure rfl rfl rfl (RootOf_ok (st := st) (fl := fl) l (checkL_fit hc)) (.cons (lend _) (.nil _)) ?_
      refine ab 1000 rfl trivial ?_
      refine S_pure rfl rfl rfl digestBegun_ok (.nil _) ?_
      refine ab 1000 rfl trivial ?_
      refine S_guard rfl rfl rfl rfl (fun _ => ?_) (fun h => by cases h)
      refine ab 1000 rfl trivial ?_
      refine S_pure rfl rfl rfl (textIs_ok (rootS l) (rootS l) 0 0) (.cons (.refl .str) (.cons (.refl .int) (.cons (.refl .int) (.cons (.refl .str) (.nil _))))) ?_
      refine ab 1000 rfl trivial ?_
      refine S_retc .bool rfl trivial ?_
      show AV.bool _ = _
      simp
    · have hc : checkL l 2000 ≠ 0 := by have : ((checkL l 2000 : Nat) : Int) ≠ 0 := hc; omega
      rw [if_neg hc]
      generalize checkL l 2000 = e at *
      refine ab 1000 rfl trivial ?_
      refine S_pure rfl rfl rfl digestBegun_ok (.nil _) ?_
      refine ab 1000 rfl trivial ?_
      refine S_guard rfl rfl rfl rfl (fun _ => ?_) (fun h => by cases h)
      refine ab 1000 rfl trivial ?_
      refine S_pure rfl rfl rfl (textIs_ok [] [] e e) (.cons (.refl .str) (.cons (.refl .int) (.cons (.refl .int) (.cons (.refl .str) (.nil _))))) ?_
      refine ab 1000 rfl trivial ?_
      refine S_retc .bool rfl trivial ?_
      show AV.bool _ = _
      simp

theorem DigestSplits_ok {st fl : Bool} (l : List (List UInt8)) (hl : l.length ≤ 1048576) : Calc cx 6 [.sl st fl 1 (texts l)] (.bool true) :=
  pure_intro (fun a w => Tryd.call6 a w) Tryd.func6 rfl Tryd.ntmps6 rfl .bool fun B => by
    have lend : ∀ σ : Heap, Frz false σ (.sl st fl 1 (texts l)) (.sl st fl 1 (texts l)) := fun σ => .refl (.sl (fun h => by cases h) (texts_any l))
    have htl := texts_len l
    refine ab 1000 rfl trivial ?_
    refine S_pure rfl rfl rfl digestBegun_ok (.nil _) ?_
    refine ab 1000 rfl trivial ?_
    refine S_cond rfl (fun h => by cases h) (fun _ => ?_)
    refine ab 1000 rfl trivial ?_
    refine S_pure rfl rfl rfl (Root_ok (st := st) (fl := fl) l (by omega)) (.cons (lend _) (.nil _)) ?_
    refine ab 1000 rfl trivial ?_
    by_cases hc : checkL l 2000 = 0
    · have hf := checkL_fit hc
      have hf1 := hf.len
      rw [hc, if_pos rfl]
      refine S_guard rfl rfl rfl rfl (fun h => by cases h) (fun _ => ?_)
      refine ab 1000 rfl trivial ?_
      refine S_dec rfl (fun h => ?_) (fun h => ?_)
      · refine ab 1000 rfl trivial ?_
        exact S_retc .bool rfl trivial rfl
      have h2 : 2 ≤ l.length := by have : ¬ (((texts l).length : Nat) : Int) < 2 := h; omega
      have hs := halfN_spec h2
      obtain ⟨k, hk⟩ : ∃ k, k = halfN l.length := ⟨_, rfl⟩
      rw [← hk] at hs
      have eA : (texts l).take k = texts (l.take k) := by simp [texts]
      have eB : (texts l).drop k = texts (l.drop k) := by simp [texts]
      have fA : ∀ (σ : Heap) (fl : Bool), Frz false σ (.sl st fl 1 ((texts l).take ((k : Nat) : Int).toNat)) (.sl false false 1 (texts (l.take k))) := fun σ fl => by
        rw [Int.toNat_natCast, eA]; exact .lend rfl (fun h => by cases h) (texts_any _)
      have fB : ∀ (σ : Heap) (fl : Bool), Frz false σ (.sl st fl 1 ((texts l).drop ((k : Nat) : Int).toNat)) (.sl false false 1 (texts (l.drop k))) := fun σ fl => by
        rw [Int.toNat_natCast, eB]; exact .lend rfl (fun h => by cases h) (texts_any _)
      have b1 : (0 : Int) ≤ (k : Nat) ∧ ((k : Nat) : Int) ≤ ((texts l).length : Nat) := by omega
      have rA := Root_ok (st := false) (fl := false) (l.take k) (by rw [List.length_take]; omega)
      have rB := Root_ok (st := false) (fl := false) (l.drop k) (by rw [List.length_drop]; omega)
      rw [fit_checkL (hf.take k), if_pos rfl] at rA
      rw [fit_checkL (hf.drop k), if_pos rfl] at rB
      have dA := rootS_dig (l.take k)
      have dB := rootS_dig (l.drop k)
      have rP := Pair_ok (rootS (l.take k)) (rootS (l.drop k)) (by have := (hexE_dig dA).1; omega) (by have := (hexE_dig dB).1; omega)
      rw [dA, dB] at rP
      refine ab 1000 rfl trivial ?_
      refine S_pure rfl rfl rfl (by have := Half_ok (texts l).length (by omega) (by omega); rwa [htl, ← hk] at this) (.cons (by rw [← htl]; exact .refl .int) (.nil _)) ?_
      refine ab 1000 rfl ⟨rfl, b1.2, b1.1, trivial⟩ ?_
      refine S_pure rfl rfl rfl rA (.cons (fA _ _) (.nil _)) ?_
      refine ab 1000 rfl ⟨rfl, b1.2, b1.1, trivial⟩ ?_
      refine S_pure rfl rfl rfl rB (.cons (fB _ _) (.nil _)) ?_
      refine ab 1000 rfl trivial ?_
      refine S_pure rfl rfl rfl rP (.cons (.refl .str) (.cons (.refl .str) (.nil _))) ?_
      refine ab 1000 rfl trivial ?_
      refine S_guard rfl rfl rfl rfl (fun _ => ?_) (fun h => by cases h)
      refine ab 1000 rfl trivial ?_
      refine S_guard rfl rfl rfl rfl (fun _ => ?_) (fun h => by cases h)
      refine ab 1000 rfl trivial ?_
      refine S_guard rfl rfl rfl rfl (fun _ => ?_) (fun h => by cases h)
      refine ab 1000 rfl trivial ?_
      have hr : rootS l = pairS (rootS (l.take k)) (rootS (l.drop k)) := rootS_split h2 hk
      have hbe : (pairS (rootS (l.take k)) (rootS (l.drop k)) == rootS l) = true := by rw [hr]; simp
      refine S_guard rfl rfl rfl rfl (fun _ => ?_) (fun h => ?_)
      · refine ab 1000 rfl trivial ?_
        refine S_pure rfl rfl rfl (by have := digestIs_ok (rootS l) (by have := (hexE_dig (rootS_dig l)).1; omega); rwa [rootS_dig] at this) (.cons (.refl .str) (.nil _)) ?_
        refine ab 1000 rfl trivial ?_
        refine S_retc .bool rfl trivial ?_
        exact congrArg AV.bool (by first | exact hbe | rfl)
      · exfalso
        have h : (pairS (rootS (l.take k)) (rootS (l.drop k)) == rootS l) = false := h
        rw [hbe] at h; cases h
    · rw [if_neg hc]
      generalize checkL l 2000 = e at *
      have hne : (((e : Nat) : Int) != 0) = true := by simp; omega
      refine S_guard rfl rfl rfl rfl (fun _ => ?_) (fun h => absurd (h.symm.trans hne) (by decide))
      refine ab 1000 rfl trivial ?_
      refine S_cond rfl (fun _ => ?_) (fun h => by cases h)
      refine ab 1000 rfl trivial ?_
      exact S_retc .bool rfl trivial rfl

end Go.Proofs.YtjpmngjoohoddabDoor
