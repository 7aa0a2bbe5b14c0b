/-
  What a proof shows: the program's shown, the reference's Sides and ShowsOf.
-/
import Derived.Test.YtjpmngjoohoddabDoorDigL3
set_option linter.unusedVariables false
set_option linter.unusedSimpArgs false
set_option maxRecDepth 20000
namespace Go.Proofs.YtjpmngjoohoddabDoor
open Go Go.Ab

/-- On which side, from the whole on: true: among the last ones. -/
def sides (i n : Nat) : List Bool :=
  if h : n ≤ 1 then [] else if halfN n ≤ i then true :: sides (i - halfN n) (n - halfN n) else false :: sides i (halfN n)
termination_by n
decreasing_by
  · have := halfN_spec (n := n) (by omega); omega
  · have := halfN_spec (n := n) (by omega); omega

/-- Upwards: the whole's digest first. -/
def upS (leaf : List UInt8) : List (Bool × List UInt8) → List UInt8
  | [] => leaf
  | (s, d) :: r => if s then pairS d (upS leaf r) else pairS (upS leaf r) d

/-- What the program makes of a proof whose last digest comes first. -/
def shownR (leaf : List UInt8) : Nat → Nat → List (List UInt8) → List UInt8 × Bool
  | i, n, [] => if n = 1 then (leaf, true) else ([], false)
  | i, n, d :: q => if n = 1 then (leaf, false) else if halfN n ≤ i then (pairS d (shownR leaf (i - halfN n) (n - halfN n) q).1, (shownR leaf (i - halfN n) (n - halfN n) q).2)
    else (pairS (shownR leaf i (halfN n) q).1 d, (shownR leaf i (halfN n) q).2)

theorem shownR_eq (leaf : List UInt8) : ∀ (q : List (List UInt8)) (i n : Nat), 1 ≤ n → (shownR leaf i n q).2 = decide (q.length = (sides i n).length) ∧ (q.length = (sides i n).length → (shownR leaf i n q).1 = upS leaf ((sides i n).zip q))
  | [], i, n, hn => by
    rw [shownR]
    by_cases h : n = 1
    · subst h; rw [if_pos rfl, sides, dif_pos (by omega)]; simp [upS]
    · rw [if_neg h, sides, dif_neg (by omega)]
      split <;> simp
  | d :: q, i, n, hn => by
    rw [shownR]
    by_cases h : n = 1
    · subst h; rw [if_pos rfl, sides, dif_pos (by omega)]; simp
    · have hs := halfN_spec (n := n) (by omega)
      rw [if_neg h, sides, dif_neg (by omega)]
      by_cases h2 : halfN n ≤ i
      · rw [if_pos h2, if_pos h2]
        obtain ⟨e1, e2⟩ := shownR_eq leaf q (i - halfN n) (n - halfN n) (by omega)
        refine ⟨by simp only [e1, List.length_cons]; exact decide_eq_decide.2 (by omega), fun h3 => ?_⟩
        simp only [List.length_cons] at h3
        simp only [List.zip_cons_cons, upS, if_true]
        rw [e2 (by omega)]
      · rw [if_neg h2, if_neg h2]
        obtain ⟨e1, e2⟩ := shownR_eq leaf q i (halfN n) (by omega)
        refine ⟨by simp only [e1, List.length_cons]; exact decide_eq_decide.2 (by omega), fun h3 => ?_⟩
        simp only [List.length_cons] at h3
        simp only [List.zip_cons_cons, upS, Bool.false_eq_true, if_false]
        rw [e2 (by omega)]

/-- A digest, or nothing. -/
def DigOr (d : List UInt8) : Prop := isDig d = true ∨ d = []

theorem DigOr.hex {d : List UInt8} (h : DigOr d) : ∃ k, k ≤ 1000 ∧ HexE d k := by
  rcases h with h | rfl
  · exact ⟨32, by decide, hexE_dig h⟩
  · exact ⟨0, by decide, rfl, by simp⟩

theorem shownR_dig {leaf : List UInt8} (hl : isDig leaf = true) : ∀ (q : List (List UInt8)) (i n : Nat), DigOr (shownR leaf i n q).1
  | [], i, n => by rw [shownR]; split; exact .inl hl; exact .inr rfl
  | d :: q, i, n => by
    rw [shownR]
    split
    · exact .inl hl
    · split <;> exact .inl (pairS_dig _ _)

theorem shown_free {s : List UInt8} {b : Bool} : Free true (.tup [.str s, .bool b]) := .tup (by intro x hx; simp at hx; rcases hx with rfl | rfl; exact .str; exact .bool)

theorem shown_ok (text : List UInt8) (ht : text.length ≤ 100000) : ∀ (q : List (List UInt8)) (i n : Nat), 1 ≤ n → n ≤ 2000 → i ≤ 2000 → q.length ≤ 1048576 → (∀ d ∈ q, isDig d = true) →
    Calc cx 52 [.str text, .int .i64 (i : Nat), .int .i64 (n : Nat), .sl false false 1 (texts q.reverse)] (.tup [.str (shownR (leafS text) i n q).1, .bool (shownR (leafS text) i n q).2]) := by
  intro q
  induction q with
  | nil =>
    intro i n h1 h2 h3 h4 h5
    exact pure_intro (fun a w => Tryd.call52 a w) Tryd.func52 rfl Tryd.ntmps52 rfl shown_free fun B => by
      refine ab 1000 rfl trivial ?_
      refine S_beq rfl (fun h => ?_) (fun h => ?_)
      · have h : n = 1 := by have : ((n : Nat) : Int) = 1 := h; omega
        refine ab 1000 rfl ⟨?_, trivial⟩ ?_
        · show ((1 + text.length : Nat) : Int) ≤ 9223372036854775807; omega
        refine S_pure rfl rfl rfl (Sum_ok (0 :: text) (by simp only [List.length_cons]; omega)) (.cons (.refl .str) (.nil _)) ?_
        refine ab 1000 rfl trivial ?_
        refine S_retc shown_free rfl trivial ?_
        rw [shownR, if_pos h]; rfl
      · have h : n ≠ 1 := by have : ¬ ((n : Nat) : Int) = 1 := h; omega
        refine ab 1000 rfl trivial ?_
        refine S_cond (b := true) rfl (fun _ => ?_) (fun h => by cases h)
        refine ab 1000 rfl trivial ?_
        refine S_retc shown_free rfl trivial ?_
        rw [shownR, if_neg h]; rfl
  | cons d q ih =>
    intro i n h1 h2 h3 h4 h5
    have hql : q.length + 1 ≤ 1048576 := by simpa using h4
    have hdd := h5 d (List.mem_cons_self ..)
    have hqd : ∀ d ∈ q, isDig d = true := fun x hx => h5 x (List.mem_cons_of_mem _ hx)
    have htl : (texts (d :: q).reverse).length = q.length + 1 := by rw [texts_len]; simp
    have ht1 : (texts (d :: q).reverse).take q.length = texts q.reverse := by
      rw [List.reverse_cons]
      simp [texts]
    have htg : (texts (d :: q).reverse)[q.length]? = some (.str d) := by
      rw [List.reverse_cons]
      simp [texts]
    have hlf : isDig (leafS text) = true := isDig_sha _
    exact pure_intro (fun a w => Tryd.call52 a w) Tryd.func52 rfl Tryd.ntmps52 rfl shown_free fun B => by
      refine ab 1000 rfl trivial ?_
      refine S_beq rfl (fun h => ?_) (fun h => ?_)
      · have h : n = 1 := by have : ((n : Nat) : Int) = 1 := h; omega
        refine ab 1000 rfl ⟨?_, trivial⟩ ?_
        · show ((1 + text.length : Nat) : Int) ≤ 9223372036854775807; omega
        refine S_pure rfl rfl rfl (Sum_ok (0 :: text) (by simp only [List.length_cons]; omega)) (.cons (.refl .str) (.nil _)) ?_
        refine ab 1000 rfl trivial ?_
        refine S_retc shown_free rfl trivial ?_
        rw [shownR, if_pos h]
        show AV.tup [.str (leafS text), .bool ((((texts (d :: q).reverse).length : Nat) : Int) == 0)] = _
        rw [htl, beq_eq_false_iff_ne.2 (by omega)]
      · have h : n ≠ 1 := by have : ¬ ((n : Nat) : Int) = 1 := h; omega
        have hs := halfN_spec (n := n) (by omega)
        have hw1 : IntKind.i64.wrap ((((texts (d :: q).reverse).length : Nat) : Int) - 1) = ((q.length : Nat) : Int) := w64 (by omega) (by omega)
        refine ab 1000 rfl trivial ?_
        refine S_beq rfl (fun h => ?_) (fun _ => ?_)
        · exfalso
          have h : (((texts (d :: q).reverse).length : Nat) : Int) = 0 := h
          omega
        refine ab 1000 rfl trivial ?_
        refine S_pure rfl rfl rfl (half_ok n (by omega) (by omega)) (.cons (.refl .int) (.nil _)) ?_
        have fT : ∀ (σ : Heap) (fl : Bool), Frz false σ (.sl false fl 1 ((texts (d :: q).reverse).take (IntKind.i64.wrap ((((texts (d :: q).reverse).length : Nat) : Int) - 1)).toNat)) (.sl false false 1 (texts q.reverse)) := fun σ fl => by
          rw [hw1, Int.toNat_natCast, ht1]; exact .lend rfl (fun h => by cases h) (texts_any _)
        have c1 : IntKind.i64.wrap ((((texts (d :: q).reverse).length : Nat) : Int) - 1) ≤ (((texts (d :: q).reverse).length : Nat) : Int) ∧ 0 ≤ IntKind.i64.wrap ((((texts (d :: q).reverse).length : Nat) : Int) - 1) := by rw [hw1]; omega
        have hg : (texts (d :: q).reverse)[(IntKind.i64.wrap ((((texts (d :: q).reverse).length : Nat) : Int) - 1)).toNat]? = some (.str d) := by rw [hw1, Int.toNat_natCast]; exact htg
        obtain ⟨k, hk⟩ := hexE_dig hdd |> fun h => (⟨32, h⟩ : ∃ k, HexE d k)
        refine ab 1000 rfl trivial ?_
        refine S_dec rfl (fun hi => ?_) (fun hi => ?_)
        · have hi : i < halfN n := by have : ((i : Nat) : Int) < ((halfN n : Nat) : Int) := hi; omega
          obtain ⟨j, hj, hjE⟩ := (shownR_dig hlf q i (halfN n)).hex
          refine ab 1000 rfl ⟨rfl, c1.1, c1.2, trivial⟩ ?_
          refine S_pure rfl rfl rfl (ih i (halfN n) (by omega) (by omega) h3 (by omega) hqd) (.cons (.refl .str) (.cons (.refl .int) (.cons (.refl .int) (.cons (fT _ _) (.nil _))))) ?_
          refine ab 1000 rfl trivial ?_
          refine S_index (.str d) rfl rfl rfl ⟨rfl, c1.2, hg, trivial⟩ ?_
          refine ab 1000 rfl trivial ?_
          refine S_pure rfl rfl rfl (pair_ok (shownR (leafS text) i (halfN n) q).1 d j 32 hjE (hexE_dig hdd) hj (by decide)) (.cons (.refl .str) (.cons (.refl .str) (.nil _))) ?_
          refine ab 1000 rfl trivial ?_
          refine S_retc shown_free rfl trivial ?_
          rw [shownR, if_neg h, if_neg (by omega)]; rfl
        · have hi : halfN n ≤ i := by have : ¬ ((i : Nat) : Int) < ((halfN n : Nat) : Int) := hi; omega
          have hw2 : IntKind.i64.wrap (((i : Nat) : Int) - ((halfN n : Nat) : Int)) = ((i - halfN n : Nat) : Int) := w64 (by omega) (by omega)
          have hw3 : IntKind.i64.wrap (((n : Nat) : Int) - ((halfN n : Nat) : Int)) = ((n - halfN n : Nat) : Int) := w64 (by omega) (by omega)
          obtain ⟨j, hj, hjE⟩ := (shownR_dig hlf q (i - halfN n) (n - halfN n)).hex
          refine ab 1000 rfl ⟨rfl, c1.1, c1.2, trivial⟩ ?_
          refine S_pure rfl rfl rfl (ih (i - halfN n) (n - halfN n) (by omega) (by omega) (by omega) (by omega) hqd)
            (.cons (.refl .str) (.cons (by show Frz false _ (.int .i64 (IntKind.i64.wrap (((i : Nat) : Int) - ((halfN n : Nat) : Int)))) _; rw [hw2]; exact .refl .int) (.cons (by show Frz false _ (.int .i64 (IntKind.i64.wrap (((n : Nat) : Int) - ((halfN n : Nat) : Int)))) _; rw [hw3]; exact .refl .int) (.cons (fT _ _) (.nil _))))) ?_
          refine ab 1000 rfl trivial ?_
          refine S_index (.str d) rfl rfl rfl ⟨rfl, c1.2, hg, trivial⟩ ?_
          refine ab 1000 rfl trivial ?_
          refine S_pure rfl rfl rfl (pair_ok d (shownR (leafS text) (i - halfN n) (n - halfN n) q).1 32 j (hexE_dig hdd) hjE (by decide) hj) (.cons (.refl .str) (.cons (.refl .str) (.nil _))) ?_
          refine ab 1000 rfl trivial ?_
          refine S_retc shown_free rfl trivial ?_
          rw [shownR, if_neg h, if_pos hi]; rfl

end Go.Proofs.YtjpmngjoohoddabDoor
