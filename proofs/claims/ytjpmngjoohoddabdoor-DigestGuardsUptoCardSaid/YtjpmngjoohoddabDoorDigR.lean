/-
  Roots: level by level is the same as split by split; the program's root.
-/
import Derived.Test.YtjpmngjoohoddabDoorDigP
import Derived.Test.YtjpmngjoohoddabDoorDigH
import Derived.Test.YtjpmngjoohoddabDoorRefC
set_option linter.unusedVariables false
set_option linter.unusedSimpArgs false
set_option maxRecDepth 20000
namespace Go.Proofs.YtjpmngjoohoddabDoor
open Go Go.Ab

/-- The root of some digests, split by split. -/
def mroot (l : List (List UInt8)) : List UInt8 :=
  if h : l.length ≤ 1 then l.headD [] else pairS (mroot (l.take (halfN l.length))) (mroot (l.drop (halfN l.length)))
termination_by l.length
decreasing_by
  · have := halfN_spec (n := l.length) (by omega)
    rw [List.length_take]; omega
  · have := halfN_spec (n := l.length) (by omega)
    rw [List.length_drop]; omega

/-- A level. -/
def pairUp : List (List UInt8) → List (List UInt8)
  | a :: b :: r => pairS a b :: pairUp r
  | [a] => [a]
  | [] => []

theorem pairUp_len : ∀ l : List (List UInt8), (pairUp l).length = (l.length + 1) / 2
  | a :: b :: r => by
    rw [pairUp, List.length_cons, pairUp_len r]; simp only [List.length_cons]; omega
  | [a] => by simp [pairUp]
  | [] => rfl

theorem pairUp_app : ∀ (k : Nat) (a b : List (List UInt8)), a.length = 2 * k → pairUp (a ++ b) = pairUp a ++ pairUp b
  | 0, a, b, h => by
    obtain rfl := List.eq_nil_of_length_eq_zero (by simpa using h)
    rfl
  | k + 1, x :: y :: a, b, h => by
    show pairUp (x :: y :: (a ++ b)) = _
    rw [pairUp, pairUp_app k a b (by simp only [List.length_cons] at h; omega)]; rfl
  | k + 1, [x], b, h => by simp at h; omega
  | k + 1, [], b, h => by simp at h

theorem pairUp_dig : ∀ l : List (List UInt8), (∀ d ∈ l, isDig d = true) → ∀ d ∈ pairUp l, isDig d = true
  | a :: b :: r, h => by
    intro d hd
    rcases List.mem_cons.1 hd with rfl | hd
    · exact pairS_dig _ _
    · exact pairUp_dig r (fun d hd => h d (List.mem_cons_of_mem _ (List.mem_cons_of_mem _ hd))) d hd
  | [a], h => h
  | [], h => h

theorem mroot_pairUp : ∀ (n : Nat) (l : List (List UInt8)), l.length = n → mroot (pairUp l) = mroot l := by
  intro n
  induction n using Nat.strongRecOn with
  | _ n ih =>
    intro l hl
    by_cases h1 : l.length ≤ 1
    · match l, h1 with
      | [], _ => rfl
      | [a], _ => rfl
    by_cases h2 : l.length = 2
    · match l, h2 with
      | [a, b], _ =>
        rw [show pairUp [a, b] = [pairS a b] from rfl]
        have hh : halfN 2 = 1 := by decide
        rw [mroot, dif_pos (by simp)]
        conv => rhs; rw [mroot, dif_neg (by simp)]
        simp only [List.length_cons, List.length_nil, hh]
        rw [mroot, dif_pos (by simp), mroot, dif_pos (by simp)]
        rfl
    · have hs := halfN_spec (n := l.length) (by omega)
      obtain ⟨j, hj⟩ : ∃ j, Nat.log2 (l.length - 1) = j + 1 := ⟨Nat.log2 (l.length - 1) - 1, by
        have h4 : 2 ^ 1 ≤ l.length - 1 := by omega
        have : 1 ≤ Nat.log2 (l.length - 1) := (Nat.le_log2 (by omega)).2 h4
        omega⟩
      have hh : halfN l.length = 2 * 2 ^ j := by rw [halfN, hj, Nat.pow_succ]; omega
      have hp := Nat.two_pow_pos j
      have hul := pairUp_len l
      have hh2 : halfN (pairUp l).length = 2 ^ j := halfN_of (by omega) (by omega)
      have htl : (l.take (2 * 2 ^ j)).length = 2 * 2 ^ j := by rw [List.length_take]; omega
      have happ : pairUp l = pairUp (l.take (2 * 2 ^ j)) ++ pairUp (l.drop (2 * 2 ^ j)) := by
        conv => lhs; rw [← List.take_append_drop (2 * 2 ^ j) l]
        exact pairUp_app (2 ^ j) _ _ htl
      have hpl : (pairUp (l.take (2 * 2 ^ j))).length = 2 ^ j := by rw [pairUp_len, htl]; omega
      rw [mroot, dif_neg (by omega), hh2, happ, List.take_left' hpl, List.drop_left' hpl]
      rw [ih (2 * 2 ^ j) (by omega) _ htl, ih (l.length - 2 * 2 ^ j) (by omega) _ (by rw [List.length_drop])]
      conv => rhs; rw [mroot, dif_neg h1, hh]

theorem mroot_dig (n : Nat) : ∀ (l : List (List UInt8)), l.length = n → 1 ≤ n → (∀ d ∈ l, isDig d = true) → isDig (mroot l) = true := by
  induction n using Nat.strongRecOn with
  | _ n ih =>
    intro l hl h1 h
    by_cases h2 : l.length ≤ 1
    · match l, h2 with
      | [], _ => simp at hl; omega
      | [a], _ => rw [mroot, dif_pos (by simp)]; exact h a (by simp)
    · rw [mroot, dif_neg h2]; exact pairS_dig _ _

def leafS (s : List UInt8) : List UInt8 := sha (0 :: s)
def rootS (l : List (List UInt8)) : List UInt8 := if l.length = 0 then sha [] else mroot (l.map leafS)

theorem rootS_dig (l : List (List UInt8)) : isDig (rootS l) = true := by
  unfold rootS
  split
  · exact isDig_sha _
  · exact mroot_dig _ _ rfl (by rw [List.length_map]; omega) (fun d hd => by
      obtain ⟨s, _, rfl⟩ := List.mem_map.1 hd
      exact isDig_sha _)

theorem rootS_split {l : List (List UInt8)} {k : Nat} (h : 2 ≤ l.length) (hk : k = halfN l.length) : rootS l = pairS (rootS (l.take k)) (rootS (l.drop k)) := by
  have hs := halfN_spec h
  rw [← hk] at hs
  unfold rootS
  rw [if_neg (by omega), if_neg (by rw [List.length_take]; omega), if_neg (by rw [List.length_drop]; omega)]
  conv => lhs; rw [mroot, dif_neg (by rw [List.length_map]; omega), List.length_map, ← hk]
  rw [List.map_take, List.map_drop]

/-- Texts that may be summed. -/
structure TextsFit (l : List (List UInt8)) : Prop where
  len : l.length ≤ 2000
  txt : ∀ s ∈ l, s.length ≤ 100000

theorem TextsFit.take {l : List (List UInt8)} (h : TextsFit l) (k : Nat) : TextsFit (l.take k) := ⟨by have := h.len; rw [List.length_take]; omega, fun s hs => h.txt s (List.mem_of_mem_take hs)⟩
theorem TextsFit.drop {l : List (List UInt8)} (h : TextsFit l) (k : Nat) : TextsFit (l.drop k) := ⟨by have := h.len; rw [List.length_drop]; omega, fun s hs => h.txt s (List.mem_of_mem_drop hs)⟩

theorem root_ok (n : Nat) : ∀ (l : List (List UInt8)), l.length = n → TextsFit l → Calc cx 50 [.sl false false 1 (texts l)] (.str (rootS l)) := by
  induction n using Nat.strongRecOn with
  | _ n ih =>
    intro l hl hf
    have htl : (texts l).length = l.length := by simp [texts]
    have hf1 := hf.len
    exact pure_intro (fun a w => Tryd.call50 a w) Tryd.func50 rfl Tryd.ntmps50 rfl .str fun B => by
      refine ab 1000 rfl trivial ?_
      refine S_beq rfl (fun h => ?_) (fun h => ?_)
      · have h0 : l.length = 0 := by have : (((texts l).length : Nat) : Int) = 0 := h; omega
        refine ab 1000 rfl trivial ?_
        refine S_pure rfl rfl rfl (Sum_ok [] (by decide)) (.cons (.refl .str) (.nil _)) ?_
        refine ab 1000 rfl trivial ?_
        refine S_retc .str rfl trivial ?_
        rw [rootS, if_pos h0]; rfl
      have h0 : l.length ≠ 0 := by have : ¬ (((texts l).length : Nat) : Int) = 0 := h; omega
      refine ab 1000 rfl trivial ?_
      refine S_beq rfl (fun h => ?_) (fun h => ?_)
      · have h1 : l.length = 1 := by have : (((texts l).length : Nat) : Int) = 1 := h; omega
        match l, h1 with
        | [a], _ =>
          have ha := hf.txt a (by simp)
          refine ab 1000 rfl trivial ?_
          refine S_index (.str a) rfl rfl rfl ⟨rfl, by decide, rfl, trivial⟩ ?_
          refine ab 1000 rfl ⟨?_, trivial⟩ ?_
          · show ((1 + a.length : Nat) : Int) ≤ 9223372036854775807; omega
          refine S_pure rfl rfl rfl (Sum_ok (0 :: a) (by simp only [List.length_cons]; omega)) (.cons (.refl .str) (.nil _)) ?_
          refine ab 1000 rfl trivial ?_
          refine S_retc .str rfl trivial ?_
          rw [rootS, if_neg h0, List.map_cons, List.map_nil, mroot, dif_pos (by simp)]; rfl
      have h1 : l.length ≠ 1 := by have : ¬ (((texts l).length : Nat) : Int) = 1 := h; omega
      have hs := halfN_spec (n := l.length) (by omega)
      obtain ⟨k, hk⟩ : ∃ k, k = halfN l.length := ⟨_, rfl⟩
      rw [← hk] at hs
      refine ab 1000 rfl trivial ?_
      refine S_pure rfl rfl rfl (by have := half_ok (texts l).length (by omega) (by omega); rwa [htl, ← hk] at this) (.cons (by rw [← htl]; exact .refl .int) (.nil _)) ?_
      refine ab 1000 rfl trivial ?_
      have hA := rootS_dig (l.take k)
      have hB := rootS_dig (l.drop k)
      have eA : (texts l).take k = texts (l.take k) := by simp [texts]
      have eB : (texts l).drop k = texts (l.drop k) := by simp [texts]
      have b1 : (0 : Int) ≤ (k : Nat) ∧ ((k : Nat) : Int) ≤ ((texts l).length : Nat) := by omega
      have fA : ∀ (σ : Heap) (fl : Bool), Frz false σ (.sl false fl 1 ((texts l).take ((k : Nat) : Int).toNat)) (.sl false false 1 (texts (l.take k))) := fun σ fl => by
        rw [Int.toNat_natCast, eA]; exact .lend rfl (fun h => by cases h) (texts_any _)
      have fB : ∀ (σ : Heap) (fl : Bool), Frz false σ (.sl false fl 1 ((texts l).drop ((k : Nat) : Int).toNat)) (.sl false false 1 (texts (l.drop k))) := fun σ fl => by
        rw [Int.toNat_natCast, eB]; exact .lend rfl (fun h => by cases h) (texts_any _)
      refine S_draw 9 [] [.str (rootS (l.take k)), .str (rootS (l.drop k)), .str (pairS (rootS (l.take k)) (rootS (l.drop k)))] rfl rfl rfl rfl
        ⟨rfl, rfl, rfl, b1.1, b1.2, rfl, ⟨_, ih k (by omega) _ (by rw [List.length_take]; omega) (hf.take k), .cons (fA _ _) (.nil _)⟩, rfl, rfl, rfl, b1.1, b1.2, rfl, ⟨_, ih (l.length - k) (by omega) _ (by rw [List.length_drop]) (hf.drop k), .cons (fB _ _) (.nil _)⟩, ⟨_, pair_ok _ _ 32 32 (hexE_dig hA) (hexE_dig hB) (by decide) (by decide), .cons (.refl .str) (.cons (.refl .str) (.nil _))⟩, trivial⟩ ?_
      refine ab 1000 rfl trivial ?_
      refine S_retc .str rfl trivial ?_
      have hr : rootS l = pairS (rootS (l.take k)) (rootS (l.drop k)) := rootS_split (by omega) hk
      rw [hr]; rfl

end Go.Proofs.YtjpmngjoohoddabDoor
