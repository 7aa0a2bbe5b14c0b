/-
  What a proof shows: the reference's Sides and ShowsOf; the program's Shows.
-/
import Derived.Test.YtjpmngjoohoddabDoorDigT
set_option linter.unusedVariables false
set_option linter.unusedSimpArgs false
set_option maxRecDepth 20000
namespace Go.Proofs.YtjpmngjoohoddabDoor
open Go Go.Ab

def bools (l : List Bool) : List AV := l.map .bool
theorem bools_len (l : List Bool) : (bools l).length = l.length := by simp [bools]
theorem bools_one (l : List Bool) : ∀ x ∈ bools l, x.one = true := by
  intro x hx; obtain ⟨y, _, rfl⟩ := List.mem_map.1 hx; rfl
theorem bools_any {st : Bool} (l : List Bool) : ∀ x ∈ bools l, Free st x := by
  intro x hx; obtain ⟨y, _, rfl⟩ := List.mem_map.1 hx; exact .bool

theorem sides_len : ∀ (n i : Nat), (sides i n).length ≤ n := by
  intro n
  induction n using Nat.strongRecOn with
  | _ n ih =>
    intro i
    rw [sides]
    split
    · simp
    · have hs := halfN_spec (n := n) (by omega)
      split
      · have := ih (n - halfN n) (by omega) (i - halfN n); simp only [List.length_cons]; omega
      · have := ih (halfN n) (by omega) i; simp only [List.length_cons]; omega

theorem Sides_ok (i n : Nat) (h1 : 1 ≤ n) (h2 : n ≤ 2000) (h3 : i ≤ 2000) : Calc cx 53 [.int .i64 (i : Nat), .int .i64 (n : Nat)] (.sl true false 1 (bools (sides i n))) :=
  pure_intro (fun a w => Tryd.call53 a w) Tryd.func53 rfl Tryd.ntmps53 rfl (.sl (fun _ => rfl) (bools_any _)) fun B => by
    refine ab 1000 rfl trivial ?_
    refine S_ghostF (t := 5) 1 ⟨false, none⟩ rfl rfl ⟨_, _, .inl rfl⟩ ?_
    refine S_while (α := Nat × Nat × List Bool × Nat) (fun (j, m, done, u) => [(0, .int .i64 (j : Nat)), (1, .int .i64 (m : Nat)), (5, .ms 0 u 0 done.length 1 false)]) (fun (j, m, done, u) => [(u, some (.cells (bools done) ⟨false, none⟩))])
      (fun (j, m, done, u) => 1 ≤ m ∧ done.length + m ≤ n ∧ j ≤ 2000 ∧ done ++ sides j m = sides i n) (fun (j, m, done, u) => m) (i, n, [], 0)
      ⟨h1, by simp, h3, rfl⟩ (.cons rfl (.cons rfl (.cons rfl (.nil _)))) rfl ?_
    rintro ⟨j, m, done, u⟩ ⟨g1, g2, g3, g4⟩
    have g1 : 1 ≤ m := g1
    have g2 : done.length + m ≤ n := g2
    have g3 : j ≤ 2000 := g3
    have hdl := bools_len done
    refine ab 1000 rfl trivial ?_
    refine S_dec rfl (fun h => ?_) (fun h => ?_)
    · have h : 1 < m := by have : (1 : Int) < ((m : Nat) : Int) := h; omega
      have hs := halfN_spec (n := m) (by omega)
      rw [sides, dif_neg (by omega)] at g4
      have hw2 : AV.int .i64 (IntKind.i64.wrap (((j : Nat) : Int) - ((halfN m : Nat) : Int))) = .int .i64 ((j - halfN m : Nat) : Int) ∨ j < halfN m := by
        by_cases hj : j < halfN m
        · exact .inr hj
        · exact .inl (ai64 (by omega) (by omega))
      have hw3 : AV.int .i64 (IntKind.i64.wrap (((m : Nat) : Int) - ((halfN m : Nat) : Int))) = .int .i64 ((m - halfN m : Nat) : Int) := ai64 (by omega) (by omega)
      refine ab 1000 rfl trivial ?_
      refine S_pure rfl rfl rfl (Half_ok m (by omega) (by omega)) (.cons (.refl .int) (.nil _)) ?_
      refine ab 1000 rfl ⟨?_, ?_, ?_, rfl, rfl, allOne_mem (cs := [.bool _]) rfl, allOne_mem (cs := [.bool _]) rfl, rfl, trivial⟩ ?_
      · show done.length + 1 ≤ 9223372036854775807; omega
      · show (done.length + 1) * 1 ≤ 140737488355328; omega
      · show 0 + done.length * 1 = (bools done).length; omega
      refine S_dec rfl (fun hj => ?_) (fun hj => ?_)
      · have hj : halfN m ≤ j := by have : ((halfN m : Nat) : Int) ≤ ((j : Nat) : Int) := hj; omega
        rw [if_pos hj] at g4
        refine ab 1000 rfl trivial ?_
        refine S_round (j - halfN m, m - halfN m, done ++ [true], u + 1) (by show m - halfN m < m; omega) ⟨by omega, by rw [List.length_append]; simp only [List.length_cons, List.length_nil]; omega, by omega, by rw [← g4]; simp⟩
          (.cons (hw2.resolve_right (by omega)) (.cons hw3 (.cons (by simp; rfl) (.nil _)))) ?_
        show [(u + 1, some (Box.cells (bools done ++ [.bool (decide (((halfN m : Nat) : Int) ≤ ((j : Nat) : Int)))]) ⟨false, none⟩))] = _
        rw [decide_eq_true (by omega)]
        simp [bools]
      · have hj : j < halfN m := by have : ¬ ((halfN m : Nat) : Int) ≤ ((j : Nat) : Int) := hj; omega
        rw [if_neg (by omega)] at g4
        refine ab 1000 rfl trivial ?_
        refine S_round (j, halfN m, done ++ [false], u + 1) (by show halfN m < m; omega) ⟨by omega, by rw [List.length_append]; simp only [List.length_cons, List.length_nil]; omega, by omega, by rw [← g4]; simp⟩
          (.cons rfl (.cons rfl (.cons (by simp; rfl) (.nil _)))) ?_
        show [(u + 1, some (Box.cells (bools done ++ [.bool (decide (((halfN m : Nat) : Int) ≤ ((j : Nat) : Int)))]) ⟨false, none⟩))] = _
        rw [decide_eq_false (by omega)]
        simp [bools]
    · have h : m = 1 := by have : ¬ (1 : Int) < ((m : Nat) : Int) := h; omega
      rw [sides, dif_pos (by omega), List.append_nil] at g4
      refine ab 1000 rfl trivial ?_
      refine S_ret ⟨_, _, rfl, trivial, _, rfl, ?_⟩
      rw [← g4]
      exact .ms1 rfl (bools_one _) (by rw [bools_len]) (bools_any _)

theorem upS_dig {leaf : List UInt8} (h : isDig leaf = true) : ∀ l, isDig (upS leaf l) = true
  | [] => h
  | (s, d) :: r => by
    rw [upS]; split <;> exact pairS_dig _ _

theorem ShowsOf_ok {st fl : Bool} (root text : List UInt8) (i n : Nat) (p : List (List UInt8)) (ht : text.length ≤ 100000) (h1 : 1 ≤ n) (h2 : n ≤ 2000) (h3 : i ≤ 2000) (hp : ∀ d ∈ p, isDig d = true) (hpl : p.length ≤ 1048576) :
    Calc cx 21 [.str root, .str text, .int .i64 (i : Nat), .int .i64 (n : Nat), .sl st fl 1 (texts p)] (.bool (decide (p.length = (sides i n).length) && upS (leafS text) ((sides i n).zip p.reverse) == root)) :=
  pure_intro (fun a w => Tryd.call21 a w) Tryd.func21 rfl Tryd.ntmps21 rfl .bool fun B => by
    obtain ⟨ss, hss⟩ : ∃ ss, ss = sides i n := ⟨_, rfl⟩
    have hSd := Sides_ok i n h1 h2 h3
    rw [← hss] at hSd ⊢
    have hbl := bools_len ss
    have htl := texts_len p
    have hsl : ss.length ≤ 2000 := by have := sides_len n i; rw [hss]; omega
    have hlf : isDig (leafS text) = true := isDig_sha _
    refine ab 1000 rfl trivial ?_
    refine S_pure rfl rfl rfl hSd (.cons (.refl .int) (.cons (.refl .int) (.nil _))) ?_
    refine ab 1000 rfl trivial ?_
    refine S_bne rfl (fun h => ?_) (fun h => ?_)
    · have h : p.length ≠ ss.length := by have : (((bools ss).length : Nat) : Int) ≠ (((texts p).length : Nat) : Int) := h; omega
      refine ab 1000 rfl trivial ?_
      refine S_retc .bool rfl trivial ?_
      rw [decide_eq_false h]; rfl
    have hm : p.length = ss.length := by have : (((bools ss).length : Nat) : Int) = (((texts p).length : Nat) : Int) := h; omega
    refine ab 1000 rfl trivial ?_
    refine S_pure rfl rfl rfl (LeafOf_ok text ht) (.cons (.refl .str) (.nil _)) ?_
    obtain ⟨z, hz⟩ : ∃ z, z = ss.zip p.reverse := ⟨_, rfl⟩
    have hzl : z.length = p.length := by rw [hz, List.length_zip, List.length_reverse]; omega
    refine ab 1000 rfl trivial ?_
    refine S_while (α := Nat) (fun k => [(0, .str root), (4, .sl st fl 1 (texts p)), (11, .sl true false 1 (bools ss)), (12, .str (upS (leafS text) (z.drop (p.length - k)))), (13, .int .i64 (k : Nat))]) (fun _ => []) (fun k => k ≤ p.length) (fun k => p.length - k) 0
      (Nat.zero_le _) (.cons rfl (.cons rfl (.cons rfl (.cons (by rw [Nat.sub_zero, List.drop_of_length_le (by omega)]; rfl) (.cons rfl (.nil _)))))) rfl ?_
    intro k hk
    refine ab 1000 rfl trivial ?_
    refine S_dec rfl (fun hlt => ?_) (fun hlt => ?_)
    · have hkl : k < p.length := by have : ((k : Nat) : Int) < (((texts p).length : Nat) : Int) := hlt; omega
      have hj : p.length - (k + 1) < z.length := by omega
      have hjs : p.length - (k + 1) < ss.length := by omega
      have hzd : z.drop (p.length - (k + 1)) = (ss[p.length - (k + 1)], p[k]) :: z.drop (p.length - k) := by
        rw [List.drop_eq_getElem_cons hj, show p.length - (k + 1) + 1 = p.length - k by omega]
        congr 1
        subst hz
        rw [List.getElem_zip, List.getElem_reverse]
        congr 2
        omega
      have hdg := upS_dig hlf (z.drop (p.length - k))
      have hpk := hp _ (List.getElem_mem hkl)
      have hw1 : IntKind.i64.wrap ((((bools ss).length : Nat) : Int) - 1) = ((p.length - 1 : Nat) : Int) := w64 (by omega) (by omega)
      have hw2 : IntKind.i64.wrap (((p.length - 1 : Nat) : Int) - ((k : Nat) : Int)) = ((p.length - (k + 1) : Nat) : Int) := w64 (by omega) (by omega)
      have c1 : 0 ≤ IntKind.i64.wrap (IntKind.i64.wrap ((((bools ss).length : Nat) : Int) - 1) - ((k : Nat) : Int)) := by rw [hw1, hw2]; omega
      have c2 : (bools ss)[(IntKind.i64.wrap (IntKind.i64.wrap ((((bools ss).length : Nat) : Int) - 1) - ((k : Nat) : Int))).toNat]? = some (.bool ss[p.length - (k + 1)]) := by
        rw [hw1, hw2, Int.toNat_natCast]; simp [bools, hjs]
      have c3 : (0 : Int) ≤ ((k : Nat) : Int) := by omega
      have c4 : (texts p)[((k : Nat) : Int).toNat]? = some (.str p[k]) := by rw [Int.toNat_natCast]; exact texts_get hkl
      have c5 : AV.int .i64 (IntKind.i64.wrap (((k : Nat) : Int) + 1)) = .int .i64 ((k + 1 : Nat) : Int) := ai64 rfl (by omega)
      have c6 : p.length - (k + 1) < p.length - k := by omega
      obtain ⟨sd, hsd⟩ : ∃ sd, sd = ss[p.length - (k + 1)] := ⟨_, rfl⟩
      rw [← hsd] at c2 hzd
      refine ab 1000 rfl trivial ?_
      refine S_index (.bool sd) rfl rfl rfl ⟨rfl, c1, c2, trivial⟩ ?_
      refine ab 1000 rfl trivial ?_
      refine S_cond rfl (fun hb => ?_) (fun hb => ?_)
      · refine ab 1000 rfl trivial ?_
        refine S_index (.str p[k]) rfl rfl rfl ⟨rfl, c3, c4, trivial⟩ ?_
        refine ab 1000 rfl trivial ?_
        refine S_pure rfl rfl rfl (PairOf_ok p[k] (upS (leafS text) (z.drop (p.length - k))) hpk hdg) (.cons (.refl .str) (.cons (.refl .str) (.nil _))) ?_
        refine ab 1000 rfl trivial ?_
        exact S_round (k + 1) c6 hkl (.cons rfl (.cons rfl (.cons rfl (.cons (by rw [hzd, upS, hb]; rfl) (.cons c5 (.nil _)))))) rfl
      · refine ab 1000 rfl trivial ?_
        refine S_index (.str p[k]) rfl rfl rfl ⟨rfl, c3, c4, trivial⟩ ?_
        refine ab 1000 rfl trivial ?_
        refine S_pure rfl rfl rfl (PairOf_ok (upS (leafS text) (z.drop (p.length - k))) p[k] hdg hpk) (.cons (.refl .str) (.cons (.refl .str) (.nil _))) ?_
        refine ab 1000 rfl trivial ?_
        exact S_round (k + 1) c6 hkl (.cons rfl (.cons rfl (.cons rfl (.cons (by rw [hzd, upS, hb]; rfl) (.cons c5 (.nil _)))))) rfl
    · have hkl : k = p.length := by have : ¬ ((k : Nat) : Int) < (((texts p).length : Nat) : Int) := hlt; omega
      subst hkl
      refine ab 1000 rfl trivial ?_
      refine S_retc .bool rfl trivial ?_
      show AV.bool (upS (leafS text) (z.drop (p.length - p.length)) == root) = _
      rw [Nat.sub_self, List.drop_zero, decide_eq_true hm, Bool.true_and, hz]

end Go.Proofs.YtjpmngjoohoddabDoor
