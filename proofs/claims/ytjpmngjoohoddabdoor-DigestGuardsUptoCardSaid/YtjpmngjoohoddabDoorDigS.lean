/-
  Roots: the reference's, level by level; the program's Root.
-/
import Derived.Test.YtjpmngjoohoddabDoorDigR
import Derived.Test.YtjpmngjoohoddabDoorAbThree
set_option linter.unusedVariables false
set_option linter.unusedSimpArgs false
set_option maxRecDepth 20000
namespace Go.Proofs.YtjpmngjoohoddabDoor
open Go Go.Ab

theorem LeafOf_ok (s : List UInt8) (hs : s.length ≤ 100000) : Calc cx 51 [.str s] (.str (leafS s)) :=
  pure_intro (fun a w => Tryd.call51 a w) Tryd.func51 rfl Tryd.ntmps51 rfl .str fun B => by
    refine ab 1000 rfl ⟨?_, ?_, rfl, trivial⟩ ?_
    · show ((1 + s.length : Nat) : Int) ≤ 9223372036854775807; omega
    · intro x hx; simp at hx; subst hx; trivial
    refine S_pure rfl rfl rfl (SumR_ok (0 :: s) (by simp only [List.length_cons]; omega)) (.cons (.refl .str) (.nil _)) ?_
    refine ab 1000 rfl trivial ?_
    exact S_retc .str rfl trivial rfl

def tB (v : Nat) (l : List (List UInt8)) : Nat × Option Box := (v, some (.cells (texts l) ⟨false, none⟩))

theorem texts_len (l : List (List UInt8)) : (texts l).length = l.length := by simp [texts]
theorem texts_get {l : List (List UInt8)} {i : Nat} (h : i < l.length) : (texts l)[i]? = some (.str l[i]) := by simp [texts, h]

theorem RootOf_ok {st fl : Bool} (l : List (List UInt8)) (hf : TextsFit l) : Calc cx 19 [.sl st fl 1 (texts l)] (.str (rootS l)) :=
  pure_intro (fun a w => Tryd.call19 a w) Tryd.func19 rfl Tryd.ntmps19 rfl .str fun B => by
    have htl := texts_len l
    have hf1 := hf.len
    refine ab 1000 rfl trivial ?_
    refine S_beq rfl (fun h => ?_) (fun h => ?_)
    · have h0 : l.length = 0 := by have : (((texts l).length : Nat) : Int) = 0 := h; omega
      refine ab 1000 rfl trivial ?_
      refine S_pure rfl rfl rfl (SumR_ok [] (by decide)) (.cons (.refl .str) (.nil _)) ?_
      refine ab 1000 rfl trivial ?_
      refine S_retc .str rfl trivial ?_
      rw [rootS, if_pos h0]; rfl
    have h0 : l.length ≠ 0 := by have : ¬ (((texts l).length : Nat) : Int) = 0 := h; omega
    have hroot : rootS l = mroot (l.map leafS) := by rw [rootS, if_neg h0]
    refine ab 1000 rfl trivial ?_
    refine S_ghostF (t := 3) 1 ⟨false, none⟩ rfl rfl ⟨_, _, .inl rfl⟩ ?_
    refine S_while (α := Nat × Nat) (fun (i, u) => [(0, .sl st fl 1 (texts l)), (3, .ms 0 u 0 i 1 false), (4, .int .i64 (i : Nat))]) (fun (i, u) => [tB u ((l.take i).map leafS)]) (fun (i, u) => i ≤ l.length) (fun (i, u) => l.length - i) (0, 0)
      (Nat.zero_le _) (.cons rfl (.cons rfl (.cons rfl (.nil _)))) rfl ?_
    rintro ⟨i, u⟩ hi
    have hi : i ≤ l.length := hi
    have htk : (texts ((l.take i).map leafS)).length = i := by rw [texts_len, List.length_map, List.length_take]; omega
    refine ab 1000 rfl trivial ?_
    refine S_dec rfl (fun hlt => ?_) (fun hlt => ?_)
    · have hil : i < l.length := by have : ((i : Nat) : Int) < ((texts l).length : Nat) := hlt; omega
      refine ab 1000 rfl trivial ?_
      refine S_index (.str l[i]) rfl rfl rfl ⟨rfl, by omega, by rw [Int.toNat_natCast]; exact texts_get hil, trivial⟩ ?_
      refine ab 1000 rfl trivial ?_
      refine S_pure rfl rfl rfl (LeafOf_ok l[i] (hf.txt _ (List.getElem_mem hil))) (.cons (.refl .str) (.nil _)) ?_
      refine ab 1000 rfl ⟨?_, ?_, ?_, rfl, rfl, allOne_mem (cs := [.str _]) rfl, allOne_mem (cs := [.str _]) rfl, rfl, trivial⟩ ?_
      · show i + 1 ≤ 9223372036854775807; omega
      · show (i + 1) * 16 ≤ 140737488355328; omega
      · show 0 + i * 1 = (texts ((l.take i).map leafS)).length; omega
      refine S_round (i + 1, u + 1) (by show l.length - (i + 1) < l.length - i; omega) hil (.cons rfl (.cons rfl (.cons (ai64 rfl (by omega)) (.nil _)))) ?_
      show [(u + 1, some (Box.cells (texts ((l.take i).map leafS) ++ [.str (leafS l[i])]) ⟨false, none⟩))] = [tB (u + 1) ((l.take (i + 1)).map leafS)]
      rw [List.take_succ_eq_append_getElem hil, List.map_append]
      simp only [tB, texts, List.map_append, List.map_cons, List.map_nil]
    have hil : i = l.length := by have : ¬ ((i : Nat) : Int) < ((texts l).length : Nat) := hlt; omega
    subst hil
    rw [List.take_length] at htk ⊢
    refine S_freeze1 (t := 3) (id := 0) rfl rfl htk (texts_one _) (texts_any _) ⟨_, _, .inl rfl⟩ ?_
    refine ab 1000 rfl trivial ?_
    -- level by level
    refine S_while (α := List (List UInt8) × Nat) (fun (now, a) => [(3, .sl false false 1 (texts now))]) (fun (now, a) => [(a, none)])
      (fun (now, a) => 1 ≤ now.length ∧ now.length ≤ 2000 ∧ (∀ d ∈ now, isDig d = true) ∧ mroot now = rootS l) (fun (now, a) => now.length) (l.map leafS, u)
      ⟨by rw [List.length_map]; omega, by rw [List.length_map]; omega, fun d hd => by obtain ⟨s, _, rfl⟩ := List.mem_map.1 hd; exact isDig_sha _, hroot.symm⟩ (.cons rfl (.nil _)) rfl ?_
    rintro ⟨now, a⟩ ⟨hn1, hn2, hnd, hnr⟩
    have hn1 : 1 ≤ now.length := hn1
    have hn2 : now.length ≤ 2000 := hn2
    have hntl := texts_len now
    refine ab 1000 rfl trivial ?_
    refine S_dec rfl (fun hlt => ?_) (fun hlt => ?_)
    · have hlt : 1 < now.length := by have : (1 : Int) < (((texts now).length : Nat) : Int) := hlt; omega
      have hpu := pairUp_len now
      refine ab 1000 rfl trivial ?_
      refine S_ghostF (t := 5) 1 ⟨false, none⟩ rfl rfl ⟨_, _, .inl rfl⟩ ?_
      refine S_while (α := Nat × List (List UInt8) × List (List UInt8) × Nat) (fun (i, done, rest, x) => [(3, .sl false false 1 (texts now)), (5, .ms 0 x 0 done.length 1 false), (6, .int .i64 (2 * i : Nat))]) (fun (i, done, rest, x) => [tB x done])
        (fun (i, done, rest, x) => done.length ≤ i ∧ i ≤ 1000 ∧ rest = now.drop (2 * i) ∧ done ++ pairUp rest = pairUp now) (fun (i, done, rest, x) => rest.length) (0, [], now, a + 1)
        ⟨Nat.le_refl _, Nat.zero_le _, rfl, rfl⟩ (.cons rfl (.cons rfl (.cons rfl (.nil _)))) rfl ?_
      rintro ⟨i, done, rest, x⟩ ⟨g1, g2, g3, g4⟩
      have g1 : done.length ≤ i := g1
      have g2 : i ≤ 1000 := g2
      have hdl := texts_len done
      have hrl : rest.length = now.length - 2 * i := by rw [g3, List.length_drop]
      refine ab 1000 rfl trivial ?_
      refine S_dec rfl (fun hlt2 => ?_) (fun hlt2 => ?_)
      · have hi2 : 2 * i < now.length := by have : ((2 * i : Nat) : Int) < (((texts now).length : Nat) : Int) := hlt2; omega
        have hw1 : IntKind.i64.wrap (((2 * i : Nat) : Int) + 1) = ((2 * i + 1 : Nat) : Int) := w64 (by omega) (by omega)
        have hw2 : AV.int .i64 (IntKind.i64.wrap (((2 * i : Nat) : Int) + 2)) = .int .i64 ((2 * (i + 1) : Nat) : Int) := ai64 (by omega) (by omega)
        refine ab 1000 rfl trivial ?_
        refine S_dec rfl (fun hlt3 => ?_) (fun hlt3 => ?_)
        · have hi3 : 2 * i + 1 < now.length := by
            have h' : IntKind.i64.wrap (((2 * i : Nat) : Int) + 1) < (((texts now).length : Nat) : Int) := hlt3
            rw [hw1] at h'; omega
          have hrest : rest = now[2 * i] :: now[2 * i + 1] :: now.drop (2 * (i + 1)) := by
            rw [g3, List.drop_eq_getElem_cons hi2, List.drop_eq_getElem_cons hi3, show 2 * i + 1 + 1 = 2 * (i + 1) by omega]
          have k1 : 0 ≤ ((2 * i : Nat) : Int) := by omega
          have k2 : 0 ≤ IntKind.i64.wrap (((2 * i : Nat) : Int) + 1) := by rw [hw1]; omega
          have k3 : (texts now)[((2 * i : Nat) : Int).toNat]? = some (.str now[2 * i]) := by rw [Int.toNat_natCast]; exact texts_get hi2
          have k4 : (texts now)[(IntKind.i64.wrap (((2 * i : Nat) : Int) + 1)).toNat]? = some (.str now[2 * i + 1]) := by rw [hw1, Int.toNat_natCast]; exact texts_get hi3
          refine ab 1000 rfl trivial ?_
          refine S_draw 12 [] [.str now[2 * i], .str now[2 * i + 1], .str (pairS now[2 * i] now[2 * i + 1])] rfl rfl rfl rfl
            ⟨rfl, rfl, rfl, rfl, k1, k3, rfl, rfl, rfl, rfl, rfl, k2, k4, rfl, ⟨_, PairOf_ok _ _ (hnd _ (List.getElem_mem hi2)) (hnd _ (List.getElem_mem hi3)), .cons (.refl .str) (.cons (.refl .str) (.nil _))⟩, rfl, trivial⟩ ?_
          refine ab 1000 rfl ⟨?_, ?_, ?_, rfl, rfl, allOne_mem (cs := [.str _]) rfl, allOne_mem (cs := [.str _]) rfl, rfl, trivial⟩ ?_
          · show done.length + 1 ≤ 9223372036854775807; omega
          · show (done.length + 1) * 16 ≤ 140737488355328; omega
          · show 0 + done.length * 1 = (texts done).length; omega
          refine S_round (i + 1, done ++ [pairS now[2 * i] now[2 * i + 1]], now.drop (2 * (i + 1)), x + 1) (by show (now.drop (2 * (i + 1))).length < rest.length; rw [hrl, List.length_drop]; omega)
            ⟨by simp; omega, by omega, rfl, by rw [← g4, hrest, pairUp]; simp⟩ (.cons rfl (.cons (by simp; rfl) (.cons hw2 (.nil _)))) ?_
          show [(x + 1, some (Box.cells (texts done ++ [.str (pairS now[2 * i] now[2 * i + 1])]) ⟨false, none⟩))] = _
          simp [tB, texts]
        · have hi3 : now.length = 2 * i + 1 := by
            have h' : ¬ IntKind.i64.wrap (((2 * i : Nat) : Int) + 1) < (((texts now).length : Nat) : Int) := hlt3
            rw [hw1] at h'; omega
          have hrest : rest = [now[2 * i]] := by
            rw [g3, List.drop_eq_getElem_cons hi2, List.drop_of_length_le (by omega)]
          refine ab 1000 rfl trivial ?_
          refine S_index (.str now[2 * i]) rfl rfl rfl ⟨rfl, by omega, by rw [Int.toNat_natCast]; exact texts_get hi2, trivial⟩ ?_
          refine ab 1000 rfl ⟨?_, ?_, ?_, rfl, rfl, allOne_mem (cs := [.str _]) rfl, allOne_mem (cs := [.str _]) rfl, rfl, trivial⟩ ?_
          · show done.length + 1 ≤ 9223372036854775807; omega
          · show (done.length + 1) * 16 ≤ 140737488355328; omega
          · show 0 + done.length * 1 = (texts done).length; omega
          refine S_round (i + 1, done ++ [now[2 * i]], now.drop (2 * (i + 1)), x + 1) (by show (now.drop (2 * (i + 1))).length < rest.length; rw [hrl, List.length_drop]; omega)
            ⟨by simp; omega, by omega, rfl, by rw [← g4, hrest, List.drop_of_length_le (by omega)]; simp [pairUp]⟩ (.cons rfl (.cons (by simp; rfl) (.cons hw2 (.nil _)))) ?_
          show [(x + 1, some (Box.cells (texts done ++ [.str now[2 * i]]) ⟨false, none⟩))] = _
          simp [tB, texts]
      · have hi2 : now.length ≤ 2 * i := by have : ¬ ((2 * i : Nat) : Int) < (((texts now).length : Nat) : Int) := hlt2; omega
        have hdone : done = pairUp now := by
          rw [← g4, g3, List.drop_of_length_le hi2]; simp [pairUp]
        refine S_freeze1 (t := 5) (id := 0) rfl rfl hdl (texts_one _) (texts_any _) ⟨_, _, .inl rfl⟩ ?_
        refine ab 1000 rfl trivial ?_
        refine S_round (pairUp now, x) (by show (pairUp now).length < now.length; omega) ⟨by omega, by omega, pairUp_dig now hnd, by rw [mroot_pairUp _ _ rfl]; exact hnr⟩ (.cons (by rw [← hdone]; rfl) (.nil _)) rfl
    · have hlt : now.length = 1 := by have : ¬ (1 : Int) < (((texts now).length : Nat) : Int) := hlt; omega
      match now, hlt with
      | [d], _ =>
        refine ab 1000 rfl trivial ?_
        refine S_index (.str d) rfl rfl rfl ⟨rfl, by decide, rfl, trivial⟩ ?_
        refine ab 1000 rfl trivial ?_
        refine S_retc .str rfl trivial ?_
        rw [← hnr, mroot, dif_pos (by simp)]; rfl

end Go.Proofs.YtjpmngjoohoddabDoor
