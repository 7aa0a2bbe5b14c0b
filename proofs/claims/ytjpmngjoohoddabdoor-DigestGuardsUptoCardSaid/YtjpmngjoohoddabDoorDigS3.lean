/-
  The reference's Shown: what is summed on the way from a text upwards.
-/
import Derived.Test.YtjpmngjoohoddabDoorDigS2
set_option linter.unusedVariables false
set_option linter.unusedSimpArgs false
set_option maxRecDepth 20000
namespace Go.Proofs.YtjpmngjoohoddabDoor
open Go Go.Ab

theorem LeafBig_ok (s : List UInt8) (hs : s.length ≤ 1048576) : Calc cx 51 [.str s] (.str (leafS s)) :=
  pure_intro (fun a w => Tryd.call51 a w) Tryd.func51 rfl Tryd.ntmps51 rfl .str fun B => by
    refine ab 1000 rfl ⟨?_, ?_, rfl, trivial⟩ ?_
    · show ((1 + s.length : Nat) : Int) ≤ 9223372036854775807; omega
    · intro x hx; simp at hx; subst hx; trivial
    refine S_pure rfl rfl rfl (SumR_ok (0 :: s) (by simp only [List.length_cons]; omega)) (.cons (.refl .str) (.nil _)) ?_
    refine ab 1000 rfl trivial ?_
    exact S_retc .str rfl trivial rfl

theorem chainT_len (t : List UInt8) : ∀ z, (chainT t z).length = z.length + 1
  | [] => rfl
  | (s, d) :: r => by rw [chainT, List.length_append, chainT_len t r]; rfl

/-- The sides and the digests beside the way, the whole's first, as far as there are both. -/
def wayZ (ss : List Bool) (p : List (List UInt8)) : List (Bool × List UInt8) := (ss.reverse.zip p).reverse

theorem wayZ_eq {ss : List Bool} {p : List (List UInt8)} (h : p.length = ss.length) : wayZ ss p = ss.zip p.reverse := by
  apply List.ext_getElem
  · simp only [wayZ, List.length_reverse, List.length_zip]
  · intro j h1 h2
    simp only [wayZ, List.length_reverse, List.length_zip] at h1 h2
    simp only [wayZ, List.getElem_reverse, List.getElem_zip, List.length_zip, List.length_reverse]
    congr 2 <;> omega

theorem Shown_ok {st fl : Bool} (text : List UInt8) (i n : Nat) (p : List (List UInt8)) (ht : text.length ≤ 1048576) (h1 : 1 ≤ n) (h2 : n ≤ 2000) (h3 : i ≤ 2000) (hp : ∀ d ∈ p, isDig d = true) (hpl : p.length ≤ 1048576) :
    Calc cx 30 [.str text, .int .i64 (i : Nat), .int .i64 (n : Nat), .sl st fl 1 (texts p)] (.sl true false 1 (texts (chainT text (wayZ (sides i n) p)))) :=
  pure_intro (fun a w => Tryd.call30 a w) Tryd.func30 rfl Tryd.ntmps30 rfl (.sl (fun _ => rfl) (texts_any _)) fun B => by
    obtain ⟨ss, hss⟩ : ∃ ss, ss = sides i n := ⟨_, rfl⟩
    have hSd := Sides_ok i n h1 h2 h3
    rw [← hss] at hSd ⊢
    have hbl := bools_len ss
    have htl := texts_len p
    have hsl : ss.length ≤ 2000 := by have := sides_len n i; rw [hss]; omega
    have hlf := leaf_dig text
    obtain ⟨z, hz⟩ : ∃ z, z = wayZ ss p := ⟨_, rfl⟩
    have hzl : z.length = min ss.length p.length := by rw [hz, wayZ, List.length_reverse, List.length_zip, List.length_reverse]
    rw [← hz]
    refine ab 1000 rfl trivial ?_
    refine S_pure rfl rfl rfl hSd (.cons (.refl .int) (.cons (.refl .int) (.nil _))) ?_
    refine go (M := [21]) 1000 rfl ⟨?_, ?_, rfl, trivial⟩ ?_
    · show ((1 + text.length : Nat) : Int) ≤ 9223372036854775807; omega
    · intro x hx; simp at hx; subst hx; trivial
    refine S_unfull (t := 10) rfl ⟨.skip, _, .inr ⟨_, _, _, rfl⟩⟩ ?_
    refine S_pure rfl rfl rfl (LeafBig_ok text ht) (.cons (.refl .str) (.nil _)) ?_
    refine ab 1000 rfl trivial ?_
    refine S_while (α := Nat) (fun k => [(3, .sl st fl 1 (texts p)), (9, .sl true false 1 (bools ss)), (10, .ms 0 k 0 (k + 1) 1 false), (11, .str (upS (leafS text) (z.drop (z.length - k)))), (12, .int .i64 (k : Nat))]) (fun k => [(k, some (.cells (texts (chainT text (z.drop (z.length - k)))) ⟨false, none⟩))]) (fun k => k ≤ z.length) (fun k => z.length - k) 0
      (Nat.zero_le _) (.cons rfl (.cons rfl (.cons rfl (.cons (by rw [Nat.sub_zero, List.drop_of_length_le (by omega)]; rfl) (.cons rfl (.nil _)))))) (by rw [Nat.sub_zero, List.drop_of_length_le (by omega)]; rfl) ?_
    intro k hk
    have hk : k ≤ z.length := hk
    have hcl := chainT_len text (z.drop (z.length - k))
    rw [List.length_drop, show z.length - (z.length - k) = k by omega] at hcl
    have hct := texts_len (chainT text (z.drop (z.length - k)))
    refine ab 1000 rfl trivial ?_
    refine S_guard rfl rfl rfl rfl (fun hlt => ?_) (fun hlt => ?_)
    · have hkp : k < p.length := by have : ((k : Nat) : Int) < (((texts p).length : Nat) : Int) := of_decide_eq_true hlt; omega
      refine ab 1000 rfl trivial ?_
      refine S_dec rfl (fun hlt2 => ?_) (fun hlt2 => ?_)
      · have hks : k < ss.length := by have : ((k : Nat) : Int) < (((bools ss).length : Nat) : Int) := hlt2; omega
        have hkl : k < z.length := by omega
        have hj : z.length - (k + 1) < z.length := by omega
        have hjs : ss.length - (k + 1) < ss.length := by omega
        have hzd : z.drop (z.length - (k + 1)) = (ss[ss.length - (k + 1)], p[k]) :: z.drop (z.length - k) := by
          rw [List.drop_eq_getElem_cons hj, show z.length - (k + 1) + 1 = z.length - k by omega]
          congr 1
          subst hz
          simp only [wayZ, List.getElem_reverse, List.getElem_zip, List.length_zip, List.length_reverse]
          congr 2 <;> omega
        have hdg := upS_dig hlf (z.drop (z.length - k))
        have hpk := hp _ (List.getElem_mem hkp)
        have hw1 : IntKind.i64.wrap ((((bools ss).length : Nat) : Int) - 1) = ((ss.length - 1 : Nat) : Int) := w64 (by omega) (by omega)
        have hw2 : IntKind.i64.wrap (((ss.length - 1 : Nat) : Int) - ((k : Nat) : Int)) = ((ss.length - (k + 1) : Nat) : Int) := w64 (by omega) (by omega)
        have c1 : 0 ≤ IntKind.i64.wrap (IntKind.i64.wrap ((((bools ss).length : Nat) : Int) - 1) - ((k : Nat) : Int)) := by rw [hw1, hw2]; omega
        have c2 : (bools ss)[(IntKind.i64.wrap (IntKind.i64.wrap ((((bools ss).length : Nat) : Int) - 1) - ((k : Nat) : Int))).toNat]? = some (.bool ss[ss.length - (k + 1)]) := by
          rw [hw1, hw2, Int.toNat_natCast]; simp [bools, hjs]
        have c3 : (0 : Int) ≤ ((k : Nat) : Int) := by omega
        have c4 : (texts p)[((k : Nat) : Int).toNat]? = some (.str p[k]) := by rw [Int.toNat_natCast]; exact texts_get hkp
        obtain ⟨sd, hsd⟩ : ∃ sd, sd = ss[ss.length - (k + 1)] := ⟨_, rfl⟩
        rw [← hsd] at c2 hzd
        refine ab 1000 rfl trivial ?_
        refine S_index (.str p[k]) rfl rfl rfl ⟨rfl, c3, c4, trivial⟩ ?_
        refine ab 1000 rfl trivial ?_
        refine S_pure rfl rfl rfl (pairText_ok (upS (leafS text) (z.drop (z.length - k))) p[k] hdg hpk) (.cons (.refl .str) (.cons (.refl .str) (.nil _))) ?_
        refine ab 1000 rfl trivial ?_
        refine S_index (.bool sd) rfl rfl rfl ⟨rfl, c1, c2, trivial⟩ ?_
        refine ab 1000 rfl trivial ?_
        refine S_cond rfl (fun hb => ?_) (fun hb => ?_)
        · refine ab 1000 rfl trivial ?_
          refine S_index (.str p[k]) rfl rfl rfl ⟨rfl, c3, c4, trivial⟩ ?_
          refine ab 1000 rfl trivial ?_
          refine S_pure rfl rfl rfl (pairText_ok p[k] (upS (leafS text) (z.drop (z.length - k))) hpk hdg) (.cons (.refl .str) (.cons (.refl .str) (.nil _))) ?_
          refine ab 1000 rfl ⟨?_, ?_, ?_, rfl, rfl, allOne_mem (cs := [.str _]) rfl, allOne_mem (cs := [.str _]) rfl, rfl, trivial⟩ ?_
          · show k + 1 + 1 ≤ 9223372036854775807; omega
          · show (k + 1 + 1) * 16 ≤ 140737488355328; omega
          · show 0 + (k + 1) * 1 = (texts (chainT text (z.drop (z.length - k)))).length; omega
          refine S_pure rfl rfl rfl (SumR_ok (pairT p[k] (upS (leafS text) (z.drop (z.length - k)))) (by rw [pairT_len (hexE_dig hpk) (hexE_dig hdg)]; decide)) (.cons (.refl .str) (.nil _)) ?_
          refine ab 1000 rfl trivial ?_
          refine S_round (k + 1) (by show z.length - (k + 1) < z.length - k; omega) hkl (.cons rfl (.cons rfl (.cons rfl (.cons (by rw [hzd, upS, hb]; rfl) (.cons (ai64 rfl (by omega)) (.nil _)))))) ?_
          show [(k + 1, some (Box.cells (texts (chainT text (z.drop (z.length - k))) ++ [.str (pairT p[k] (upS (leafS text) (z.drop (z.length - k))))]) ⟨false, none⟩))] = _
          rw [hzd, chainT, hb]
          simp [texts]
        · refine ab 1000 rfl ⟨?_, ?_, ?_, rfl, rfl, allOne_mem (cs := [.str _]) rfl, allOne_mem (cs := [.str _]) rfl, rfl, trivial⟩ ?_
          · show k + 1 + 1 ≤ 9223372036854775807; omega
          · show (k + 1 + 1) * 16 ≤ 140737488355328; omega
          · show 0 + (k + 1) * 1 = (texts (chainT text (z.drop (z.length - k)))).length; omega
          refine S_pure rfl rfl rfl (SumR_ok (pairT (upS (leafS text) (z.drop (z.length - k))) p[k]) (by rw [pairT_len (hexE_dig hdg) (hexE_dig hpk)]; decide)) (.cons (.refl .str) (.nil _)) ?_
          refine ab 1000 rfl trivial ?_
          refine S_round (k + 1) (by show z.length - (k + 1) < z.length - k; omega) hkl (.cons rfl (.cons rfl (.cons rfl (.cons (by rw [hzd, upS, hb]; rfl) (.cons (ai64 rfl (by omega)) (.nil _)))))) ?_
          show [(k + 1, some (Box.cells (texts (chainT text (z.drop (z.length - k))) ++ [.str (pairT (upS (leafS text) (z.drop (z.length - k))) p[k])]) ⟨false, none⟩))] = _
          rw [hzd, chainT, hb]
          simp [texts]
      · have hkz : k = z.length := by have : ¬ ((k : Nat) : Int) < (((bools ss).length : Nat) : Int) := hlt2; omega
        subst hkz
        rw [Nat.sub_self, List.drop_zero] at hcl hct
        refine ab 1000 rfl trivial ?_
        refine S_ret ⟨_, _, rfl, trivial, _, rfl, ?_⟩
        simp only [Nat.sub_self, List.drop_zero]
        exact .ms1 rfl (texts_one _) (by omega) (texts_any _)
    · have hkp : k = z.length := by have : ¬ ((k : Nat) : Int) < (((texts p).length : Nat) : Int) := of_decide_eq_false hlt; omega
      refine ab 1000 rfl trivial ?_
      refine S_cond (b := false) rfl (fun h => by cases h) (fun _ => ?_)
      subst hkp
      rw [Nat.sub_self, List.drop_zero] at hcl hct
      refine ab 1000 rfl trivial ?_
      refine S_ret ⟨_, _, rfl, trivial, _, rfl, ?_⟩
      simp only [Nat.sub_self, List.drop_zero]
      exact .ms1 rfl (texts_one _) (by omega) (texts_any _)

end Go.Proofs.YtjpmngjoohoddabDoor
