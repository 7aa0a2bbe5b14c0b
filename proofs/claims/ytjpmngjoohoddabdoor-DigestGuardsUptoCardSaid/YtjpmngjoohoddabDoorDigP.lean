/-
  Two digests as one: strconv.ParseUint of two hex digits; the program's bytes and pair, the reference's PairOf.
-/
import Derived.Test.YtjpmngjoohoddabDoorSumB
import Derived.Test.YtjpmngjoohoddabDoorDigI
import Derived.Test.YtjpmngjoohoddabDoorRefT
set_option linter.unusedVariables false
set_option linter.unusedSimpArgs false
set_option maxRecDepth 20000
namespace Go.Proofs.YtjpmngjoohoddabDoor
open Go Go.Ab

/-- What a hex digit says. -/
def hexV (c : UInt8) : Nat := if c.toNat ≤ 57 then c.toNat - 48 else c.toNat - 87

theorem hexV_lt {c : UInt8} (h : hexB c = true) : hexV c < 16 := by
  unfold hexB at h; unfold hexV
  simp only [Bool.or_eq_true, Bool.and_eq_true, decide_eq_true_eq] at h
  split <;> omega

theorem hexOf_hexV {c : UInt8} (h : hexB c = true) : hexOf c.toNat = (hexV c : Int) := by
  unfold hexB at h; unfold hexV hexOf
  simp only [Bool.or_eq_true, Bool.and_eq_true, decide_eq_true_eq] at h
  split
  · rw [if_pos (by omega)]; omega
  · rw [if_pos (by omega), if_neg (by omega)]; omega

theorem lower_ok (c : Nat) (h1 : 97 ≤ c) (h2 : c ≤ 102) : Calc cx 90 [.int .u8 c] (.int .u8 c) :=
  pure_intro (fun a w => Tryd.call90 a w) Tryd.func90 rfl Tryd.ntmps90 rfl .int fun B => by
    refine ab 1000 rfl trivial ?_
    refine S_retc .int rfl trivial ?_
    have : c = 97 ∨ c = 98 ∨ c = 99 ∨ c = 100 ∨ c = 101 ∨ c = 102 := by omega
    rcases this with rfl | rfl | rfl | rfl | rfl | rfl <;> rfl

theorem parseI_ok (x y : UInt8) (hx : hexB x = true) (hy : hexB y = true) : Calc cx 86 [.str [x, y], .int .i64 16, .int .i64 8] (.tup [.int .u64 (16 * hexV x + hexV y : Nat), .nili]) :=
  pure_intro (fun a w => Tryd.call86 a w) Tryd.func86 rfl Tryd.ntmps86 rfl (.tup (by intro z hz; simp at hz; rcases hz with rfl | rfl; exact .int; exact .nili)) fun B => by
    have vx := hexV_lt hx
    have vy := hexV_lt hy
    refine ab 1000 rfl trivial ?_
    refine S_cond (b := false) rfl (fun h => by cases h) (fun _ => ?_)
    refine ab 1000 rfl trivial ?_
    refine S_guard rfl rfl rfl rfl (fun _ => ?_) (fun h => by cases h)
    refine ab 1000 rfl trivial ?_
    refine S_cond (b := true) rfl (fun _ => ?_) (fun h => by cases h)
    refine ab 1000 rfl trivial ?_
    refine S_cond (b := false) rfl (fun h => by cases h) (fun _ => ?_)
    refine ab 1000 rfl trivial ?_
    refine S_guard rfl rfl rfl rfl (fun h => by cases h) (fun _ => ?_)
    refine ab 1000 rfl trivial ?_
    refine S_cond (b := false) rfl (fun h => by cases h) (fun _ => ?_)
    refine ab 1000 rfl trivial ?_
    refine S_cond (b := false) rfl (fun h => by cases h) (fun _ => ?_)
    refine ab 1000 rfl trivial ?_
    refine S_cond (b := true) rfl (fun _ => ?_) (fun h => by cases h)
    refine ab 1000 rfl ⟨by decide, trivial⟩ ?_
    obtain ⟨val, hval⟩ : ∃ val : Nat → Nat, val = fun i => if i = 0 then 0 else if i = 1 then hexV x else 16 * hexV x + hexV y := ⟨_, rfl⟩
    have vlt : ∀ i, val i < 256 := fun i => by rw [hval]; simp only; split; omega; split <;> omega
    have hget : ∀ i, i < 2 → hexB ([x, y].getD i 0) = true ∧ val (i + 1) = 16 * val i + hexV ([x, y].getD i 0) := fun i hi => by
      have : i = 0 ∨ i = 1 := by omega
      rcases this with rfl | rfl
      · exact ⟨hx, by rw [hval]; simp [List.getD]⟩
      · exact ⟨hy, by rw [hval]; simp [List.getD]⟩
    refine S_while (α := Nat) (fun i => [(0, .str [x, y]), (1, .int .i64 16), (8, .bool false), (10, .int .u64 1152921504606846976), (11, .int .u64 255), (12, .bool false), (13, .int .u64 (val i : Nat)), (99, .sl true false 1 ([x, y].map byteAV)), (100, .int .i64 2), (101, .int .i64 (i : Nat))]) (fun _ => []) (fun i => i ≤ 2) (fun i => 2 - i) 0
      (Nat.zero_le _) (.cons rfl (.cons rfl (.cons rfl (.cons rfl (.cons rfl (.cons rfl (.cons (by rw [hval]; rfl) (.cons rfl (.cons rfl (.cons rfl (.nil _))))))))))) rfl ?_
    intro i hi
    refine ab 1000 rfl trivial ?_
    refine S_dec rfl (fun hlt => ?_) (fun hlt => ?_)
    · have hi2 : i < 2 := by omega
      obtain ⟨c, hc⟩ : ∃ c, c = [x, y].getD i 0 := ⟨_, rfl⟩
      obtain ⟨hcb, hnx⟩ := hget i hi2
      rw [← hc] at hcb hnx
      have hlt8 := hexV_lt hcb
      have hcb' := hcb
      unfold hexB at hcb'
      simp only [Bool.or_eq_true, Bool.and_eq_true, decide_eq_true_eq] at hcb'
      have hv := vlt i
      have hg : ([x, y].map byteAV)[((i : Nat) : Int).toNat]? = some (byteAV c) := by
        rw [Int.toNat_natCast, hc]
        have : i = 0 ∨ i = 1 := by omega
        rcases this with rfl | rfl <;> rfl
      refine ab 1000 rfl trivial ?_
      refine S_index (byteAV c) rfl rfl rfl ⟨rfl, by omega, hg, trivial⟩ ?_
      refine ab 1000 rfl trivial ?_
      refine S_guard rfl rfl rfl rfl (fun h => ?_) (fun _ => ?_)
      · exfalso
        have h : (((c.toNat : Nat) : Int) == 95) = true := h
        have : ((c.toNat : Nat) : Int) = 95 := by simpa using h
        omega
      refine ab 1000 rfl trivial ?_
      refine S_cond (b := false) rfl (fun h => by cases h) (fun _ => ?_)
      refine ab 1000 rfl trivial ?_
      refine S_guard rfl rfl rfl rfl (fun _ => ?_) (fun h => ?_)
      · refine ab 1000 rfl trivial ?_
        refine S_dec rfl (fun h57 => ?_) (fun h57 => ?_)
        · have h57 : c.toNat ≤ 57 := by have : ((c.toNat : Nat) : Int) ≤ 57 := h57; omega
          have hd : IntKind.u8.wrap (((c.toNat : Nat) : Int) - 48) = ((hexV c : Nat) : Int) := by
            rw [hexV, if_pos h57]; exact wu8 (by omega) (by omega)
          refine ab 1000 rfl trivial ?_
          refine S_dec rfl (fun h => ?_) (fun _ => ?_)
          · exfalso
            have h : (16 : Int) ≤ IntKind.u8.wrap (((c.toNat : Nat) : Int) - 48) := h
            rw [hd] at h; omega
          refine ab 1000 rfl trivial ?_
          refine S_dec rfl (fun h => ?_) (fun _ => ?_)
          · exfalso
            have h : (1152921504606846976 : Int) ≤ ((val i : Nat) : Int) := h
            omega
          have e1 : IntKind.u64.wrap (((val i : Nat) : Int) * 16) = ((16 * val i : Nat) : Int) := wu64 (by omega) (by omega)
          have e2 : IntKind.u64.wrap (IntKind.u8.wrap (((c.toNat : Nat) : Int) - 48)) = ((hexV c : Nat) : Int) := by rw [hd]; exact wu64 rfl (by omega)
          have e3 : IntKind.u64.wrap (((16 * val i : Nat) : Int) + ((hexV c : Nat) : Int)) = ((val (i + 1) : Nat) : Int) := by rw [hnx]; exact wu64 (by omega) (by have := vlt (i + 1); omega)
          have h4 := vlt (i + 1)
          refine ab 1000 rfl trivial ?_
          refine S_guard rfl rfl rfl rfl (fun h => ?_) (fun _ => ?_)
          · exfalso
            have h : IntKind.u64.wrap (IntKind.u64.wrap (((val i : Nat) : Int) * 16) + IntKind.u64.wrap (IntKind.u8.wrap (((c.toNat : Nat) : Int) - 48))) < IntKind.u64.wrap (((val i : Nat) : Int) * 16) := of_decide_eq_true h
            rw [e1, e2, e3] at h; omega
          refine ab 1000 rfl trivial ?_
          refine S_dec rfl (fun h => ?_) (fun _ => ?_)
          · exfalso
            have h : (255 : Int) < IntKind.u64.wrap (IntKind.u64.wrap (((val i : Nat) : Int) * 16) + IntKind.u64.wrap (IntKind.u8.wrap (((c.toNat : Nat) : Int) - 48))) := h
            rw [e1, e2, e3] at h; omega
          refine ab 1000 rfl trivial ?_
          refine S_round (i + 1) (by show 2 - (i + 1) < 2 - i; omega) hi2 (.cons rfl (.cons rfl (.cons rfl (.cons rfl (.cons rfl (.cons rfl (.cons ?_ (.cons rfl (.cons rfl (.cons (ai64 rfl (by omega)) (.nil _))))))))))) rfl
          show AV.int .u64 (IntKind.u64.wrap (IntKind.u64.wrap (((val i : Nat) : Int) * 16) + IntKind.u64.wrap (IntKind.u8.wrap (((c.toNat : Nat) : Int) - 48)))) = _
          rw [e1, e2, e3]
        · have h57 : ¬ c.toNat ≤ 57 := by have : ¬ ((c.toNat : Nat) : Int) ≤ 57 := h57; omega
          have h97 : 97 ≤ c.toNat ∧ c.toNat ≤ 102 := by omega
          have hd0 : IntKind.u8.wrap (((c.toNat : Nat) : Int) - 97) = ((c.toNat - 97 : Nat) : Int) := wu8 (by omega) (by omega)
          have hd : IntKind.u8.wrap (IntKind.u8.wrap (((c.toNat : Nat) : Int) - 97) + 10) = ((hexV c : Nat) : Int) := by
            rw [hd0, hexV, if_neg h57]; exact wu8 (by omega) (by omega)
          refine ab 1000 rfl trivial ?_
          refine S_pure rfl rfl rfl (lower_ok c.toNat h97.1 h97.2) (.cons (.refl .int) (.nil _)) ?_
          refine ab 1000 rfl trivial ?_
          refine S_guard rfl rfl rfl rfl (fun _ => ?_) (fun h => ?_)
          · refine ab 1000 rfl trivial ?_
            refine S_pure rfl rfl rfl (lower_ok c.toNat h97.1 h97.2) (.cons (.refl .int) (.nil _)) ?_
            refine ab 1000 rfl trivial ?_
            refine S_dec rfl (fun _ => ?_) (fun h => ?_)
            · refine ab 1000 rfl trivial ?_
              refine S_pure rfl rfl rfl (lower_ok c.toNat h97.1 h97.2) (.cons (.refl .int) (.nil _)) ?_
              refine ab 1000 rfl trivial ?_
              refine S_dec rfl (fun h => ?_) (fun _ => ?_)
              · exfalso
                have h : (16 : Int) ≤ IntKind.u8.wrap (IntKind.u8.wrap (((c.toNat : Nat) : Int) - 97) + 10) := h
                rw [hd] at h; omega
              refine ab 1000 rfl trivial ?_
              refine S_dec rfl (fun h => ?_) (fun _ => ?_)
              · exfalso
                have h : (1152921504606846976 : Int) ≤ ((val i : Nat) : Int) := h
                omega
              have e1 : IntKind.u64.wrap (((val i : Nat) : Int) * 16) = ((16 * val i : Nat) : Int) := wu64 (by omega) (by omega)
              have e2 : IntKind.u64.wrap (IntKind.u8.wrap (IntKind.u8.wrap (((c.toNat : Nat) : Int) - 97) + 10)) = ((hexV c : Nat) : Int) := by rw [hd]; exact wu64 rfl (by omega)
              have e3 : IntKind.u64.wrap (((16 * val i : Nat) : Int) + ((hexV c : Nat) : Int)) = ((val (i + 1) : Nat) : Int) := by rw [hnx]; exact wu64 (by omega) (by have := vlt (i + 1); omega)
              have h4 := vlt (i + 1)
              refine ab 1000 rfl trivial ?_
              refine S_guard rfl rfl rfl rfl (fun h => ?_) (fun _ => ?_)
              · exfalso
                have h : IntKind.u64.wrap (IntKind.u64.wrap (((val i : Nat) : Int) * 16) + IntKind.u64.wrap (IntKind.u8.wrap (IntKind.u8.wrap (((c.toNat : Nat) : Int) - 97) + 10))) < IntKind.u64.wrap (((val i : Nat) : Int) * 16) := of_decide_eq_true h
                rw [e1, e2, e3] at h; omega
              refine ab 1000 rfl trivial ?_
              refine S_dec rfl (fun h => ?_) (fun _ => ?_)
              · exfalso
                have h : (255 : Int) < IntKind.u64.wrap (IntKind.u64.wrap (((val i : Nat) : Int) * 16) + IntKind.u64.wrap (IntKind.u8.wrap (IntKind.u8.wrap (((c.toNat : Nat) : Int) - 97) + 10))) := h
                rw [e1, e2, e3] at h; omega
              refine ab 1000 rfl trivial ?_
              refine S_round (i + 1) (by show 2 - (i + 1) < 2 - i; omega) hi2 (.cons rfl (.cons rfl (.cons rfl (.cons rfl (.cons rfl (.cons rfl (.cons ?_ (.cons rfl (.cons rfl (.cons (ai64 rfl (by omega)) (.nil _))))))))))) rfl
              show AV.int .u64 (IntKind.u64.wrap (IntKind.u64.wrap (((val i : Nat) : Int) * 16) + IntKind.u64.wrap (IntKind.u8.wrap (IntKind.u8.wrap (((c.toNat : Nat) : Int) - 97) + 10)))) = _
              rw [e1, e2, e3]
            · exfalso
              have h : ¬ ((c.toNat : Nat) : Int) ≤ 122 := h
              omega
          · exfalso
            have h : ¬ (97 : Int) ≤ ((c.toNat : Nat) : Int) := of_decide_eq_false h
            omega
      · exfalso
        have h : ¬ (48 : Int) ≤ ((c.toNat : Nat) : Int) := of_decide_eq_false h
        omega
    · have hi2 : i = 2 := by omega
      subst hi2
      refine ab 1000 rfl trivial ?_
      refine S_guard rfl rfl rfl rfl (fun h => by cases h) (fun _ => ?_)
      refine ab 1000 rfl trivial ?_
      refine S_cond (b := false) rfl (fun h => by cases h) (fun _ => ?_)
      refine ab 1000 rfl trivial ?_
      refine S_retc (.tup (by intro z hz; simp at hz; rcases hz with rfl | rfl; exact .int; exact .nili)) rfl trivial ?_
      rw [hval]; rfl

theorem parse_free {n : Int} : Free true (.tup [.int .u64 n, .nili]) := .tup (by intro z hz; simp at hz; rcases hz with rfl | rfl; exact .int; exact .nili)

theorem parse_ok (x y : UInt8) (hx : hexB x = true) (hy : hexB y = true) : Calc cx 83 [.str [x, y], .int .i64 16, .int .i64 8] (.tup [.int .u64 (16 * hexV x + hexV y : Nat), .nili]) :=
  pure_intro (fun a w => Tryd.call83 a w) Tryd.func83 rfl Tryd.ntmps83 rfl parse_free fun B => by
    refine ab 1000 rfl trivial ?_
    refine S_pure rfl rfl rfl (parseI_ok x y hx hy) (.cons (.refl .str) (.cons (.refl .int) (.cons (.refl .int) (.nil _)))) ?_
    refine ab 1000 rfl trivial ?_
    refine S_cond (b := false) rfl (fun h => by cases h) (fun _ => ?_)
    refine ab 1000 rfl trivial ?_
    exact S_retc parse_free rfl trivial rfl

/-- The letters that hex digits, two by two, say. -/
def unhex : List UInt8 → List UInt8
  | x :: y :: r => UInt8.ofNat (16 * hexV x + hexV y) :: unhex r
  | _ => []

theorem unhex_len : ∀ (k : Nat) (d : List UInt8), d.length = 2 * k → (unhex d).length = k
  | 0, d, h => by
    obtain rfl := List.eq_nil_of_length_eq_zero (by simpa using h)
    rfl
  | k + 1, x :: y :: d, h => by
    rw [unhex, List.length_cons, unhex_len k d (by simp only [List.length_cons] at h; omega)]
  | k + 1, [x], h => by simp at h; omega
  | k + 1, [], h => by simp at h

theorem unhex_app : ∀ (k : Nat) (d e : List UInt8), d.length = 2 * k → unhex (d ++ e) = unhex d ++ unhex e
  | 0, d, e, h => by
    obtain rfl := List.eq_nil_of_length_eq_zero (by simpa using h)
    rfl
  | k + 1, x :: y :: d, e, h => by
    show unhex (x :: y :: (d ++ e)) = _
    rw [unhex, unhex_app k d e (by simp only [List.length_cons] at h; omega)]; rfl
  | k + 1, [x], e, h => by simp at h; omega
  | k + 1, [], e, h => by simp at h

/-- Hex digits, an even number of them. -/
def HexE (d : List UInt8) (k : Nat) : Prop := d.length = 2 * k ∧ ∀ c ∈ d, hexB c = true

theorem hexE_dig {d : List UInt8} (h : isDig d = true) : HexE d 32 := by
  unfold isDig at h
  simp only [Bool.and_eq_true, beq_iff_eq] at h
  exact ⟨h.2, List.all_eq_true.1 h.1⟩

theorem hexE_two {d : List UInt8} {k i : Nat} (h : HexE d k) (hi : i < k) : ∃ x y, d.drop (2 * i) = x :: y :: d.drop (2 * (i + 1)) ∧ hexB x = true ∧ hexB y = true ∧ d.getD (2 * i) 0 = x ∧ d.getD (2 * i + 1) 0 = y := by
  obtain ⟨h1, h2⟩ := h
  have a1 : 2 * i < d.length := by omega
  have a2 : 2 * i + 1 < d.length := by omega
  refine ⟨d[2 * i], d[2 * i + 1], ?_, h2 _ (List.getElem_mem _), h2 _ (List.getElem_mem _), by simp [List.getD, a1], by simp [List.getD, a2]⟩
  rw [List.drop_eq_getElem_cons a1, List.drop_eq_getElem_cons a2, show 2 * i + 1 + 1 = 2 * (i + 1) by omega]

theorem unhex_step {d : List UInt8} {k i : Nat} (h : HexE d k) (hi : i < k) : unhex (d.take (2 * (i + 1))) = unhex (d.take (2 * i)) ++ [UInt8.ofNat (16 * hexV (d.getD (2 * i) 0) + hexV (d.getD (2 * i + 1) 0))] := by
  obtain ⟨x, y, e, hx, hy, gx, gy⟩ := hexE_two h hi
  have ht : d.take (2 * (i + 1)) = d.take (2 * i) ++ [x, y] := by
    have h1 := List.take_append_drop (2 * i) d
    rw [e] at h1
    have h3 : (d.take (2 * i)).length = 2 * i := by rw [List.length_take]; have := h.1; omega
    conv => lhs; rw [← h1]
    rw [List.take_append, h3, List.take_of_length_le (by omega), show 2 * (i + 1) - 2 * i = 2 by omega]
    rfl
  rw [ht, unhex_app i _ _ (by rw [List.length_take]; have := h.1; omega), gx, gy]
  rfl

theorem bytes_ok (d : List UInt8) (k : Nat) (h : HexE d k) (hk : k ≤ 1000) : Calc cx 74 [.str d] (.str (unhex d)) :=
  pure_intro (fun a w => Tryd.call74 a w) Tryd.func74 rfl Tryd.ntmps74 rfl .str fun B => by
    have hdl := h.1
    refine ab 1000 rfl trivial ?_
    refine S_ghostF (t := 3) 1 ⟨false, some 5⟩ rfl rfl ⟨_, _, .inl rfl⟩ ?_
    refine S_while (α := Nat × Nat) (fun (i, u) => [(0, .str d), (3, .ms 0 u 0 i 1 false), (4, .int .i64 (2 * i : Nat))]) (fun (i, u) => [bB u (unhex (d.take (2 * i))) ⟨false, some 5⟩]) (fun (i, u) => i ≤ k) (fun (i, u) => k - i) (0, 0)
      (Nat.zero_le _) (.cons rfl (.cons rfl (.cons rfl (.nil _)))) rfl ?_
    rintro ⟨i, u⟩ hi
    have hi : i ≤ k := hi
    refine ab 1000 rfl trivial ?_
    refine S_dec rfl (fun hlt => ?_) (fun hlt => ?_)
    · have hik : i < k := by omega
      obtain ⟨x, y, e, hx, hy, gx, gy⟩ := hexE_two h hik
      have vx := hexV_lt hx
      have vy := hexV_lt hy
      have hw : IntKind.i64.wrap (((2 * i : Nat) : Int) + 2) = ((2 * i + 2 : Nat) : Int) := w64 (by omega) (by omega)
      have hcut : cutL (some ((2 * i : Nat) : Int)) (some (IntKind.i64.wrap (((2 * i : Nat) : Int) + 2))) d = [x, y] := by
        rw [hw]
        show (d.take ((2 * i + 2 : Nat) : Int).toNat).drop ((2 * i : Nat) : Int).toNat = _
        rw [Int.toNat_natCast, Int.toNat_natCast, List.drop_take, e, show 2 * i + 2 - 2 * i = 2 by omega]
        rfl
      have hul : (unhex (d.take (2 * i))).length = i := unhex_len i _ (by rw [List.length_take]; omega)
      have hst := unhex_step h hik
      rw [gx, gy] at hst
      refine ab 1000 rfl ⟨by rw [hw]; omega, by rw [hw]; omega, by omega, trivial⟩ ?_
      refine S_pure rfl rfl rfl (parse_ok x y hx hy) (.cons (by show Frz false _ (.str (cutL (some ((2 * i : Nat) : Int)) (some (IntKind.i64.wrap (((2 * i : Nat) : Int) + 2))) d)) _; rw [hcut]; exact .refl .str) (.cons (.refl .int) (.cons (.refl .int) (.nil _)))) ?_
      have hval : AV.int .u8 (IntKind.u8.wrap ((16 * hexV x + hexV y : Nat) : Int)) = byteAV (UInt8.ofNat (16 * hexV x + hexV y)) := by
        rw [wu8 rfl (by omega)]
        exact byteAV_of rfl (by omega)
      refine ab 1000 rfl ⟨?_, ?_, ?_, rfl, rfl, ?_, ?_, rfl, trivial⟩ ?_
      · show i + 1 ≤ 9223372036854775807; omega
      · show (i + 1) * 1 ≤ 140737488355328; omega
      · show 0 + i * 1 = ((unhex (d.take (2 * i))).map byteAV).length; rw [List.length_map, hul]; omega
      · exact allOne_mem (cs := [.int .u8 _]) rfl
      · exact allOne_mem (cs := [.int .u8 _]) rfl
      refine S_round (i + 1, u + 1) (by show k - (i + 1) < k - i; omega) hik (.cons rfl (.cons rfl (.cons (ai64 (by omega) (by omega)) (.nil _)))) ?_
      show [(u + 1, some (Box.cells ((unhex (d.take (2 * i))).map byteAV ++ [AV.int .u8 (IntKind.u8.wrap ((16 * hexV x + hexV y : Nat) : Int))]) _))] = [bB (u + 1) (unhex (d.take (2 * (i + 1)))) _]
      rw [hval, hst]
      simp only [bB, List.map_append, List.map_cons, List.map_nil]
      rfl
    · have hik : i = k := by omega
      subst hik
      have hdt : d.take (2 * i) = d := List.take_of_length_le (by omega)
      rw [hdt]
      have hul : (unhex d).length = i := unhex_len i _ hdl
      refine ab 1000 rfl ⟨?_, ?_, rfl, rfl, trivial⟩ ?_
      · intro x hx
        exact bytes_isByte _ x (List.mem_of_mem_drop (List.mem_of_mem_take hx))
      · show 0 + i ≤ ((unhex d).map byteAV).length
        rw [List.length_map, hul]; omega
      refine S_retc .str rfl trivial ?_
      show AV.str (((((unhex d).map byteAV).drop 0).take i).map Ab.byteOf) = _
      rw [List.drop_zero, List.take_of_length_le (by rw [List.length_map, hul]; exact Nat.le_refl _), bytes_of]

/-- Two digests as one. -/
def pairT (a b : List UInt8) : List UInt8 := 1 :: (unhex a ++ unhex b)
def pairS (a b : List UInt8) : List UInt8 := sha (pairT a b)

theorem pairT_len {a b : List UInt8} {k j : Nat} (ha : HexE a k) (hb : HexE b j) : (pairT a b).length = k + j + 1 := by
  rw [pairT, List.length_cons, List.length_append, unhex_len k a ha.1, unhex_len j b hb.1]

theorem pair_ok (a b : List UInt8) (k j : Nat) (ha : HexE a k) (hb : HexE b j) (hk : k ≤ 1000) (hj : j ≤ 1000) : Calc cx 47 [.str a, .str b] (.str (pairS a b)) :=
  pure_intro (fun a w => Tryd.call47 a w) Tryd.func47 rfl Tryd.ntmps47 rfl .str fun B => by
    have la := unhex_len k a ha.1
    have lb := unhex_len j b hb.1
    refine ab 1000 rfl trivial ?_
    refine S_pure rfl rfl rfl (bytes_ok a k ha hk) (.cons (.refl .str) (.nil _)) ?_
    refine ab 1000 rfl ⟨?_, trivial⟩ ?_
    · show ((1 + (unhex a).length : Nat) : Int) ≤ 9223372036854775807; omega
    refine S_pure rfl rfl rfl (bytes_ok b j hb hj) (.cons (.refl .str) (.nil _)) ?_
    refine ab 1000 rfl ⟨?_, trivial⟩ ?_
    · show (((([1] : List UInt8) ++ unhex a).length + (unhex b).length : Nat) : Int) ≤ 9223372036854775807
      rw [List.length_append]; simp only [List.length_cons, List.length_nil]; omega
    have hp := pairT_len ha hb
    refine S_pure rfl rfl rfl (Sum_ok (pairT a b) (by omega)) (.cons ?_ (.nil _)) ?_
    · show Frz false _ (.str (([1] ++ unhex a) ++ unhex b)) (.str (1 :: (unhex a ++ unhex b)))
      rw [List.append_assoc]; exact .refl .str
    refine ab 1000 rfl trivial ?_
    exact S_retc .str rfl trivial rfl

theorem pairS_dig (a b : List UInt8) : isDig (pairS a b) = true := isDig_sha _

theorem Pair_ok (a b : List UInt8) (ha : a.length ≤ 9223372036854775806) (hb : b.length ≤ 9223372036854775806) : Calc cx 12 [.str a, .str b] (.tup [.str (if (isDig a && isDig b) = true then pairS a b else []), .int .i64 (if (isDig a && isDig b) = true then 0 else 1 : Nat)]) :=
  pure_intro (fun a w => Tryd.call12 a w) Tryd.func12 rfl Tryd.ntmps12 rfl (ans_free _ _) fun B => by
    refine ab 1000 rfl trivial ?_
    refine S_pure rfl rfl rfl (digestIs_ok a (by omega)) (.cons (.refl .str) (.nil _)) ?_
    refine ab 1000 rfl trivial ?_
    refine S_guard rfl rfl rfl rfl (fun h => ?_) (fun h => ?_)
    · have h : isDig a = false := by simpa using (show (!isDig a) = true from h)
      refine ab 1000 rfl trivial ?_
      refine S_cond rfl (fun _ => ?_) (fun h => by cases h)
      refine ab 1000 rfl trivial ?_
      refine S_retc (ans_free _ _) rfl trivial ?_
      rw [h]; rfl
    have h : isDig a = true := by simpa using (show (!isDig a) = false from h)
    refine ab 1000 rfl trivial ?_
    refine S_pure rfl rfl rfl (digestIs_ok b (by omega)) (.cons (.refl .str) (.nil _)) ?_
    refine ab 1000 rfl trivial ?_
    refine S_cond rfl (fun h2 => ?_) (fun h2 => ?_)
    · have h2 : isDig b = false := by simpa using (show (!isDig b) = true from h2)
      refine ab 1000 rfl trivial ?_
      refine S_retc (ans_free _ _) rfl trivial ?_
      rw [h, h2]; rfl
    have h2 : isDig b = true := by simpa using (show (!isDig b) = false from h2)
    refine ab 1000 rfl trivial ?_
    refine S_pure rfl rfl rfl (pair_ok a b 32 32 (hexE_dig h) (hexE_dig h2) (by decide) (by decide)) (.cons (.refl .str) (.cons (.refl .str) (.nil _))) ?_
    refine ab 1000 rfl trivial ?_
    refine S_retc (ans_free _ _) rfl trivial ?_
    rw [h, h2]; rfl

theorem PairOf_ok (a b : List UInt8) (ha : isDig a = true) (hb : isDig b = true) : Calc cx 14 [.str a, .str b] (.str (pairS a b)) :=
  pure_intro (fun a w => Tryd.call14 a w) Tryd.func14 rfl Tryd.ntmps14 rfl .str fun B => by
    have h1 := hexE_dig ha
    have h2 := hexE_dig hb
    obtain ⟨d, hd⟩ : ∃ d, d = a ++ b := ⟨_, rfl⟩
    have hE : HexE d 64 := ⟨by rw [hd, List.length_append, h1.1, h2.1], fun c hc => by
      rw [hd] at hc
      rcases List.mem_append.1 hc with h | h
      · exact h1.2 c h
      · exact h2.2 c h⟩
    have hT : pairT a b = 1 :: unhex d := by rw [hd, unhex_app 32 a b h1.1]; rfl
    have hdl := hE.1
    refine go (M := [8]) 1000 rfl ⟨?_, trivial⟩ ?_
    · show ((a.length + b.length : Nat) : Int) ≤ 9223372036854775807; have := h1.1; have := h2.1; omega
    refine S_unfull (t := 5) rfl ⟨_, _, .inl rfl⟩ ?_
    refine S_while (α := Nat × Nat) (fun (i, u) => [(5, .ms 0 u 0 (i + 1) 1 false), (6, .str d), (7, .int .i64 (2 * i : Nat))]) (fun (i, u) => [bB u (1 :: unhex (d.take (2 * i))) ⟨false, some 5⟩]) (fun (i, u) => i ≤ 64) (fun (i, u) => 64 - i) (0, 0)
      (Nat.zero_le _) (.cons rfl (.cons (by rw [hd]; rfl) (.cons rfl (.nil _)))) rfl ?_
    rintro ⟨i, u⟩ hi
    have hi : i ≤ 64 := hi
    refine ab 1000 rfl trivial ?_
    refine S_dec rfl (fun hlt => ?_) (fun hlt => ?_)
    · have hik : i < 64 := by omega
      obtain ⟨x, y, e, hx, hy, gx, gy⟩ := hexE_two hE hik
      have vx := hexV_lt hx
      have vy := hexV_lt hy
      have hxo := hexOf_hexV hx
      have hyo := hexOf_hexV hy
      have hw : IntKind.i64.wrap (((2 * i : Nat) : Int) + 1) = ((2 * i + 1 : Nat) : Int) := w64 (by omega) (by omega)
      have hul : (unhex (d.take (2 * i))).length = i := unhex_len i _ (by rw [List.length_take]; omega)
      have hst := unhex_step hE hik
      rw [gx, gy] at hst
      have b1 : 0 ≤ ((2 * i : Nat) : Int) ∧ ((2 * i : Nat) : Int) < (d.length : Int) := by omega
      have b2 : 0 ≤ IntKind.i64.wrap (((2 * i : Nat) : Int) + 1) ∧ IntKind.i64.wrap (((2 * i : Nat) : Int) + 1) < (d.length : Int) := by rw [hw]; omega
      have g1 : (((d.getD ((2 * i : Nat) : Int).toNat 0).toNat : Nat) : Int) = ((x.toNat : Nat) : Int) := by rw [Int.toNat_natCast, gx]
      have g2 : (((d.getD (IntKind.i64.wrap (((2 * i : Nat) : Int) + 1)).toNat 0).toNat : Nat) : Int) = ((y.toNat : Nat) : Int) := by rw [hw, Int.toNat_natCast, gy]
      have e1 : IntKind.i64.wrap (16 * ((hexV x : Nat) : Int)) = ((16 * hexV x : Nat) : Int) := w64 (by omega) (by omega)
      have e2 : IntKind.i64.wrap (((16 * hexV x : Nat) : Int) + ((hexV y : Nat) : Int)) = ((16 * hexV x + hexV y : Nat) : Int) := w64 (by omega) (by omega)
      have hval : AV.int .u8 (IntKind.u8.wrap (IntKind.i64.wrap (IntKind.i64.wrap (16 * ((hexV x : Nat) : Int)) + ((hexV y : Nat) : Int)))) = byteAV (UInt8.ofNat (16 * hexV x + hexV y)) := by
        rw [e1, e2, wu8 rfl (by omega)]
        exact byteAV_of rfl (by omega)
      have hHx := HexOf_ok x.toNat x.toNat_lt
      have hHy := HexOf_ok y.toNat y.toNat_lt
      rw [hxo] at hHx
      rw [hyo] at hHy
      refine ab 1000 rfl trivial ?_
      refine S_draw 14 [] [.int .i64 (hexV x : Nat), .int .i64 (hexV y : Nat)] rfl rfl rfl rfl
        ⟨rfl, rfl, rfl, rfl, b1.1, b1.2, ⟨_, hHx, .cons (by show Frz false _ (.int .u8 (((d.getD ((2 * i : Nat) : Int).toNat 0).toNat : Nat) : Int)) _; rw [g1]; exact .refl .int) (.nil _)⟩, rfl, rfl, rfl, rfl, rfl, b2.1, b2.2, ⟨_, hHy, .cons (by show Frz false _ (.int .u8 (((d.getD (IntKind.i64.wrap (((2 * i : Nat) : Int) + 1)).toNat 0).toNat : Nat) : Int)) _; rw [g2]; exact .refl .int) (.nil _)⟩, rfl, rfl, rfl, trivial⟩ ?_
      refine ab 1000 rfl ⟨?_, ?_, ?_, rfl, rfl, ?_, ?_, rfl, trivial⟩ ?_
      · show i + 1 + 1 ≤ 9223372036854775807; omega
      · show (i + 1 + 1) * 1 ≤ 140737488355328; omega
      · show 0 + (i + 1) * 1 = ((1 :: unhex (d.take (2 * i))).map byteAV).length; rw [List.length_map, List.length_cons, hul]; omega
      · exact allOne_mem (cs := [.int .u8 _]) rfl
      · exact allOne_mem (cs := [.int .u8 _]) rfl
      refine S_round (i + 1, u + 1) (by show 64 - (i + 1) < 64 - i; omega) hik (.cons rfl (.cons rfl (.cons (ai64 (by omega) (by omega)) (.nil _)))) ?_
      show [(u + 1, some (Box.cells ((1 :: unhex (d.take (2 * i))).map byteAV ++ [AV.int .u8 (IntKind.u8.wrap (IntKind.i64.wrap (IntKind.i64.wrap (16 * ((hexV x : Nat) : Int)) + ((hexV y : Nat) : Int))))]) _))] = [bB (u + 1) (1 :: unhex (d.take (2 * (i + 1)))) _]
      rw [hval, hst]
      simp only [bB, List.map_append, List.map_cons, List.map_nil, List.cons_append]
      rfl
    · have hik : i = 64 := by omega
      subst hik
      have hdt : d.take (2 * 64) = d := List.take_of_length_le (by omega)
      rw [hdt, ← hT]
      have hpl := pairT_len h1 h2
      refine ab 1000 rfl ⟨?_, ?_, rfl, rfl, trivial⟩ ?_
      · intro x hx
        exact bytes_isByte _ x (List.mem_of_mem_drop (List.mem_of_mem_take hx))
      · show 0 + (64 + 1) ≤ ((pairT a b).map byteAV).length
        rw [List.length_map, hpl]; decide
      have hcv : ((((pairT a b).map byteAV).drop 0).take (64 + 1)).map Ab.byteOf = pairT a b := by
        rw [List.drop_zero, List.take_of_length_le (by rw [List.length_map, hpl]; decide), bytes_of]
      refine S_pure rfl rfl rfl (SumR_ok (pairT a b) (by omega)) (.cons (by show Frz false _ (.str (((((pairT a b).map byteAV).drop 0).take (64 + 1)).map Ab.byteOf)) _; rw [hcv]; exact .refl .str) (.nil _)) ?_
      refine ab 1000 rfl trivial ?_
      exact S_retc .str rfl trivial rfl

end Go.Proofs.YtjpmngjoohoddabDoor
