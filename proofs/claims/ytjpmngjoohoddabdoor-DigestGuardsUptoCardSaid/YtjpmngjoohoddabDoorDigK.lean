/-
  The reference's pairText.
-/
import Derived.Test.YtjpmngjoohoddabDoorDigS
import Derived.Test.YtjpmngjoohoddabDoorDigP
set_option linter.unusedVariables false
set_option linter.unusedSimpArgs false
set_option maxRecDepth 20000
namespace Go.Proofs.YtjpmngjoohoddabDoor
open Go Go.Ab

theorem pairText_ok (a b : List UInt8) (ha : isDig a = true) (hb : isDig b = true) : Calc cx 57 [.str a, .str b] (.str (pairT a b)) :=
  pure_intro (fun a w => Tryd.call57 a w) Tryd.func57 rfl Tryd.ntmps57 rfl .str fun B => by
    have h1 := hexE_dig ha
    have h2 := hexE_dig hb
    obtain ⟨d, hd⟩ : ∃ d, d = a ++ b := ⟨_, rfl⟩
    have hE : HexE d 64 := ⟨by rw [hd, List.length_append, h1.1, h2.1], fun c hc => by
      rw [hd] at hc
      rcases List.mem_append.1 hc with h | h
      · exact h1.2 c h
      · exact h2.2 c h⟩
    have hT : pairT a b = 1 :: unhex d := by rw [hd, unhex_app 32 a b h1.1]; rfl
    have hdl := hE.1
    refine go (M := [8]) 1000 rfl ⟨?_, trivial⟩ ?_
    · show ((a.length + b.length : Nat) : Int) ≤ 9223372036854775807; have := h1.1; have := h2.1; omega
    refine S_unfull (t := 5) rfl ⟨_, _, .inl rfl⟩ ?_
    refine S_while (α := Nat × Nat) (fun (i, u) => [(5, .ms 0 u 0 (i + 1) 1 false), (6, .str d), (7, .int .i64 (2 * i : Nat))]) (fun (i, u) => [bB u (1 :: unhex (d.take (2 * i))) ⟨false, some 5⟩]) (fun (i, u) => i ≤ 64) (fun (i, u) => 64 - i) (0, 0)
      (Nat.zero_le _) (.cons rfl (.cons (by rw [hd]; rfl) (.cons rfl (.nil _)))) rfl ?_
    rintro ⟨i, u⟩ hi
    have hi : i ≤ 64 := hi
    refine ab 1000 rfl trivial ?_
    have hw : IntKind.i64.wrap (((2 * i : Nat) : Int) + 1) = ((2 * i + 1 : Nat) : Int) := w64 (by omega) (by omega)
    refine S_dec rfl (fun hlt => ?_) (fun hlt => ?_)
    · have hik : i < 64 := by have : IntKind.i64.wrap (((2 * i : Nat) : Int) + 1) < ((d.length : Nat) : Int) := hlt; omega
      obtain ⟨x, y, e, hx, hy, gx, gy⟩ := hexE_two hE hik
      have vx := hexV_lt hx
      have vy := hexV_lt hy
      have hxo := hexOf_hexV hx
      have hyo := hexOf_hexV hy
      have hul : (unhex (d.take (2 * i))).length = i := unhex_len i _ (by rw [List.length_take]; omega)
      have hst := unhex_step hE hik
      rw [gx, gy] at hst
      have b1 : 0 ≤ ((2 * i : Nat) : Int) ∧ ((2 * i : Nat) : Int) < (d.length : Int) := by omega
      have b2 : 0 ≤ IntKind.i64.wrap (((2 * i : Nat) : Int) + 1) ∧ IntKind.i64.wrap (((2 * i : Nat) : Int) + 1) < (d.length : Int) := by rw [hw]; omega
      have g1 : (((d.getD ((2 * i : Nat) : Int).toNat 0).toNat : Nat) : Int) = ((x.toNat : Nat) : Int) := by rw [Int.toNat_natCast, gx]
      have g2 : (((d.getD (IntKind.i64.wrap (((2 * i : Nat) : Int) + 1)).toNat 0).toNat : Nat) : Int) = ((y.toNat : Nat) : Int) := by rw [hw, Int.toNat_natCast, gy]
      have e1 : IntKind.i64.wrap (16 * ((hexV x : Nat) : Int)) = ((16 * hexV x : Nat) : Int) := w64 (by omega) (by omega)
      have e2 : IntKind.i64.wrap (((16 * hexV x : Nat) : Int) + ((hexV y : Nat) : Int)) = ((16 * hexV x + hexV y : Nat) : Int) := w64 (by omega) (by omega)
      have hval : AV.int .u8 (IntKind.u8.wrap (IntKind.i64.wrap (IntKind.i64.wrap (16 * ((hexV x : Nat) : Int)) + ((hexV y : Nat) : Int)))) = byteAV (UInt8.ofNat (16 * hexV x + hexV y)) := by
        rw [e1, e2, wu8 rfl (by omega)]
        exact byteAV_of rfl (by omega)
      have hHx := HexOf_ok x.toNat x.toNat_lt
      have hHy := HexOf_ok y.toNat y.toNat_lt
      rw [hxo] at hHx
      rw [hyo] at hHy
      refine ab 1000 rfl trivial ?_
      refine S_draw 16 [] [.int .i64 (hexV x : Nat), .int .i64 (hexV y : Nat)] rfl rfl rfl rfl
        ⟨rfl, rfl, rfl, rfl, b1.1, b1.2, ⟨_, hHx, .cons (by show Frz false _ (.int .u8 (((d.getD ((2 * i : Nat) : Int).toNat 0).toNat : Nat) : Int)) _; rw [g1]; exact .refl .int) (.nil _)⟩, rfl, rfl, rfl, rfl, rfl, rfl, b2.1, b2.2, ⟨_, hHy, .cons (by show Frz false _ (.int .u8 (((d.getD (IntKind.i64.wrap (((2 * i : Nat) : Int) + 1)).toNat 0).toNat : Nat) : Int)) _; rw [g2]; exact .refl .int) (.nil _)⟩, rfl, rfl, rfl, rfl, trivial⟩ ?_
      refine ab 1000 rfl ⟨?_, ?_, ?_, rfl, rfl, ?_, ?_, rfl, trivial⟩ ?_
      · show i + 1 + 1 ≤ 9223372036854775807; omega
      · show (i + 1 + 1) * 1 ≤ 140737488355328; omega
      · show 0 + (i + 1) * 1 = ((1 :: unhex (d.take (2 * i))).map byteAV).length; rw [List.length_map, List.length_cons, hul]; omega
      · exact allOne_mem (cs := [.int .u8 _]) rfl
      · exact allOne_mem (cs := [.int .u8 _]) rfl
      refine S_round (i + 1, u + 1) (by show 64 - (i + 1) < 64 - i; omega) hik (.cons rfl (.cons rfl (.cons (ai64 (by omega) (by omega)) (.nil _)))) ?_
      show [(u + 1, some (Box.cells ((1 :: unhex (d.take (2 * i))).map byteAV ++ [AV.int .u8 (IntKind.u8.wrap (IntKind.i64.wrap (IntKind.i64.wrap (16 * ((hexV x : Nat) : Int)) + ((hexV y : Nat) : Int))))]) _))] = [bB (u + 1) (1 :: unhex (d.take (2 * (i + 1)))) _]
      rw [hval, hst]
      simp only [bB, List.map_append, List.map_cons, List.map_nil, List.cons_append]
      rfl
    · have hik : i = 64 := by have : ¬ IntKind.i64.wrap (((2 * i : Nat) : Int) + 1) < ((d.length : Nat) : Int) := hlt; omega
      subst hik
      have hdt : d.take (2 * 64) = d := List.take_of_length_le (by omega)
      rw [hdt, ← hT]
      have hpl := pairT_len h1 h2
      refine ab 1000 rfl ⟨?_, ?_, rfl, rfl, trivial⟩ ?_
      · intro x hx
        exact bytes_isByte _ x (List.mem_of_mem_drop (List.mem_of_mem_take hx))
      · show 0 + (64 + 1) ≤ ((pairT a b).map byteAV).length
        rw [List.length_map, hpl]; decide
      have hcv : ((((pairT a b).map byteAV).drop 0).take (64 + 1)).map Ab.byteOf = pairT a b := by
        rw [List.drop_zero, List.take_of_length_le (by rw [List.length_map, hpl]; decide), bytes_of]
      refine S_retc .str rfl trivial ?_
      exact congrArg AV.str hcv

end Go.Proofs.YtjpmngjoohoddabDoor
