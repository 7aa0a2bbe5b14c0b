/-
  The reference's entry; comparing a text and an error; the law LogAppends.
-/
import Derived.Test.YtjbgcbolakdhaaaLogG
import Derived.Test.YtjbgcbolakdhaaaRefI
import Derived.Test.YtjbgcbolakdhaaaWireT
set_option linter.unusedVariables false
set_option linter.unusedSimpArgs false
set_option maxRecDepth 20000
namespace Go.Proofs.Ytjbgcbolakdhaaa
open Go Go.Ab

theorem EntryOf_ok (s : List UInt8) (hs : s.length ≤ 9007199254740991) : Calc cx 20 [.str s] (.str (entryOf s)) :=
  pure_intro (fun a w => Try.call20 a w) Try.func20 rfl Try.ntmps20 rfl .str fun B => by
    refine ab 1000 rfl trivial ?_
    refine S_pure rfl rfl rfl (CheckOf_ok s (by omega)) (.cons (.refl .str) (.nil _)) ?_
    rw [← crcOf_ref, show 4294967295 - crcOf s 4294967295 = sumOf s from rfl]
    have hlt := sumOf_lt s
    have hl := packN_len 9 s.length
    refine ab 1000 rfl trivial ?_
    refine S_draw 21 [] [.str (packN 9 s.length ++ s)] rfl rfl rfl rfl ⟨rfl, ⟨_, PackText_ok s hs, .cons (.refl .str) (.nil _)⟩, rfl, ?_, rfl, rfl, by decide, rfl, rfl, rfl, by decide, rfl, by decide, rfl, rfl, rfl, by decide, rfl, by decide, rfl, rfl, rfl, by decide, rfl, rfl, rfl, rfl,
      fun x hx => bytes4 (a := .int .u8 _) (b := .int .u8 _) (c := .int .u8 _) (d := .int .u8 _) trivial trivial trivial trivial x hx, rfl, ?_, rfl, trivial⟩ ?_
    · show ((1 + (packN 9 s.length ++ s).length : Nat) : Int) ≤ 9223372036854775807
      rw [List.length_append]; omega
    · show ((([76] ++ (packN 9 s.length ++ s) : List UInt8).length + 4 : Nat) : Int) ≤ 9223372036854775807
      simp; omega
    refine ab 1000 rfl trivial ?_
    refine S_retc .str rfl trivial ?_
    have e : entryOf s = ([76] ++ (packN 9 s.length ++ s)) ++ [UInt8.ofNat (IntKind.u8.wrap (((sumOf s % 256 : Nat) : Int))).toNat, UInt8.ofNat (IntKind.u8.wrap ((IntKind.i64.wrap ((sumOf s / 256 : Nat) : Int)).tmod 256)).toNat,
        UInt8.ofNat (IntKind.u8.wrap ((IntKind.i64.wrap ((sumOf s / 65536 : Nat) : Int)).tmod 256)).toNat, UInt8.ofNat (IntKind.u8.wrap (IntKind.i64.wrap ((sumOf s / 16777216 : Nat) : Int))).toNat] := by
      rw [w64 (k := sumOf s / 256) rfl (by omega), w64 (k := sumOf s / 65536) rfl (by omega), w64 (k := sumOf s / 16777216) rfl (by omega)]
      rw [show (((sumOf s / 256 : Nat) : Int).tmod 256) = ((sumOf s / 256 % 256 : Nat) : Int) from rfl, show (((sumOf s / 65536 : Nat) : Int).tmod 256) = ((sumOf s / 65536 % 256 : Nat) : Int) from rfl]
      rw [wu8 rfl (by omega), wu8 rfl (by omega), wu8 rfl (by omega), wu8 rfl (by omega)]
      unfold entryOf le4
      rw [Nat.mod_eq_of_lt (show sumOf s / 16777216 < 256 by omega)]
      show _ = [76] ++ (packN 9 s.length ++ s) ++ [UInt8.ofNat (sumOf s % 256), UInt8.ofNat (sumOf s / 256 % 256), UInt8.ofNat (sumOf s / 65536 % 256), UInt8.ofNat (sumOf s / 16777216)]
      rw [List.cons_append, List.cons_append, List.singleton_append, List.cons_append, List.append_assoc]
    rw [e]; rfl

theorem Append_any (l s : List UInt8) (hl : l.length ≤ 9223372036854000000) : Calc cx 16 [.str l, .str s] (.tup [.str (if 100000 < s.length then [] else l ++ entryOf s), .int .i64 (if 100000 < s.length then (2 : Nat) else (0 : Nat))]) := by
  by_cases h : 100000 < s.length
  · rw [if_pos h, if_pos h]
    refine pure_intro (fun a w => Try.call16 a w) Try.func16 rfl Try.ntmps16 rfl (.tup (by intro x hx; simp at hx; rcases hx with rfl | rfl; exact .str; exact .int)) fun B => ?_
    refine ab 1000 rfl trivial ?_
    refine S_dec rfl (fun _ => ?_) (fun h' => ?_)
    · refine ab 1000 rfl trivial ?_
      exact S_retc (.tup (by intro x hx; simp at hx; rcases hx with rfl | rfl; exact .str; exact .int)) rfl trivial rfl
    · omega
  · rw [if_neg h, if_neg h]
    exact Append_ok l s (by omega) hl

theorem LogAppends_ok (l s : List UInt8) (hl : l.length ≤ 4398046511104) (hs : s.length ≤ 4398046511104) : Calc cx 6 [.str l, .str s] (.bool true) :=
  pure_intro (fun a w => Try.call6 a w) Try.func6 rfl Try.ntmps6 rfl .bool fun B => by
    refine ab 1000 rfl trivial ?_
    refine S_pure rfl rfl rfl (Append_any l s (by omega)) (.cons (.refl .str) (.cons (.refl .str) (.nil _))) ?_
    refine ab 1000 rfl trivial ?_
    refine S_dec rfl (fun h => ?_) (fun h => ?_)
    · have h : 100000 < s.length := by omega
      rw [if_pos h, if_pos h]
      refine ab 1000 rfl trivial ?_
      refine S_pure rfl rfl rfl logBegun_ok (.nil _) ?_
      refine ab 1000 rfl trivial ?_
      refine S_guard rfl rfl rfl rfl (fun _ => ?_) (fun h => absurd h (by decide))
      refine ab 1000 rfl trivial ?_
      refine S_pure rfl rfl rfl (textIs_ok [] [] 2 2) (.cons (.refl .str) (.cons (.refl .int) (.cons (.refl .int) (.cons (.refl .str) (.nil _))))) ?_
      refine ab 1000 rfl trivial ?_
      exact S_retc .bool rfl trivial rfl
    · have h : ¬ 100000 < s.length := by omega
      rw [if_neg h, if_neg h]
      refine ab 1000 rfl trivial ?_
      refine S_pure rfl rfl rfl (EntryOf_ok s (by omega)) (.cons (.refl .str) (.nil _)) ?_
      have he : (entryOf s).length ≤ s.length + 20 := by
        have := packN_len 9 s.length
        simp [entryOf, le4]; omega
      refine ab 1000 rfl ⟨by omega, trivial⟩ ?_
      refine S_pure rfl rfl rfl logBegun_ok (.nil _) ?_
      refine ab 1000 rfl trivial ?_
      refine S_guard rfl rfl rfl rfl (fun _ => ?_) (fun h => absurd h (by decide))
      refine ab 1000 rfl trivial ?_
      refine S_pure rfl rfl rfl (textIs_ok (l ++ entryOf s) (l ++ entryOf s) 0 0) (.cons (.refl .str) (.cons (.refl .int) (.cons (.refl .int) (.cons (.refl .str) (.nil _))))) ?_
      refine ab 1000 rfl trivial ?_
      refine S_retc .bool rfl trivial ?_
      simp; rfl

end Go.Proofs.Ytjbgcbolakdhaaa
