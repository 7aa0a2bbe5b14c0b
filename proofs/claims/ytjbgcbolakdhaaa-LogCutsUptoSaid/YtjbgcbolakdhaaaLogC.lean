/-
  Entries of the log: made, appended, read.
-/
import Derived.Test.YtjbgcbolakdhaaaLogB
import Derived.Test.YtjbgcbolakdhaaaWireB
set_option linter.unusedVariables false
set_option linter.unusedSimpArgs false
set_option maxRecDepth 20000
namespace Go.Proofs.Ytjbgcbolakdhaaa
open Go Go.Ab

def le4 (c : Nat) : List UInt8 := [UInt8.ofNat (c % 256), UInt8.ofNat (c / 256 % 256), UInt8.ofNat (c / 65536 % 256), UInt8.ofNat (c / 16777216 % 256)]

/-- The sum of a text. -/
def sumOf (s : List UInt8) : Nat := 4294967295 - crcOf s 4294967295

theorem sumOf_lt (s : List UInt8) : sumOf s < 4294967296 := by unfold sumOf; omega

/-- A text's entry. -/
def entryOf (s : List UInt8) : List UInt8 := 76 :: packN 9 s.length ++ s ++ le4 (sumOf s)

theorem bytes4 {a b c d : AV} (ha : isByte a) (hb : isByte b) (hc : isByte c) (hd : isByte d) : ∀ y ∈ [a, b, c, d], isByte y := by
  intro y hy
  simp at hy
  rcases hy with rfl | rfl | rfl | rfl <;> assumption

theorem entry_ok (s : List UInt8) (hs : s.length ≤ 9007199254740991) : Calc cx 35 [.str s] (.str (entryOf s)) :=
  pure_intro (fun a w => Try.call35 a w) Try.func35 rfl Try.ntmps35 rfl .str fun B => by
    refine ab 1000 rfl trivial ?_
    refine S_pure rfl rfl rfl (Number_ok s.length hs) (.cons (.refl .int) (.nil _)) ?_
    refine ab 1000 rfl trivial ?_
    refine S_pure rfl rfl rfl (check_ok s (by omega)) (.cons (.refl .str) (.nil _)) ?_
    have hl := packN_len 9 s.length
    refine ab 1000 rfl ⟨?_, ?_, rfl, by decide, by decide, by decide, ?_, ?_, trivial⟩ ?_
    · show (((([76] ++ packN 9 s.length ++ s : List UInt8)).length + 4 : Nat) : Int) ≤ 9223372036854775807
      simp; omega
    · exact fun x hx => bytes4 (a := .int .u8 _) (b := .int .u8 _) (c := .int .u8 _) (d := .int .u8 _) trivial trivial trivial trivial x hx
    · show (((([76] ++ packN 9 s.length : List UInt8)).length + s.length : Nat) : Int) ≤ 9223372036854775807
      simp; omega
    · show ((1 + (packN 9 s.length).length : Nat) : Int) ≤ 9223372036854775807
      omega
    refine S_retc .str rfl trivial ?_
    have e : entryOf s = ([76] ++ packN 9 s.length ++ s) ++ [UInt8.ofNat (IntKind.u8.wrap ((sumOf s : Nat) : Int)).toNat, UInt8.ofNat (IntKind.u8.wrap (((sumOf s : Nat) : Int).fdiv (2 ^ 8))).toNat, UInt8.ofNat (IntKind.u8.wrap (((sumOf s : Nat) : Int).fdiv (2 ^ 16))).toNat,
        UInt8.ofNat (IntKind.u8.wrap (((sumOf s : Nat) : Int).fdiv (2 ^ 24))).toNat] := by
      rw [shr_nat, shr_nat, shr_nat, wrap_low rfl, wrap_low rfl, wrap_low rfl, wrap_low rfl]
      simp only [Int.toNat_natCast]
      rfl
    rw [e]; rfl

def entAV (o : Option (List UInt8 × List UInt8)) : AV := match o with
  | some (t, r) => .tup [.str t, .str r, .bool true]
  | none => .top

theorem Append_ok (l s : List UInt8) (hs : s.length ≤ 100000) (hl : l.length ≤ 9223372036854000000) : Calc cx 16 [.str l, .str s] (.tup [.str (l ++ entryOf s), .int .i64 0]) :=
  pure_intro (fun a w => Try.call16 a w) Try.func16 rfl Try.ntmps16 rfl (.tup (by intro x hx; simp at hx; rcases hx with rfl | rfl; exact .str; exact .int)) fun B => by
    refine ab 1000 rfl trivial ?_
    refine S_dec rfl (fun h => ?_) (fun h => ?_)
    · omega
    refine ab 1000 rfl trivial ?_
    refine S_pure rfl rfl rfl (entry_ok s (by omega)) (.cons (.refl .str) (.nil _)) ?_
    refine ab 1000 rfl ⟨?_, trivial⟩ ?_
    · have := packN_len 9 s.length
      show ((l.length + (entryOf s).length : Nat) : Int) ≤ 9223372036854775807
      simp [entryOf, le4]; omega
    exact S_retc (.tup (by intro x hx; simp at hx; rcases hx with rfl | rfl; exact .str; exact .int)) rfl trivial rfl

end Go.Proofs.Ytjbgcbolakdhaaa
