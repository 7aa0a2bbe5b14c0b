/-
  The sums of the log's entries: the table, and log.Check.
-/
import Derived.Test.YtjbgcbolakdhaaaLogA
set_option linter.unusedVariables false
set_option linter.unusedSimpArgs false
set_option maxRecDepth 20000
namespace Go.Proofs.Ytjbgcbolakdhaaa
open Go Go.Ab

def crcStep (c : Nat) : Nat := if c % 2 = 1 then (c / 2) ^^^ 3988292384 else c / 2

theorem crcStep_lt {c : Nat} (h : c < 4294967296) : crcStep c < 4294967296 := by
  unfold crcStep
  split
  · exact Nat.xor_lt_two_pow (n := 32) (by omega) (by decide)
  · omega

def rep (f : Nat → Nat) : Nat → Nat → Nat
  | 0, c => c
  | k + 1, c => rep f k (f c)

theorem rep_lt {f : Nat → Nat} {b : Nat} (hf : ∀ c, c < b → f c < b) : ∀ k c, c < b → rep f k c < b
  | 0, c, h => h
  | k + 1, c, h => rep_lt hf k _ (hf c h)

def crcTab (j : Nat) : Nat := rep crcStep 8 j

theorem crcTab_lt {j : Nat} (h : j < 4294967296) : crcTab j < 4294967296 := rep_lt (fun c h => crcStep_lt h) 8 j h

def u32s (n : Nat) (f : Nat → Nat) : List AV := (List.range n).map fun (j : Nat) => .int .u32 (f j)

/-- The table, when 'i' of its rows are written. -/
def tabAt (i : Nat) : List AV := u32s 256 fun j => if j < i then crcTab j else 0

theorem tabAt_length (i : Nat) : (tabAt i).length = 256 := by simp [tabAt, u32s]

theorem tabAt_free {i : Nat} : ∀ x ∈ tabAt i, Free true x := by
  intro x hx
  obtain ⟨j, _, rfl⟩ := List.mem_map.1 hx
  exact .int

theorem tabAt_set (i : Nat) (h : i < 256) : (tabAt i).set i (.int .u32 (crcTab i)) = tabAt (i + 1) := by
  apply List.ext_getElem
  · simp [tabAt_length]
  · intro j h1 h2
    simp only [List.length_set, tabAt_length] at h1
    rw [List.getElem_set]
    by_cases hj : i = j
    · subst hj; simp [tabAt, u32s]
    · rw [if_neg hj]
      simp only [tabAt, u32s, List.getElem_map, List.getElem_range]
      by_cases hlt : j < i
      · rw [if_pos hlt, if_pos (by omega)]
      · rw [if_neg hlt, if_neg (by omega)]

set_option maxRecDepth 20000 in
theorem shifts_ok : Calc cx 45 [] (.agg (tabAt 256)) :=
  pure_intro (fun a w => Try.call45 a w) Try.func45 rfl Try.ntmps45 rfl (.agg tabAt_free) fun B => by
    refine ab 1000 rfl trivial ?_
    refine S_while (α := Nat) (fun i => [(0, .ptr 0 0 0), (1, .ptr 1 0 0), (5, .int .i64 i)]) (fun i => [(0, some (.cells (tabAt 0) ⟨false, none⟩)), (0, some (.cells (tabAt i) ⟨false, none⟩))]) (fun i => i ≤ 256) (fun i => 256 - i) 0 (by decide) (.cons rfl (.cons rfl (.cons rfl (.nil _)))) rfl ?_
    intro i hi
    refine ab 1000 rfl trivial ?_
    refine S_dec rfl (fun h => ?_) (fun h => ?_)
    · have hi32 : i < 256 := by omega
      refine ab 1000 rfl trivial ?_
      refine S_while (α := Nat × Nat) (fun (j, c) => [(0, .ptr 0 0 0), (1, .ptr 1 0 0), (5, .int .i64 i), (2, .int .i64 i), (10, .int .i64 j), (3, .int .u32 c)]) (fun _ => [(0, some (.cells (tabAt 0) ⟨false, none⟩)), (0, some (.cells (tabAt i) ⟨false, none⟩))])
        (fun (j, c) => j ≤ 8 ∧ c < 4294967296 ∧ rep crcStep (8 - j) c = crcTab i) (fun (j, _) => 8 - j) (0, i) ⟨by decide, by omega, rfl⟩ (.cons rfl (.cons rfl (.cons rfl (.cons rfl (.cons rfl (.cons (au32 rfl (by omega)) (.nil _))))))) rfl ?_
      rintro ⟨j, c⟩ ⟨hj, hc, hr⟩
      refine ab 1000 rfl trivial ?_
      refine S_dec rfl (fun h => ?_) (fun h => ?_)
      · refine ab 1000 rfl ⟨by decide, trivial⟩ ?_
        have hand : bitsA .and .u32 (c : Int) 1 = ((c % 2 : Nat) : Int) := by
          rw [show (1 : Int) = ((1 : Nat) : Int) from rfl, bits_and rfl hc (by decide), Nat.and_one_is_mod]
        have hshr : (c : Int).fdiv (2 ^ 1) = ((c / 2 : Nat) : Int) := shr_nat c 1
        have hst : rep crcStep (8 - (j + 1)) (crcStep c) = crcTab i := by rw [← hr, show 8 - j = (8 - (j + 1)) + 1 by omega]; rfl
        refine S_beq rfl (fun hb => ?_) (fun hb => ?_)
        · rw [hand] at hb
          have hodd : crcStep c = (c / 2) ^^^ 3988292384 := if_pos (by omega)
          refine ab 1000 rfl trivial ?_
          refine S_round (j + 1, crcStep c) (by show 8 - (j + 1) < 8 - j; omega) ⟨by omega, crcStep_lt hc, hst⟩ (.cons rfl (.cons rfl (.cons rfl (.cons rfl (.cons (ai64 rfl (by omega)) (.cons ?_ (.nil _))))))) rfl
          show AV.int .u32 (bitsA .xor .u32 ((c : Int).fdiv (2 ^ 1)) 3988292384) = .int .u32 ((crcStep c : Nat) : Int)
          rw [hshr, hodd, show (3988292384 : Int) = ((3988292384 : Nat) : Int) from rfl, bits_xor rfl (by show c / 2 < 2 ^ 32; omega) (by decide)]
        · rw [hand] at hb
          have heven : crcStep c = c / 2 := if_neg (by omega)
          refine ab 1000 rfl trivial ?_
          refine S_round (j + 1, crcStep c) (by show 8 - (j + 1) < 8 - j; omega) ⟨by omega, crcStep_lt hc, hst⟩ (.cons rfl (.cons rfl (.cons rfl (.cons rfl (.cons (ai64 rfl (by omega)) (.cons ?_ (.nil _))))))) rfl
          show AV.int .u32 ((c : Int).fdiv (2 ^ 1)) = .int .u32 ((crcStep c : Nat) : Int)
          rw [hshr, heven]
      · have hj8 : j = 8 := by omega
        subst hj8
        refine ab 1000 rfl trivial ?_
        refine S_index .top rfl rfl rfl ⟨by omega, by omega, trivial⟩ ?_
        refine S_store rfl rfl rfl ⟨rfl, rfl, rfl, by rw [tabAt_length]; exact hi32, trivial⟩ ?_
        refine ab 1000 rfl trivial ?_
        refine S_round (i + 1) (by show 256 - (i + 1) < 256 - i; omega) hi32 (.cons rfl (.cons rfl (.cons (ai64 rfl (by omega)) (.nil _)))) ?_
        show [(0, some (Box.cells (tabAt 0) ⟨false, none⟩)), (0, some (.cells ((tabAt i).set i (.int .u32 c)) ⟨false, none⟩))] = [(0, some (.cells (tabAt 0) ⟨false, none⟩)), (0, some (.cells (tabAt (i + 1)) ⟨false, none⟩))]
        rw [← tabAt_set i hi32, ← hr]; rfl
    · have hi32 : i = 256 := by omega
      subst hi32
      refine ab 1000 rfl ⟨by rw [tabAt_length]; exact Nat.le_refl 256, rfl, rfl, trivial⟩ ?_
      refine S_ret ⟨_, _, rfl, ⟨rfl, trivial⟩, _, rfl, ?_⟩
      have key : ∀ σ, Frz true σ (.agg ((setRange (tabAt 0) 0 ((tabAt 256).take 256)).take 256)) (.agg (tabAt 256)) := by
        intro σ
        have h1 : (tabAt 256).take 256 = tabAt 256 := List.take_of_length_le (by rw [tabAt_length]; exact Nat.le_refl _)
        rw [h1, setRange_all (by rw [tabAt_length, tabAt_length]), h1]
        exact .refl (.agg tabAt_free)
      exact key _

/-- The sum of a text, as log.check makes it. -/
def crcOf (s : List UInt8) (c : Nat) : Nat := s.foldl (fun c b => crcTab ((c % 256) ^^^ b.toNat) ^^^ (c / 256)) c

theorem crcOne_lt {c : Nat} (h : c < 4294967296) (b : UInt8) : crcTab ((c % 256) ^^^ b.toNat) ^^^ (c / 256) < 4294967296 := by
  have hx : (c % 256) ^^^ b.toNat < 2 ^ 8 := Nat.xor_lt_two_pow (by omega) b.toNat_lt
  exact Nat.xor_lt_two_pow (n := 32) (crcTab_lt (by omega)) (by omega)

theorem crcOf_lt : ∀ (s : List UInt8) {c : Nat}, c < 4294967296 → crcOf s c < 4294967296
  | [], c, h => h
  | b :: s, c, h => crcOf_lt s (crcOne_lt h b)

set_option maxRecDepth 20000 in
theorem check_ok (s : List UInt8) (hs : s.length ≤ 9223372036854775807) : Calc cx 33 [.str s] (.int .u32 ((4294967295 - crcOf s 4294967295 : Nat) : Int)) :=
  pure_intro (fun a w => Try.call33 a w) Try.func33 rfl Try.ntmps33 rfl .int fun B => by
    refine ab 1000 rfl trivial ?_
    refine S_pure rfl rfl rfl shifts_ok (.nil _) ?_
    refine ab 1000 rfl ⟨Nat.le_refl 256, rfl, trivial⟩ ?_
    refine S_while (α := Nat × Nat) (fun (i, c) => [(3, .ptr 0 0 0), (4, .int .u32 c), (9, .sl true false 1 (s.map byteAV)), (10, .int .i64 ((s.map byteAV).length : Nat)), (11, .int .i64 i)]) (fun _ => [(0, some (.cells (tabAt 256) ⟨false, none⟩))])
      (fun (i, c) => i ≤ s.length ∧ c < 4294967296 ∧ crcOf (s.drop i) c = crcOf s 4294967295) (fun (i, _) => s.length - i) (0, 4294967295) ⟨by simp, by decide, by simp⟩ (.cons rfl (.cons rfl (.cons rfl (.cons rfl (.cons rfl (.nil _)))))) ?_ ?_
    · show [(0, some (Box.cells (setRange _ 0 (tabAt 256)) ⟨false, none⟩))] = [(0, some (.cells (tabAt 256) ⟨false, none⟩))]
      rw [setRange_all (by rw [tabAt_length]; rfl)]
    rintro ⟨i, c⟩ ⟨hi, hc, hN⟩
    refine ab 1000 rfl trivial ?_
    refine S_dec rfl (fun h => ?_) (fun h => ?_)
    · have hil : i < s.length := by simp at h; omega
      refine ab 1000 rfl trivial ?_
      refine S_index (byteAV s[i]) rfl rfl rfl ⟨rfl, by omega, by simp [List.getElem?_eq_getElem hil], trivial⟩ ?_
      refine ab 1000 rfl trivial ?_
      have hk : bitsA .xor .u8 (IntKind.u8.wrap (c : Int)) (s[i].toNat : Int) = (((c % 256) ^^^ s[i].toNat : Nat) : Int) := by
        rw [wrap_low rfl]; exact bits_xor rfl (by show c % 256 < 2 ^ 8; omega) s[i].toNat_lt
      have hkl : (c % 256) ^^^ s[i].toNat < 256 := Nat.xor_lt_two_pow (n := 8) (by omega) s[i].toNat_lt
      refine S_index .top rfl rfl rfl ⟨?_, ?_, trivial⟩ ?_
      · show (0 : Int) ≤ bitsA .xor .u8 (IntKind.u8.wrap (c : Int)) (s[i].toNat : Int); rw [hk]; omega
      · show bitsA .xor .u8 (IntKind.u8.wrap (c : Int)) (s[i].toNat : Int) < 256; rw [hk]; omega
      refine S_load (.int .u32 (crcTab ((c % 256) ^^^ s[i].toNat))) rfl rfl rfl ⟨rfl, ?_, trivial⟩ ?_
      · show ((tabAt 256).drop (bitsA .xor .u8 (IntKind.u8.wrap (c : Int)) (s[i].toNat : Int)).toNat)[0]? = _
        rw [hk, Int.toNat_natCast, List.getElem?_drop, Nat.add_zero, List.getElem?_eq_getElem (by rw [tabAt_length]; exact hkl)]
        simp only [tabAt, u32s, List.getElem_map, List.getElem_range, if_pos hkl]
      refine ab 1000 rfl ⟨by decide, trivial⟩ ?_
      refine S_round (i + 1, crcTab ((c % 256) ^^^ s[i].toNat) ^^^ (c / 256)) (by show s.length - (i + 1) < s.length - i; omega) ⟨hil, crcOne_lt hc _, ?_⟩ (.cons rfl (.cons ?_ (.cons rfl (.cons rfl (.cons (ai64 rfl (by omega)) (.nil _)))))) rfl
      · show crcOf (s.drop (i + 1)) _ = _
        rw [← hN, List.drop_eq_getElem_cons hil]; simp only [crcOf, List.foldl_cons]
      · show AV.int .u32 (bitsA .xor .u32 (crcTab ((c % 256) ^^^ s[i].toNat) : Nat) ((c : Int).fdiv (2 ^ 8))) = _
        rw [shr_nat, bits_xor rfl (crcTab_lt (by omega)) (by show c / 2 ^ 8 < 2 ^ 32; omega)]
    · have hil : i = s.length := by simp at h; omega
      subst hil
      refine ab 1000 rfl trivial ?_
      refine S_ret ⟨_, _, rfl, trivial, _, rfl, ?_⟩
      have hcs : crcOf s 4294967295 = c := by rw [← hN, List.drop_length]; rfl
      have key : ∀ σ, Frz true σ (.int .u32 (bitsA .xor .u32 4294967295 c)) (.int .u32 ((4294967295 - crcOf s 4294967295 : Nat) : Int)) := by
        intro σ
        rw [hcs, show (4294967295 : Int) = ((4294967295 : Nat) : Int) from rfl, bits_xor rfl (by decide) hc, xor_ones hc]
        exact .refl .int
      exact key _

end Go.Proofs.Ytjbgcbolakdhaaa
