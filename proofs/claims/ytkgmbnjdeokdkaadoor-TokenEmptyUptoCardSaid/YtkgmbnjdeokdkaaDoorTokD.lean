/-
  The reference's splitter: a byte at the place. (Under way.)
-/
import Derived.Test.YtkgmbnjdeokdkaaDoorTokC
set_option linter.unusedVariables false
set_option linter.unusedSimpArgs false
set_option maxRecDepth 20000
namespace Go.Proofs.YtkgmbnjdeokdkaaDoor
open Go Go.Ab

/-- The reference's box of the same. -/
def rsB (v : Nat) (s : List UInt8) (i o : Nat) (ins out : AV) : Nat × Option Box := (v, some (.cells [.str s, .int .i64 i, .int .i64 o, ins, out] ⟨false, some 44⟩))

theorem has_ok (v a b : Nat) (xa xb : Box) (s : List UInt8) (i o : Nat) (ins out : AV) (c : UInt8) (hs : s.length ≤ 1048576) :
    CallOk cx 22 [.ptr 0 v 0, .int .u8 (c.toNat : Nat)] [rsB v s i o ins out, (a, some xa), (b, some xb)] (fun r σ => r = .ret (.bool (s[i]? == some c)) ∧ σ = [rsB v s i o ins out, (a, some xa), (b, some xb)]) :=
  callOk_intro (fun a w => Tryd.call22 a w) Tryd.func22 rfl Tryd.ntmps22 rfl fun B => by
    refine ab 1000 rfl trivial ?_
    by_cases hlt : i < s.length
    · have c1 : (0 : Int) ≤ ((i : Nat) : Int) ∧ ((i : Nat) : Int) < ((s.length : Nat) : Int) := by omega
      have hgc : (((s.getD ((i : Nat) : Int).toNat 0).toNat : Nat) : Int) = ((s[i].toNat : Nat) : Int) := by rw [Int.toNat_natCast, getD_byte hlt]
      refine S_drawV 10 22 [15] [.bool true] rfl rfl rfl rfl ⟨rfl, rfl, rfl, rfl, rfl, rfl, rfl, rfl, rfl, rfl, rfl, rfl, rfl, congrArg AV.bool (decide_eq_true (by omega)), rfl, rfl, rfl, rfl, rfl, rfl, rfl, rfl, rfl, rfl, rfl, c1.1, c1.2, rfl, rfl, trivial⟩ ?_
      refine ab 1000 rfl trivial ?_
      refine S_ret ⟨_, _, rfl, trivial, ?_, rfl⟩
      show Out.ret (.bool ((((s.getD ((i : Nat) : Int).toNat 0).toNat : Nat) : Int) == ((c.toNat : Nat) : Int))) = _
      rw [hgc, List.getElem?_eq_getElem hlt]
      congr 2
      rw [Bool.eq_iff_iff, beq_iff_eq, beq_iff_eq, Option.some.injEq]
      exact ⟨fun h => UInt8.toNat_inj.1 (by omega), fun h => by rw [h]⟩
    · refine S_drawV 10 22 [15] [.bool false] rfl rfl rfl rfl ⟨rfl, rfl, rfl, rfl, rfl, rfl, rfl, rfl, rfl, rfl, rfl, rfl, rfl, congrArg AV.bool (decide_eq_false (by omega)), trivial⟩ ?_
      refine ab 1000 rfl trivial ?_
      refine S_ret ⟨_, _, rfl, trivial, ?_, rfl⟩
      rw [List.getElem?_eq_none (by omega)]; rfl

theorem gap_ok (v a b : Nat) (xa xb : Box) (s : List UInt8) (i o : Nat) (ins out : AV) (hi : i ≤ s.length) (hs : s.length ≤ 1048576) :
    CallOk cx 20 [.ptr 0 v 0] [rsB v s i o ins out, (a, some xa), (b, some xb)] (fun r σ => r = .ret (.int .i64 (gapE s i - i : Nat)) ∧ σ = [rsB v s (gapC s i) o ins out, (a, some xa), (b, some xb)]) :=
  callOk_intro (fun a w => Tryd.call20 a w) Tryd.func20 rfl Tryd.ntmps20 rfl fun B => by
    refine ab 1000 rfl ⟨rfl, trivial⟩ ?_
    refine S_while (α := Nat) (fun j => [(0, .ptr 0 v 0), (3, .int .i64 (i : Nat))]) (fun j => [rsB v s j o ins out, (a, some xa), (b, some xb)]) (fun j => i ≤ j ∧ j ≤ s.length ∧ gapE s j = gapE s i) (fun j => s.length - j) i
      ⟨Nat.le_refl _, hi, rfl⟩ (.cons rfl (.cons rfl (.nil _))) rfl ?_
    rintro j ⟨hij, hj, hN⟩
    have hj : j ≤ s.length := hj
    refine ab 1000 rfl trivial ?_
    refine S_calle rfl rfl rfl rfl (has_ok v a b xa xb s j o ins out 32 hs) (fun r σ' h => ?_) (fun r σ' h => by cases h.1)
    obtain ⟨h1, rfl⟩ := h
    obtain rfl := Out.ret.inj h1
    refine ab 1000 rfl trivial ?_
    refine S_cond rfl (fun hb => ?_) (fun hb => ?_)
    · have hb : s[j]? = some 32 := by simpa using hb
      have hlt : j < s.length := by
        rcases Nat.lt_or_ge j s.length with h | h
        · exact h
        · rw [List.getElem?_eq_none h] at hb; cases hb
      have hb : (s[j] == 32) = true := by rw [List.getElem?_eq_getElem hlt] at hb; simpa using hb
      refine ab 1000 rfl ⟨Nat.le_of_ble_eq_true rfl, rfl, rfl, trivial⟩ ?_
      refine S_round (j + 1) (by show s.length - (j + 1) < s.length - j; omega) ⟨by omega, hlt, by rw [← hN, gapE, gapE, stopAt_yes hlt hb]⟩ (.cons rfl (.cons rfl (.nil _))) ?_
      show [(v, some (Box.cells [.str s, .int .i64 (IntKind.i64.wrap (((j : Nat) : Int) + 1)), .int .i64 o, ins, out] _)), _, _] = _
      rw [show AV.int .i64 (IntKind.i64.wrap (((j : Nat) : Int) + 1)) = .int .i64 ((j + 1 : Nat) : Int) from ai64 rfl (by omega)]; rfl
    · have hb : s[j]? ≠ some 32 := by simpa using hb
      have hg : gapE s i = j := by
        rw [← hN, gapE]
        rcases Nat.lt_or_ge j s.length with h | h
        · exact stopAt_no h (by rw [List.getElem?_eq_getElem h] at hb; simpa using hb)
        · exact stopAt_end h
      have hgC : gapC s i = if s[j]? = some 35 then stopAt (fun c => !(c == 10)) s j else j := by rw [gapC, hg]
      rw [hg, hgC]
      have hw : AV.int .i64 (IntKind.i64.wrap (((j : Nat) : Int) - ((i : Nat) : Int))) = .int .i64 ((j - i : Nat) : Int) := ai64 (by omega) (by omega)
      refine ab 1000 rfl ⟨rfl, trivial⟩ ?_
      refine S_calle rfl rfl rfl rfl (has_ok v a b xa xb s j o ins out 35 hs) (fun r σ' h => ?_) (fun r σ' h => by cases h.1)
      obtain ⟨h1, rfl⟩ := h
      obtain rfl := Out.ret.inj h1
      refine ab 1000 rfl trivial ?_
      refine S_cond rfl (fun hd => ?_) (fun hd => ?_)
      · have hd : s[j]? = some 35 := by simpa using hd
        rw [if_pos hd]
        refine ab 1000 rfl trivial ?_
        refine S_while (α := Nat) (fun m => [(0, .ptr 0 v 0), (4, .int .i64 (j - i : Nat))]) (fun m => [rsB v s m o ins out, (a, some xa), (b, some xb)]) (fun m => m ≤ s.length ∧ stopAt (fun c => !(c == 10)) s m = stopAt (fun c => !(c == 10)) s j) (fun m => s.length - m) j
          ⟨hj, rfl⟩ (.cons rfl (.cons hw (.nil _))) rfl ?_
        rintro m ⟨hm, hM⟩
        have hm : m ≤ s.length := hm
        refine ab 1000 rfl trivial ?_
        by_cases hml : m < s.length
        · have c2 : (0 : Int) ≤ ((m : Nat) : Int) ∧ ((m : Nat) : Int) < ((s.length : Nat) : Int) := by omega
          have hgm : (((s.getD ((m : Nat) : Int).toNat 0).toNat : Nat) : Int) = ((s[m].toNat : Nat) : Int) := by rw [Int.toNat_natCast, getD_byte hml]
          refine S_drawV 10 21 [36] [.bool true] rfl rfl rfl rfl ⟨rfl, rfl, rfl, rfl, rfl, rfl, rfl, rfl, rfl, rfl, rfl, rfl, rfl, congrArg AV.bool (decide_eq_true (by omega)), rfl, rfl, rfl, rfl, rfl, rfl, rfl, rfl, rfl, rfl, rfl, c2.1, c2.2, rfl, trivial⟩ ?_
          refine ab 1000 rfl trivial ?_
          refine S_cond rfl (fun he => ?_) (fun he => ?_)
          · have he : (!(s[m] == 10)) = true := by
              have h : (!((((s.getD ((m : Nat) : Int).toNat 0).toNat : Nat) : Int) == 10)) = true := he
              rw [hgm] at h; exact (congrArg not (byte_eq s[m] 10 (by decide))).symm.trans h
            refine ab 1000 rfl ⟨Nat.le_of_ble_eq_true rfl, rfl, rfl, trivial⟩ ?_
            refine S_round (m + 1) (by show s.length - (m + 1) < s.length - m; omega) ⟨hml, by rw [← hM, stopAt_yes hml he]⟩ (.cons rfl (.cons rfl (.nil _))) ?_
            show [(v, some (Box.cells [.str s, .int .i64 (IntKind.i64.wrap (((m : Nat) : Int) + 1)), .int .i64 o, ins, out] _)), _, _] = _
            rw [show AV.int .i64 (IntKind.i64.wrap (((m : Nat) : Int) + 1)) = .int .i64 ((m + 1 : Nat) : Int) from ai64 rfl (by omega)]; rfl
          · have he : (!(s[m] == 10)) = false := by
              have h : (!((((s.getD ((m : Nat) : Int).toNat 0).toNat : Nat) : Int) == 10)) = false := he
              rw [hgm] at h; exact (congrArg not (byte_eq s[m] 10 (by decide))).symm.trans h
            rw [← hM, stopAt_no hml he]
            refine ab 1000 rfl trivial ?_
            exact S_ret ⟨_, _, rfl, trivial, rfl, rfl⟩
        · refine S_drawV 10 21 [36] [.bool false] rfl rfl rfl rfl ⟨rfl, rfl, rfl, rfl, rfl, rfl, rfl, rfl, rfl, rfl, rfl, rfl, rfl, congrArg AV.bool (decide_eq_false (by omega)), trivial⟩ ?_
          refine ab 1000 rfl trivial ?_
          refine S_cond (b := false) rfl (fun h => by cases h) (fun _ => ?_)
          rw [← hM, stopAt_end (by omega)]
          refine ab 1000 rfl trivial ?_
          exact S_ret ⟨_, _, rfl, trivial, rfl, rfl⟩
      · have hd : s[j]? ≠ some 35 := by simpa using hd
        rw [if_neg hd]
        refine ab 1000 rfl trivial ?_
        refine S_ret ⟨_, _, rfl, trivial, ?_, rfl⟩
        exact congrArg Out.ret hw

theorem rput_ok (v a u : Nat) (xa : Box) (s : List UInt8) (i o : Nat) (ins : AV) (l : List Tok) (k : Nat) (t : List UInt8) (p : Nat) (hl : l.length ≤ 1000000) :
    CallOk cx 24 [.ptr 0 v 0, .int .i64 k, .str t, .int .i64 p] [rsB v s i o ins (.ms 2 u 0 l.length 4 false), (a, some xa), outB u l]
      (fun r σ => r = .ret (.tup []) ∧ σ = [rsB v s i o ins (.ms 2 (u + 1) 0 (l.length + 1) 4 false), (a, some xa), outB (u + 1) (l ++ [⟨k, t, 0, p⟩])]) :=
  callOk_intro (fun a w => Tryd.call24 a w) Tryd.func24 rfl Tryd.ntmps24 rfl fun B => by
    have hL := tokC_len l
    have tk : tokC ⟨k, t, 0, p⟩ = [.int .i64 k, .str t, .int .i64 ((0 : Nat) : Int), .int .i64 p] := rfl
    refine ab 1000 rfl ⟨Nat.le_of_ble_eq_true rfl, rfl, ?_, ?_, ?_, rfl, rfl, allOne_mem (cs := [.int .i64 k, .str t, .int .i64 0, .int .i64 p]) rfl, allOne_mem (cs := [.int .i64 k, .str t, .int .i64 0, .int .i64 p]) rfl, rfl, rfl, trivial⟩ ?_
    · show l.length + 1 ≤ 9223372036854775807; omega
    · show (l.length + 1) * 40 ≤ 140737488355328; omega
    · show 0 + l.length * 4 = (l.flatMap tokC).length; omega
    refine S_nil ⟨_, _, rfl, trivial, rfl, ?_⟩
    show [rsB v s i o ins (.ms 2 (u + 1) 0 (l.length + 1) 4 false), (a, some xa), (u + 1, some (Box.cells (l.flatMap tokC ++ [.int .i64 k, .str t, .int .i64 0, .int .i64 p]) ⟨false, none⟩))] = _
    rw [outB, List.flatMap_append]
    rfl

end Go.Proofs.YtkgmbnjdeokdkaaDoor
