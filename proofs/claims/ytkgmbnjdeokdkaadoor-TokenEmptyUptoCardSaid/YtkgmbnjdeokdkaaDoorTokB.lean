/-
  The splitter: blanks and what is left out. (Under way.)
-/
import Derived.Test.YtkgmbnjdeokdkaaDoorTokA
import Derived.Test.YtkgmbnjdeokdkaaDoorAbThree
set_option linter.unusedVariables false
set_option linter.unusedSimpArgs false
set_option maxRecDepth 20000
namespace Go.Proofs.YtkgmbnjdeokdkaaDoor
open Go Go.Ab

theorem byte_eq (c : UInt8) (n : Nat) (h : n < 256) : (((c.toNat : Nat) : Int) == (n : Int)) = (c == UInt8.ofNat n) := by
  rw [Bool.eq_iff_iff, beq_iff_eq, beq_iff_eq]
  refine ⟨fun h1 => UInt8.toNat_inj.1 ?_, fun h1 => ?_⟩
  · rw [UInt8.toNat_ofNat']; omega
  · rw [h1, UInt8.toNat_ofNat']; omega

theorem getD_byte {s : List UInt8} {j : Nat} (h : j < s.length) : s.getD j 0 = s[j] := by simp [List.getD, h]

/-- The splitter's box: the source, the place, the open brackets, how far in, what came. -/
def spB (v : Nat) (s : List UInt8) (i o : Nat) (ins out : AV) : Nat × Option Box := (v, some (.cells [.str s, .int .i64 i, .int .i64 o, ins, out] ⟨false, some 41⟩))

theorem skip_ok (v a b : Nat) (xa xb : Box) (s : List UInt8) (i o : Nat) (ins out : AV) (hi : i ≤ s.length) (hs : s.length ≤ 1048576) :
    CallOk cx 16 [.ptr 0 v 0] [spB v s i o ins out, (a, some xa), (b, some xb)] (fun r σ => r = .ret (.tup []) ∧ σ = [spB v s (gapC s i) o ins out, (a, some xa), (b, some xb)]) :=
  callOk_intro (fun a w => Tryd.call16 a w) Tryd.func16 rfl Tryd.ntmps16 rfl fun B => by
    refine ab 1000 rfl trivial ?_
    refine S_while (α := Nat) (fun j => [(0, .ptr 0 v 0)]) (fun j => [spB v s j o ins out, (a, some xa), (b, some xb)]) (fun j => j ≤ s.length ∧ gapE s j = gapE s i) (fun j => s.length - j) i
      ⟨hi, rfl⟩ (.cons rfl (.nil _)) rfl ?_
    rintro j ⟨hj, hN⟩
    have hj : j ≤ s.length := hj
    refine ab 1000 rfl trivial ?_
    by_cases hlt : j < s.length
    · have c1 : (0 : Int) ≤ ((j : Nat) : Int) ∧ ((j : Nat) : Int) < ((s.length : Nat) : Int) := by omega
      refine S_drawV 10 21 [12] [.bool true] rfl rfl rfl rfl ⟨rfl, rfl, rfl, rfl, rfl, rfl, rfl, rfl, rfl, rfl, rfl, rfl, rfl, congrArg AV.bool (decide_eq_true (by omega)), rfl, rfl, rfl, rfl, rfl, rfl, rfl, rfl, rfl, rfl, rfl, c1.1, c1.2, rfl, trivial⟩ ?_
      refine ab 1000 rfl trivial ?_
      have hgc : (((s.getD ((j : Nat) : Int).toNat 0).toNat : Nat) : Int) = ((s[j].toNat : Nat) : Int) := by rw [Int.toNat_natCast, getD_byte hlt]
      refine S_cond rfl (fun hb => ?_) (fun hb => ?_)
      · have hb : (s[j] == 32) = true := by
          have h : ((((s.getD ((j : Nat) : Int).toNat 0).toNat : Nat) : Int) == 32) = true := hb
          rw [hgc] at h; exact (byte_eq s[j] 32 (by decide)).symm.trans h
        refine ab 1000 rfl ⟨Nat.le_of_ble_eq_true rfl, rfl, rfl, trivial⟩ ?_
        refine S_round (j + 1) (by show s.length - (j + 1) < s.length - j; omega) ⟨hlt, by rw [← hN, gapE, gapE, stopAt_yes hlt hb]⟩ (.cons rfl (.nil _)) ?_
        show [(v, some (Box.cells [.str s, .int .i64 (IntKind.i64.wrap (((j : Nat) : Int) + 1)), .int .i64 o, ins, out] _)), _, _] = _
        rw [show AV.int .i64 (IntKind.i64.wrap (((j : Nat) : Int) + 1)) = .int .i64 ((j + 1 : Nat) : Int) from ai64 rfl (by omega)]; rfl
      · have hb : (s[j] == 32) = false := by
          have h : ((((s.getD ((j : Nat) : Int).toNat 0).toNat : Nat) : Int) == 32) = false := hb
          rw [hgc] at h; exact (byte_eq s[j] 32 (by decide)).symm.trans h
        have hg : gapE s i = j := by rw [← hN, gapE, stopAt_no hlt hb]
        have hgC : gapC s i = if s[j] = 35 then stopAt (fun c => !(c == 10)) s j else j := by
          rw [gapC, hg, List.getElem?_eq_getElem hlt]; simp only [Option.some.injEq]
        rw [hgC]
        refine ab 1000 rfl trivial ?_
        refine S_drawV 10 21 [41] [.bool true] rfl rfl rfl rfl ⟨rfl, rfl, rfl, rfl, rfl, rfl, rfl, rfl, rfl, rfl, rfl, rfl, rfl, congrArg AV.bool (decide_eq_true (by omega)), rfl, rfl, rfl, rfl, rfl, rfl, rfl, rfl, rfl, rfl, rfl, c1.1, c1.2, rfl, trivial⟩ ?_
        refine ab 1000 rfl trivial ?_
        refine S_cond rfl (fun hd => ?_) (fun hd => ?_)
        · have hd : (s[j] == 35) = true := by
            have h : ((((s.getD ((j : Nat) : Int).toNat 0).toNat : Nat) : Int) == 35) = true := hd
            rw [hgc] at h; exact (byte_eq s[j] 35 (by decide)).symm.trans h
          rw [if_pos (by simpa using hd)]
          refine ab 1000 rfl trivial ?_
          refine S_while (α := Nat) (fun m => [(0, .ptr 0 v 0)]) (fun m => [spB v s m o ins out, (a, some xa), (b, some xb)]) (fun m => m ≤ s.length ∧ stopAt (fun c => !(c == 10)) s m = stopAt (fun c => !(c == 10)) s j) (fun m => s.length - m) j
            ⟨hj, rfl⟩ (.cons rfl (.nil _)) rfl ?_
          rintro m ⟨hm, hM⟩
          have hm : m ≤ s.length := hm
          refine ab 1000 rfl trivial ?_
          by_cases hml : m < s.length
          · have c2 : (0 : Int) ≤ ((m : Nat) : Int) ∧ ((m : Nat) : Int) < ((s.length : Nat) : Int) := by omega
            have hgm : (((s.getD ((m : Nat) : Int).toNat 0).toNat : Nat) : Int) = ((s[m].toNat : Nat) : Int) := by rw [Int.toNat_natCast, getD_byte hml]
            refine S_drawV 10 21 [63] [.bool true] rfl rfl rfl rfl ⟨rfl, rfl, rfl, rfl, rfl, rfl, rfl, rfl, rfl, rfl, rfl, rfl, rfl, congrArg AV.bool (decide_eq_true (by omega)), rfl, rfl, rfl, rfl, rfl, rfl, rfl, rfl, rfl, rfl, rfl, c2.1, c2.2, rfl, trivial⟩ ?_
            refine ab 1000 rfl trivial ?_
            refine S_cond rfl (fun he => ?_) (fun he => ?_)
            · have he : (!(s[m] == 10)) = true := by
                have h : (!((((s.getD ((m : Nat) : Int).toNat 0).toNat : Nat) : Int) == 10)) = true := he
                rw [hgm] at h; exact (congrArg not (byte_eq s[m] 10 (by decide))).symm.trans h
              refine ab 1000 rfl ⟨Nat.le_of_ble_eq_true rfl, rfl, rfl, trivial⟩ ?_
              refine S_round (m + 1) (by show s.length - (m + 1) < s.length - m; omega) ⟨hml, by rw [← hM, stopAt_yes hml he]⟩ (.cons rfl (.nil _)) ?_
              show [(v, some (Box.cells [.str s, .int .i64 (IntKind.i64.wrap (((m : Nat) : Int) + 1)), .int .i64 o, ins, out] _)), _, _] = _
              rw [show AV.int .i64 (IntKind.i64.wrap (((m : Nat) : Int) + 1)) = .int .i64 ((m + 1 : Nat) : Int) from ai64 rfl (by omega)]; rfl
            · have he : (!(s[m] == 10)) = false := by
                have h : (!((((s.getD ((m : Nat) : Int).toNat 0).toNat : Nat) : Int) == 10)) = false := he
                rw [hgm] at h; exact (congrArg not (byte_eq s[m] 10 (by decide))).symm.trans h
              rw [← hM, stopAt_no hml he]
              refine ab 1000 rfl trivial ?_
              exact S_nil ⟨_, _, rfl, trivial, rfl, rfl⟩
          · refine S_drawV 10 21 [63] [.bool false] rfl rfl rfl rfl ⟨rfl, rfl, rfl, rfl, rfl, rfl, rfl, rfl, rfl, rfl, rfl, rfl, rfl, congrArg AV.bool (decide_eq_false (by omega)), trivial⟩ ?_
            refine ab 1000 rfl trivial ?_
            refine S_cond (b := false) rfl (fun h => by cases h) (fun _ => ?_)
            rw [← hM, stopAt_end (by omega)]
            refine ab 1000 rfl trivial ?_
            exact S_nil ⟨_, _, rfl, trivial, rfl, rfl⟩
        · have hd : (s[j] == 35) = false := by
            have h : ((((s.getD ((j : Nat) : Int).toNat 0).toNat : Nat) : Int) == 35) = false := hd
            rw [hgc] at h; exact (byte_eq s[j] 35 (by decide)).symm.trans h
          rw [if_neg (by simpa using hd)]
          refine ab 1000 rfl trivial ?_
          exact S_nil ⟨_, _, rfl, trivial, rfl, rfl⟩
    · have hg : gapE s i = j := by rw [← hN, gapE, stopAt_end (by omega)]
      have hgC : gapC s i = j := by rw [gapC, hg, List.getElem?_eq_none (by omega)]; rfl
      rw [hgC]
      refine S_drawV 10 21 [12] [.bool false] rfl rfl rfl rfl ⟨rfl, rfl, rfl, rfl, rfl, rfl, rfl, rfl, rfl, rfl, rfl, rfl, rfl, congrArg AV.bool (decide_eq_false (by omega)), trivial⟩ ?_
      refine ab 1000 rfl trivial ?_
      refine S_cond (b := false) rfl (fun h => by cases h) (fun _ => ?_)
      refine ab 1000 rfl trivial ?_
      refine S_drawV 10 21 [41] [.bool false] rfl rfl rfl rfl ⟨rfl, rfl, rfl, rfl, rfl, rfl, rfl, rfl, rfl, rfl, rfl, rfl, rfl, congrArg AV.bool (decide_eq_false (by omega)), trivial⟩ ?_
      refine ab 1000 rfl trivial ?_
      refine S_cond (b := false) rfl (fun h => by cases h) (fun _ => ?_)
      refine ab 1000 rfl trivial ?_
      exact S_nil ⟨_, _, rfl, trivial, rfl, rfl⟩

end Go.Proofs.YtkgmbnjdeokdkaaDoor
