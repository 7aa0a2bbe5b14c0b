/-
  Hex digits; the form of a digest.
-/
import Derived.Test.YtjpmngjoohoddabDoorBase
set_option linter.unusedVariables false
set_option linter.unusedSimpArgs false
set_option maxRecDepth 20000
namespace Go.Proofs.YtjpmngjoohoddabDoor
open Go Go.Ab

def hexB (c : UInt8) : Bool := (48 ≤ c.toNat && c.toNat ≤ 57) || (97 ≤ c.toNat && c.toNat ≤ 102)
def isDig (s : List UInt8) : Bool := s.all hexB && s.length == 64

theorem take_all {p : UInt8 → Bool} {s : List UInt8} {i : Nat} (h : i < s.length) (ha : (s.take i).all p = true) (hp : p s[i] = true) : (s.take (i + 1)).all p = true := by
  rw [List.take_succ_eq_append_getElem h, List.all_append, ha]
  simp [hp]

theorem all_false {p : UInt8 → Bool} {s : List UInt8} {i : Nat} (h : i < s.length) (hp : p s[i] = false) : s.all p = false := by
  rw [List.all_eq_false]
  exact ⟨s[i], List.getElem_mem h, by simp [hp]⟩

theorem HexDigit_ok (n : Nat) (hn : n < 16) : Calc cx 71 [.int .i64 n] (.str [("0123456789abcdef".toUTF8.data.toList).getD n 0]) :=
  pure_intro (fun a w => Tryd.call71 a w) Tryd.func71 rfl Tryd.ntmps71 rfl .str fun B => by
    have hw : IntKind.i64.wrap ((n : Int) + 1) = ((n + 1 : Nat) : Int) := w64 rfl (by omega)
    refine ab 1000 rfl ⟨?_, ?_, ?_, trivial⟩ ?_
    · rw [hw]; show ((n + 1 : Nat) : Int) ≤ 16; omega
    · rw [hw]; omega
    · omega
    refine S_retc .str rfl trivial ?_
    show AV.str (((_ : List UInt8).take (IntKind.i64.wrap ((n : Int) + 1)).toNat).drop ((n : Int).toNat)) = _
    rw [hw, Int.toNat_natCast, Int.toNat_natCast]
    have : ∀ m : Fin 16, ((("0123456789abcdef".toUTF8.data.toList).take (m.1 + 1)).drop m.1) = [("0123456789abcdef".toUTF8.data.toList).getD m.1 0] := by decide +kernel
    exact congrArg _ (this ⟨n, hn⟩)

theorem digestIs_ok (s : List UInt8) (hs : s.length ≤ 9223372036854775807) : Calc cx 23 [.str s] (.bool (isDig s)) :=
  pure_intro (fun a w => Tryd.call23 a w) Tryd.func23 rfl Tryd.ntmps23 rfl .bool fun B => by
    refine ab 1000 rfl trivial ?_
    refine S_while (α := Nat) (fun i => [(0, .str s), (6, .ptr 0 0 0)]) (fun i => [(0, some (.siter s i))]) (fun i => i ≤ s.length ∧ (s.take i).all hexB = true) (fun i => s.length - i) 0
      ⟨Nat.zero_le _, rfl⟩ (.cons rfl (.cons rfl (.nil _))) rfl ?_
    rintro i ⟨hi, hN⟩
    refine ab 1000 rfl trivial ?_
    refine S_next rfl rfl rfl rfl rfl (fun hil => ?_) (fun hge => ?_)
    · refine ab 1000 rfl trivial ?_
      refine S_cond rfl (fun _ => ?_) (fun h => by cases h)
      refine ab 1000 rfl trivial ?_
      have hno : ∀ (h : hexB s[i] = false), isDig s = false := fun h => by rw [isDig, all_false hil h]; rfl
      obtain ⟨r, wd, hrw, hhex, hwd⟩ : ∃ r wd, decL s i = (r, wd) ∧ (hexB s[i] = true ↔ (48 ≤ r ∧ r ≤ 57) ∨ (97 ≤ r ∧ r ≤ 102)) ∧ (hexB s[i] = true → wd = 1) := by
        by_cases hc : s[i].toNat < 128
        · exact ⟨_, _, decL_lt hil hc, by simp [hexB], fun _ => rfl⟩
        · have h1 := decL_ge hil (by omega)
          have h2 : ¬ hexB s[i] = true := by simp [hexB]; omega
          obtain ⟨q1, q2, hq⟩ : ∃ a b, decL s i = (a, b) := ⟨_, _, rfl⟩
          rw [hq] at h1
          have h1 : 128 ≤ q1 := h1
          exact ⟨q1, q2, hq, ⟨fun h => absurd h h2, fun h => by omega⟩, fun h => absurd h h2⟩
      rw [hrw]
      have no' : ¬ ((48 ≤ r ∧ r ≤ 57) ∨ (97 ≤ r ∧ r ≤ 102)) → isDig s = false := fun h => hno (by
        cases hb : hexB s[i] with
        | false => rfl
        | true => exact absurd (hhex.1 hb) h)
      refine S_guard rfl rfl rfl rfl (fun h1 => ?_) (fun h1 => ?_)
      · have h1 : r < 48 := by have := of_decide_eq_true h1; omega
        refine ab 1000 rfl trivial ?_
        refine S_guard rfl rfl rfl rfl (fun _ => ?_) (fun h => by cases h)
        refine ab 1000 rfl trivial ?_
        refine S_guard rfl rfl rfl rfl (fun _ => ?_) (fun h => ?_)
        · refine ab 1000 rfl trivial ?_
          refine S_cond rfl (fun _ => ?_) (fun h => by cases h)
          refine ab 1000 rfl trivial ?_
          refine S_retc .bool rfl trivial ?_
          rw [no' (by omega)]; rfl
        · have := of_decide_eq_false h; omega
      · have h1 : 48 ≤ r := by have := of_decide_eq_false h1; omega
        refine ab 1000 rfl trivial ?_
        refine S_guard rfl rfl rfl rfl (fun h2 => ?_) (fun h2 => ?_)
        · have h2 : 57 < r := by have := of_decide_eq_true h2; omega
          refine ab 1000 rfl trivial ?_
          refine S_guard rfl rfl rfl rfl (fun h3 => ?_) (fun h3 => ?_)
          · have h3 : r < 97 := by have := of_decide_eq_true h3; omega
            refine ab 1000 rfl trivial ?_
            refine S_cond rfl (fun _ => ?_) (fun h => by cases h)
            refine ab 1000 rfl trivial ?_
            refine S_retc .bool rfl trivial ?_
            rw [no' (by omega)]; rfl
          · have h3 : 97 ≤ r := by have := of_decide_eq_false h3; omega
            refine ab 1000 rfl trivial ?_
            refine S_dec rfl (fun h4 => ?_) (fun h4 => ?_)
            · refine ab 1000 rfl trivial ?_
              refine S_retc .bool rfl trivial ?_
              rw [no' (by omega)]; rfl
            · have hb := hhex.2 (.inr ⟨h3, by omega⟩)
              have := hwd hb
              subst this
              refine ab 1000 rfl trivial ?_
              exact S_round (i + 1) (by show s.length - (i + 1) < s.length - i; omega) ⟨hil, take_all hil hN hb⟩ (.cons rfl (.cons rfl (.nil _))) rfl
        · have h2 : r ≤ 57 := by have := of_decide_eq_false h2; omega
          have hb := hhex.2 (.inl ⟨h1, h2⟩)
          have := hwd hb
          subst this
          refine ab 1000 rfl trivial ?_
          refine S_cond rfl (fun h => by cases h) (fun _ => ?_)
          refine ab 1000 rfl trivial ?_
          exact S_round (i + 1) (by show s.length - (i + 1) < s.length - i; omega) ⟨hil, take_all hil hN hb⟩ (.cons rfl (.cons rfl (.nil _))) rfl
    · have hil : i = s.length := by omega
      refine ab 1000 rfl trivial ?_
      refine S_cond rfl (fun h => by cases h) (fun _ => ?_)
      refine ab 1000 rfl trivial ?_
      refine S_retc .bool rfl trivial ?_
      rw [hil, List.take_length] at hN
      rw [isDig, hN]
      show AV.bool (((s.length : Nat) : Int) == 64) = _
      by_cases h : s.length = 64
      · simp [h]
      · have h1 : ((s.length : Nat) : Int) ≠ 64 := by omega
        rw [beq_eq_false_iff_ne.2 h, beq_eq_false_iff_ne.2 h1]; rfl

end Go.Proofs.YtjpmngjoohoddabDoor
