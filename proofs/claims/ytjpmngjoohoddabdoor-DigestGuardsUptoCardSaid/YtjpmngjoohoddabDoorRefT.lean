/-
  Lists of texts: the reference's comparison.
-/
import Derived.Test.YtjpmngjoohoddabDoorBase
set_option linter.unusedVariables false
set_option linter.unusedSimpArgs false
set_option maxRecDepth 20000
namespace Go.Proofs.YtjpmngjoohoddabDoor
open Go Go.Ab

def texts (l : List (List UInt8)) : List AV := l.map .str

theorem texts_free (l : List (List UInt8)) : ∀ x ∈ texts l, Free true x := by
  intro x hx
  obtain ⟨y, _, rfl⟩ := List.mem_map.1 hx
  exact .str

theorem texts_one (l : List (List UInt8)) : ∀ x ∈ texts l, x.one = true := by
  intro x hx
  obtain ⟨y, _, rfl⟩ := List.mem_map.1 hx
  rfl

theorem texts_any {st : Bool} (l : List (List UInt8)) : ∀ x ∈ texts l, Free st x := by
  intro x hx
  obtain ⟨y, _, rfl⟩ := List.mem_map.1 hx
  exact .str

theorem ans_free (s : List UInt8) (n : Int) : Free true (.tup [.str s, .int .i64 n]) := .tup (by intro x hx; simp at hx; rcases hx with rfl | rfl; exact .str; exact .int)

theorem SameTexts_ok {st st' fl fl' : Bool} (a b : List (List UInt8)) (hl : a.length ≤ 9223372036854775806) (hb : b.length ≤ 9223372036854775807) : Calc cx 55 [.sl st fl 1 (texts a), .sl st' fl' 1 (texts b)] (.bool (a == b)) :=
  pure_intro (fun a w => Tryd.call55 a w) Tryd.func55 rfl Tryd.ntmps55 rfl .bool fun B => by
    refine ab 1000 rfl trivial ?_
    refine S_bne rfl (fun h => ?_) (fun h => ?_)
    · refine ab 1000 rfl trivial ?_
      refine S_retc .bool rfl trivial ?_
      have hne : a ≠ b := by
        intro e; subst e; exact h rfl
      rw [show (a == b) = false by simpa using hne]; rfl
    · have hlen : a.length = b.length := by simp [texts] at h; omega
      refine ab 1000 rfl trivial ?_
      refine S_while (α := Nat) (fun i => [(0, .sl st fl 1 (texts a)), (1, .sl st' fl' 1 (texts b)), (5, .int .i64 i)]) (fun _ => []) (fun i => i ≤ a.length ∧ a.take i = b.take i) (fun i => a.length - i) 0
        ⟨by simp, by simp⟩ (.cons rfl (.cons rfl (.cons rfl (.nil _)))) rfl ?_
      rintro i ⟨hi, hN⟩
      refine ab 1000 rfl trivial ?_
      refine S_dec rfl (fun h => ?_) (fun h => ?_)
      · have hil : i < a.length := by simp [texts] at h; omega
        have hil' : i < b.length := by omega
        refine ab 1000 rfl trivial ?_
        refine S_draw 9 [] [.str a[i], .str b[i]] rfl rfl rfl rfl ⟨rfl, rfl, rfl, by omega, by simp [texts, List.getElem?_eq_getElem hil], rfl, rfl, rfl, rfl, by omega, by simp [texts, List.getElem?_eq_getElem hil'], rfl, rfl, trivial⟩ ?_
        refine ab 1000 rfl trivial ?_
        refine S_cond rfl (fun h => ?_) (fun h => ?_)
        · have hne : a[i] ≠ b[i] := by simpa using h
          refine ab 1000 rfl trivial ?_
          refine S_retc .bool rfl trivial ?_
          have hne : a ≠ b := by
            intro e; subst e; exact hne rfl
          rw [show (a == b) = false by simpa using hne]; rfl
        · have he : a[i] = b[i] := by simpa using h
          refine ab 1000 rfl trivial ?_
          refine S_round (i + 1) (by show a.length - (i + 1) < a.length - i; omega) ⟨hil, ?_⟩ (.cons rfl (.cons rfl (.cons (ai64 rfl (by omega)) (.nil _)))) rfl
          rw [List.take_succ_eq_append_getElem hil, List.take_succ_eq_append_getElem hil', hN, he]
      · have hil : i = a.length := by simp [texts] at h; omega
        refine ab 1000 rfl trivial ?_
        refine S_retc .bool rfl trivial ?_
        have he : a = b := by
          rw [← List.take_of_length_le (l := a) (i := i) (by omega), ← List.take_of_length_le (l := b) (i := i) (by omega)]; exact hN
        rw [show (a == b) = true by simpa using he]; rfl

end Go.Proofs.YtjpmngjoohoddabDoor
