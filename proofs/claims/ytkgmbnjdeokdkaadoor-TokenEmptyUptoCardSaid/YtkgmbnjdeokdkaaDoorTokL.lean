/-
  Lines, and the whole: the program.
-/
import Derived.Test.YtkgmbnjdeokdkaaDoorTokK
set_option linter.unusedVariables false
set_option linter.unusedSimpArgs false
set_option maxRecDepth 20000
namespace Go.Proofs.YtkgmbnjdeokdkaaDoor
open Go Go.Ab

theorem skipH (v u w : Nat) (s : List UInt8) (i o : Nat) (ins : List Nat) (out : List Tok) (hi : i ≤ s.length) (hs : s.length ≤ 1048576) :
    CallOk cx 16 [.ptr 0 v 0] (spH v u w s i o ins out) (fun r σ => r = .ret (.tup []) ∧ σ = spH v u w s (gapC s i) o ins out) :=
  skip_ok v u w _ _ s i o _ _ hi hs

/-- The same heap, the place told as it is reckoned. -/
def spA (v u w : Nat) (s : List UInt8) (i : Int) (o : Nat) (ins : List Nat) (out : List Tok) : Heap := [(v, some (.cells [.str s, .int .i64 i, .int .i64 (o : Nat), insV u ins, outV w out] ⟨false, some 41⟩)), insB u ins, outB w out]

theorem oneS_o {s : List UInt8} {i o j o' : Nat} {t : Tok} (h : oneS s i o = .inr (t, j, o')) (ho : o ≤ 30) : o' ≤ 30 := by
  unfold oneS at h
  split at h
  · cases h; exact ho
  · split at h
    · split at h
      · cases h
      · cases h; exact ho
    · split at h
      · split at h
        · cases h
        · cases h; exact ho
      · split at h
        · cases h
        · split at h
          · split at h
            · cases h
            · cases h; omega
          · split at h
            · split at h
              · cases h
              · cases h; omega
            · cases h; exact ho

def lnS (s : List UInt8) (i o : Nat) (ins : List Nat) (out : List Tok) : Flt ⊕ (Nat × Nat × List Nat × List Tok) := match lineF (s.length + 1) s i o out with
  | .inl e => .inl e
  | .inr (k, out') => .inr (k, 0, ins, out')

structure LSt where
  f : Nat
  j : Nat
  o : Nat
  u : Nat
  w : Nat
  out : List Tok

theorem line_ok (v u w : Nat) (s : List UInt8) (i o : Nat) (ins : List Nat) (out : List Tok) (hi : i ≤ s.length) (hs : s.length ≤ 6000) (ho : o ≤ 30) (hl : out.length + (s.length - i) ≤ 800000) :
    CallOk cx 18 [.ptr 0 v 0] (spH v u w s i o ins out) (SpEnd s (lnS s i o ins out) v) :=
  callOk_intro (fun a w => Tryd.call18 a w) Tryd.func18 rfl Tryd.ntmps18 rfl fun B => by
    refine pa [] rfl trivial ?_
    refine S_while (α := LSt) (fun q => [(0, .ptr 0 v 0)]) (fun q => spH v q.u q.w s q.j q.o ins q.out)
      (fun q => q.j ≤ s.length ∧ q.o ≤ 30 ∧ q.out.length + (s.length - q.j) ≤ 800000 ∧ s.length - q.j < q.f ∧ lineF q.f s q.j q.o q.out = lineF (s.length + 1) s i o out) (fun q => s.length - q.j) ⟨s.length + 1, i, o, u, w, out⟩
      ⟨hi, ho, hl, by show s.length - i < s.length + 1; omega, rfl⟩ (.cons rfl (.nil _)) rfl ?_
    rintro ⟨f, j, o', u', w', out'⟩ ⟨h1, h2, h3, h4, h5⟩
    simp only at h1 h2 h3 h4 h5
    show S cx _ B _ _ [(0, .ptr 0 v 0)] (spH v u' w' s j o' ins out')
    obtain ⟨f, rfl⟩ : ∃ g, f = g + 1 := ⟨f - 1, by omega⟩
    rw [lineF] at h5
    have hwj : IntKind.i64.wrap ((j : Nat) + 1) = ((j + 1 : Nat) : Int) := by rw [IntWalk.i64_in _ ⟨by omega, by omega⟩]; omega
    by_cases hlt : j < s.length
    · have hgc : (((s.getD ((j : Nat) : Int).toNat 0).toNat : Nat) : Int) = ((s[j].toNat : Nat) : Int) := by rw [Int.toNat_natCast, getD_byte hlt]
      have hs0 : s[j]? = some s[j] := List.getElem?_eq_getElem hlt
      have hj2 : (0 : Int) ≤ ((j : Nat) : Int) ∧ ((j : Nat) : Int) < ((s.length : Nat) : Int) := by omega
      rw [hs0] at h5
      by_cases hc : s[j] = 10
      · have he : ((((s.getD ((j : Nat) : Int).toNat 0).toNat : Nat) : Int) != 10) = false := by rw [hgc, hc]; rfl
        have he2 : ((((s.getD ((j : Nat) : Int).toNat 0).toNat : Nat) : Int) == 10) = true := by rw [hgc, hc]; rfl
        by_cases hop : 0 < o'
        · rw [if_pos ⟨hlt, .inr hop⟩, if_pos (by rw [hc])] at h5
          have hg := gapC_le (s := s) (i := j + 1) (by omega)
          refine pa [.b true, .b false, .b true, .b true] rfl ?_ ?_
          · (repeat' with_reducible apply AllP_cons) <;> first | exact trivial | assumption | omega | rfl | exact decide_eq_true (by omega) | exact decide_eq_false (by omega) | (rw [IntWalk.i64_in _ ⟨by omega, by omega⟩]; omega) | exact allOne_mem rfl | exact Nat.le_of_ble_eq_true rfl | (simp only [List.length_cons, List.length_nil]; omega) | skip
          refine S_heap (spH v u' w' s (j + 1) o' ins out') ?_ ?_
          · show spA v u' w' s (IntKind.i64.wrap ((j : Nat) + 1)) o' ins out' = _
            rw [hwj]; rfl
          refine pa [.c (.tup []) (spH v u' w' s (gapC s (j + 1)) o' ins out')] rfl ?_ ?_
          · (repeat' with_reducible apply AllP_cons) <;> first | exact trivial | assumption | omega | rfl | exact decide_eq_true (by omega) | exact decide_eq_false (by omega) | (rw [IntWalk.i64_in _ ⟨by omega, by omega⟩]; omega) | exact allOne_mem rfl | exact Nat.le_of_ble_eq_true rfl | (simp only [List.length_cons, List.length_nil]; omega) | skip
            exact skipH v u' w' s (j + 1) o' ins out' (by omega) (by omega)
          exact S_round ⟨f, gapC s (j + 1), o', u', w', out'⟩ (by show s.length - gapC s (j + 1) < s.length - j; omega) ⟨hg.2, h2, by show out'.length + (s.length - gapC s (j + 1)) ≤ 800000; omega, by show s.length - gapC s (j + 1) < f; omega, h5⟩ (.cons rfl (.nil _)) rfl
        · rw [if_neg (by rintro ⟨_, h | h⟩; exact h (by rw [hc]); exact hop h), if_neg hop, if_pos hlt] at h5
          refine pa [.b true, .b false, .b false, .b false, .c (.tup []) (spH v u' (w' + 1) s j o' ins (out' ++ [tokLine j])), .b true] rfl ?_ ?_
          · (repeat' with_reducible apply AllP_cons) <;> first | exact trivial | assumption | omega | rfl | exact decide_eq_true (by omega) | exact decide_eq_false (by omega) | (rw [IntWalk.i64_in _ ⟨by omega, by omega⟩]; omega) | exact allOne_mem rfl | exact Nat.le_of_ble_eq_true rfl | (simp only [List.length_cons, List.length_nil]; omega) | skip
            exact putH v u' w' s j o' ins out' 6 [] j (by omega)
          refine S_heap (spH v u' (w' + 1) s (j + 1) 0 ins (out' ++ [tokLine j])) ?_ ?_
          · show spA v u' (w' + 1) s (IntKind.i64.wrap ((j : Nat) + 1)) o' ins (out' ++ [tokLine j]) = _
            rw [hwj, show o' = 0 by omega]; rfl
          refine S_nil ⟨_, _, rfl, trivial, ?_⟩
          rw [lnS, ← h5]
          exact ⟨u', w' + 1, rfl, rfl⟩
      · have he : ((((s.getD ((j : Nat) : Int).toNat 0).toNat : Nat) : Int) != 10) = true := by rw [hgc]; exact bne_iff_ne.2 (fun h => hc (UInt8.toNat_inj.1 (by show s[j].toNat = 10; omega)))
        have he2 : ((((s.getD ((j : Nat) : Int).toNat 0).toNat : Nat) : Int) == 10) = false := by rw [hgc]; exact beq_false_of_ne (fun h => hc (UInt8.toNat_inj.1 (by show s[j].toNat = 10; omega)))
        rw [if_pos ⟨hlt, .inl (by simpa using hc)⟩, if_neg (by simpa using hc)] at h5
        refine pa [.b true, .b true, .b true, .b false] rfl ?_ ?_
        · (repeat' with_reducible apply AllP_cons) <;> first | exact trivial | assumption | omega | rfl | exact decide_eq_true (by omega) | exact decide_eq_false (by omega) | (rw [IntWalk.i64_in _ ⟨by omega, by omega⟩]; omega) | exact allOne_mem rfl | exact Nat.le_of_ble_eq_true rfl | (simp only [List.length_cons, List.length_nil]; omega) | skip
        refine S_call rfl rfl rfl (next_ok v u' w' s j o' ins out' hlt (by omega) (by omega) (by omega)) (fun r σ' h => ?_) (fun r σ' h => ?_)
        · obtain rfl := h.ret
          cases hx : oneS s j o' with
          | inl e => rw [hx] at h; cases h.1
          | inr q =>
            obtain ⟨t, j2, o2⟩ := q
            rw [hx] at h h5
            obtain ⟨u2, w2, _, rfl⟩ := h
            have hb := oneS_le hlt hx
            have hb2 := oneS_o hx h2
            have hg := gapC_le (s := s) (i := j2) (by omega)
            refine pa [.c (.tup []) (spH v u2 w2 s (gapC s j2) o2 ins (out' ++ [t]))] rfl ?_ ?_
            · (repeat' with_reducible apply AllP_cons) <;> first | exact trivial | assumption | omega | rfl | exact decide_eq_true (by omega) | exact decide_eq_false (by omega) | (rw [IntWalk.i64_in _ ⟨by omega, by omega⟩]; omega) | exact allOne_mem rfl | exact Nat.le_of_ble_eq_true rfl | (simp only [List.length_cons, List.length_nil]; omega) | skip
              exact skipH v u2 w2 s j2 o2 ins (out' ++ [t]) (by omega) (by omega)
            exact S_round ⟨f, gapC s j2, o2, u2, w2, out' ++ [t]⟩ (by show s.length - gapC s j2 < s.length - j; omega) ⟨hg.2, hb2, by show (out' ++ [t]).length + (s.length - gapC s j2) ≤ 800000; simp; omega, by show s.length - gapC s j2 < f; omega, h5⟩ (.cons rfl (.nil _)) rfl
        · cases hx : oneS s j o' with
          | inl e =>
            rw [hx] at h h5
            rw [lnS, ← h5]
            exact h
          | inr q => rw [hx] at h; obtain ⟨_, _, h, _⟩ := h; cases h
    · rw [if_neg (fun h => hlt h.1), if_neg hlt] at h5
      by_cases hop : 0 < o'
      · rw [if_pos hop] at h5
        refine pa [.b false, .b false, .b true] rfl ?_ ?_
        · (repeat' with_reducible apply AllP_cons) <;> first | exact trivial | assumption | omega | rfl | exact decide_eq_true (by omega) | exact decide_eq_false (by omega) | (rw [IntWalk.i64_in _ ⟨by omega, by omega⟩]; omega) | exact allOne_mem rfl | exact Nat.le_of_ble_eq_true rfl | (simp only [List.length_cons, List.length_nil]; omega) | skip
        refine S_callP rfl rfl rfl (failH v u' w' s j o' ins out' 1 j) ?_
        rw [lnS, ← h5]
        exact ⟨rfl, v, u', w', j, o', ins, out', rfl⟩
      · rw [if_neg hop] at h5
        refine pa [.b false, .b false, .b false, .c (.tup []) (spH v u' (w' + 1) s j o' ins (out' ++ [tokLine j])), .b false] rfl ?_ ?_
        · (repeat' with_reducible apply AllP_cons) <;> first | exact trivial | assumption | omega | rfl | exact decide_eq_true (by omega) | exact decide_eq_false (by omega) | (rw [IntWalk.i64_in _ ⟨by omega, by omega⟩]; omega) | exact allOne_mem rfl | exact Nat.le_of_ble_eq_true rfl | (simp only [List.length_cons, List.length_nil]; omega) | skip
          exact putH v u' w' s j o' ins out' 6 [] j (by omega)
        refine S_nil ⟨_, _, rfl, trivial, ?_⟩
        rw [lnS, ← h5]
        exact ⟨u', w' + 1, rfl, by rw [show o' = 0 by omega]⟩

end Go.Proofs.YtkgmbnjdeokdkaaDoor
