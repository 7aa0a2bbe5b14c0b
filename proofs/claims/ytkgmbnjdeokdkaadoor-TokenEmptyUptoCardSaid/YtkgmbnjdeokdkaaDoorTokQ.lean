/-
  The whole: the reference.
-/
import Derived.Test.YtkgmbnjdeokdkaaDoorTokP
import Derived.Test.YtkgmbnjdeokdkaaDoorTokM
set_option linter.unusedVariables false
set_option linter.unusedSimpArgs false
set_option maxRecDepth 20000
namespace Go.Proofs.YtkgmbnjdeokdkaaDoor
open Go Go.Ab

theorem hasH (v u w : Nat) (s : List UInt8) (i o : Nat) (ins : List Nat) (out : List Tok) (c : UInt8) (hs : s.length ≤ 1048576) (t : Bool) (h : (s[i]? == some c) = t) :
    CallOk cx 22 [.ptr 0 v 0, .int .u8 (c.toNat : Nat)] (rsH v u w s i o ins out) (fun r σ => r = .ret (.bool t) ∧ σ = rsH v u w s i o ins out) := by
  rw [← h]; exact has_ok v u w _ _ s i o _ _ c hs

theorem gapH (v u w : Nat) (s : List UInt8) (i o : Nat) (ins : List Nat) (out : List Tok) (hi : i ≤ s.length) (hs : s.length ≤ 1048576) :
    CallOk cx 20 [.ptr 0 v 0] (rsH v u w s i o ins out) (fun r σ => r = .ret (.int .i64 (gapE s i - i : Nat)) ∧ σ = rsH v u w s (gapC s i) o ins out) :=
  gap_ok v u w _ _ s i o _ _ hi hs

def AlR (s : List UInt8) (x : Flt ⊕ List Tok) (v : Nat) : Out → Heap → Prop := fun e σ => match x with
  | .inl x => e = .ret (.int .i64 (x.1 : Nat)) ∧ ∃ u w o ins out, σ = rsH v u w s x.2 o ins out
  | .inr l => ∃ u w i o ins, e = .ret (.int .i64 0) ∧ σ = rsH v u w s i o ins l

theorem furS_err {n i : Nat} {ins : List Nat} {e : Flt} (h : furS n i ins = .inl e) : 0 < e.1 ∧ e.1 ≤ 4 := by
  unfold furS at h
  split at h
  · split at h
    · cases h; simp
    · cases h
  · split at h
    · cases h
    · cases h; simp

theorem oneS_err {s : List UInt8} {i o : Nat} {e : Flt} (h : oneS s i o = .inl e) : 0 < e.1 ∧ e.1 ≤ 4 := by
  unfold oneS at h
  split at h
  · cases h
  · split at h
    · split at h
      · cases h; simp
      · cases h
    · split at h
      · split at h
        · cases h; simp
        · cases h
      · split at h
        · cases h; simp
        · split at h
          · split at h
            · cases h; simp
            · cases h
          · split at h
            · split at h
              · cases h; simp
              · cases h
            · cases h

theorem oneS_at {s : List UInt8} {i o : Nat} {e : Flt} (hi : i < s.length) (h : oneS s i o = .inl e) : i ≤ e.2 ∧ e.2 ≤ s.length := by
  unfold oneS at h
  split at h
  · cases h
  · split at h
    · split at h
      · cases h; simp; omega
      · cases h
    · split at h
      · split at h
        · rename_i p hq
          cases h
          have := quoteS_ge _ _ (Nat.le_refl _) hq
          rw [List.length_drop] at this
          simp only; omega
        · cases h
      · split at h
        · cases h; simp; omega
        · split at h
          · split at h
            · cases h; simp; omega
            · cases h
          · split at h
            · split at h
              · cases h; simp; omega
              · cases h
            · cases h

structure MSt where
  ins : List Nat
  f : Nat
  j : Nat
  o : Nat
  u : Nat
  w : Nat
  out : List Tok
  er : Nat

theorem rall_ok (v u w : Nat) (s : List UInt8) (hs : s.length ≤ 6000) :
    CallOk cx 15 [.ptr 0 v 0] (rsH v u w s 0 0 [0] []) (AlR s (allF (s.length + 1) s 0 [0] []) v) :=
  callOk_intro (fun a w => Tryd.call15 a w) Tryd.func15 rfl Tryd.ntmps15 rfl fun B => by
    refine pa [] rfl trivial ?_
    refine S_while (α := ASt) (fun q => [(0, .ptr 0 v 0)]) (fun q => rsH v q.u q.w s q.i 0 q.ins q.out)
      (fun q => q.i ≤ s.length ∧ Insok q.ins ∧ q.ins.length ≤ 31 ∧ q.out.length + q.ins.length ≤ 4 * q.i + 1 ∧ s.length - q.i < q.f ∧ allF q.f s q.i q.ins q.out = allF (s.length + 1) s 0 [0] []) (fun q => q.f) ⟨s.length + 1, 0, u, w, [0], []⟩
      ⟨Nat.zero_le _, ⟨List.pairwise_singleton _ _, rfl⟩, lble rfl, lble rfl, by show s.length - 0 < s.length + 1; omega, rfl⟩ (.cons rfl (.nil _)) rfl ?_
    rintro ⟨f, i, u', w', ins, out⟩ ⟨h1, h2, h3, h4, h5, h6⟩
    simp only at h1 h2 h3 h4 h5 h6
    show S cx _ B _ _ [(0, .ptr 0 v 0)] (rsH v u' w' s i 0 ins out)
    obtain ⟨f, rfl⟩ : ∃ g, f = g + 1 := ⟨f - 1, by omega⟩
    rw [allF] at h6
    obtain ⟨J, hJ⟩ : ∃ J, J = gapC s i := ⟨_, rfl⟩
    have hg := gapC_le (s := s) (i := i) h1
    have hgp := gapH v u' w' s i 0 ins out h1 (by omega)
    rw [← hJ] at h6 hg hgp
    by_cases hge : s.length ≤ J
    · rw [if_pos hge, furS_zero h2] at h6
      refine pa [.c (.int .i64 (gapE s i - i : Nat)) (rsH v u' w' s J 0 ins out), .b true] rfl ?_ ?_
      · (repeat' with_reducible apply AllP_cons) <;> first | exact trivial | assumption | omega | rfl | exact decide_eq_true (by omega) | exact decide_eq_false (by omega) | (rw [IntWalk.i64_in _ ⟨by omega, by omega⟩]; omega) | exact allOne_mem rfl | exact Nat.le_of_ble_eq_true rfl | (simp only [List.length_cons, List.length_nil]; omega) | skip
      refine S_call rfl rfl rfl (further_ok v u' w' s J 0 ins out 0 h2 h3 (by omega)) (fun r σ' h => ?_) (fun r σ' h => ?_)
      · unfold begS at h
        rw [furS_zero h2] at h
        obtain ⟨u2, w2, hr, rfl⟩ := h
        cases hr
        refine pa [] rfl trivial ?_
        refine S_ret ⟨_, _, rfl, trivial, ?_⟩
        rw [← h6]
        exact ⟨u2, w2, _, _, _, rfl, rfl⟩
      · unfold begS at h
        rw [furS_zero h2] at h
        obtain ⟨_, _, hr, _⟩ := h; cases hr
    · have hJl : J < s.length := by omega
      have hs0 : s[J]? = some s[J] := List.getElem?_eq_getElem hJl
      rw [if_neg hge, hs0] at h6
      by_cases hc : s[J] = 10
      · rw [if_pos (by rw [hc])] at h6
        have hwj : IntKind.i64.wrap ((J : Nat) + 1) = ((J + 1 : Nat) : Int) := by rw [IntWalk.i64_in _ ⟨by omega, by omega⟩]; omega
        refine pa [.c (.int .i64 (gapE s i - i : Nat)) (rsH v u' w' s J 0 ins out), .b false, .k (.bool true), .b true] rfl ?_ ?_
        · (repeat' with_reducible apply AllP_cons) <;> first | exact trivial | assumption | omega | rfl | exact decide_eq_true (by omega) | exact decide_eq_false (by omega) | (rw [IntWalk.i64_in _ ⟨by omega, by omega⟩]; omega) | exact allOne_mem rfl | exact Nat.le_of_ble_eq_true rfl | (simp only [List.length_cons, List.length_nil]; omega) | skip
          exact hasH v u' w' s J 0 ins out 10 (by omega) true (by rw [hs0, hc]; rfl)
        refine S_round ⟨f, J + 1, u', w', ins, out⟩ (by show f < f + 1; omega) ⟨hJl, h2, h3, by show out.length + ins.length ≤ 4 * (J + 1) + 1; omega, by show s.length - (J + 1) < f; omega, h6⟩ (.cons rfl (.nil _)) ?_
        show rsA v u' w' s (IntKind.i64.wrap ((J : Nat) + 1)) ((0 : Nat) : Int) ins out = _
        rw [hwj]; rfl
      · rw [if_neg (by simpa using hc)] at h6
        have hgE : J = gapE s i := by
          rcases gapC_or (s := s) (i := i) (by rw [← hJ]; exact hJl) with h | h
          · exact absurd (by simpa [← hJ] using h) hc
          · rw [hJ]; exact h
        refine pa [.c (.int .i64 (gapE s i - i : Nat)) (rsH v u' w' s J 0 ins out), .b false, .k (.bool false), .b false] rfl ?_ ?_
        · (repeat' with_reducible apply AllP_cons) <;> first | exact trivial | assumption | omega | rfl | exact decide_eq_true (by omega) | exact decide_eq_false (by omega) | (rw [IntWalk.i64_in _ ⟨by omega, by omega⟩]; omega) | exact allOne_mem rfl | exact Nat.le_of_ble_eq_true rfl | (simp only [List.length_cons, List.length_nil]; omega) | skip
          exact hasH v u' w' s J 0 ins out 10 (by omega) false (by rw [hs0]; exact beq_false_of_ne (by simpa using hc))
        refine S_call rfl rfl rfl (further_ok v u' w' s J 0 ins out (gapE s i - i) h2 h3 (by omega)) (fun r σ' h => ?_) (fun r σ' h => ?_)
        rotate_left
        · unfold begS at h
          cases hx : furS (gapE s i - i) J ins with
          | inl e => rw [hx] at h; cases h.1
          | inr q => rw [hx] at h; obtain ⟨_, _, h, _⟩ := h; cases h
        unfold begS at h
        cases hx : furS (gapE s i - i) J ins with
        | inl e =>
          rw [hx] at h h6
          obtain ⟨hr, u2, w2, o2, ins2, out2, rfl⟩ := h
          cases hr
          have hee := furS_err hx
          refine pa [] rfl trivial ?_
          refine S_while (α := Unit) (fun _ => [(0, .ptr 0 v 0), (4, .int .i64 (e.1 : Nat))]) (fun _ => rsH v u2 w2 s e.2 o2 ins2 out2) (fun _ => True) (fun _ => 0) () trivial (.cons rfl (.cons rfl (.nil _))) rfl ?_
          rintro _ _
          refine pa [.b false, .b false, .b false, .b false, .b false, .b true] rfl ?_ ?_
          · (repeat' with_reducible apply AllP_cons) <;> first | exact trivial | assumption | omega | rfl | exact decide_eq_true (by omega) | exact decide_eq_false (by omega) | (rw [IntWalk.i64_in _ ⟨by omega, by omega⟩]; omega) | exact allOne_mem rfl | exact Nat.le_of_ble_eq_true rfl | (simp only [List.length_cons, List.length_nil]; omega) | skip
            exact bne_iff_ne.2 (by omega)
          refine S_ret ⟨_, _, rfl, trivial, ?_⟩
          rw [← h6]
          exact ⟨rfl, u2, w2, o2, ins2, out2, rfl⟩
        | inr q =>
          obtain ⟨ins', l⟩ := q
          rw [hx] at h h6
          obtain ⟨u2, w2, hr, rfl⟩ := h
          cases hr
          obtain ⟨k1, k2, k3, k4⟩ := furS_ok h2 h3 hx
          simp only at h6
          refine pa [] rfl trivial ?_
          refine S_while (α := MSt) (fun q => [(0, .ptr 0 v 0), (4, .int .i64 (q.er : Nat))]) (fun q => rsH v q.u q.w s q.j q.o q.ins q.out)
            (fun q => q.j ≤ s.length ∧ q.er ≤ 4 ∧ (q.er = 0 → q.o ≤ 30 ∧ q.out.length + (s.length - q.j) ≤ 800000 ∧ s.length - q.j < q.f ∧ lineF q.f s q.j q.o q.out = lineF (s.length + 1) s J 0 (out ++ l) ∧ q.ins = ins') ∧ (q.er ≠ 0 → lineF (s.length + 1) s J 0 (out ++ l) = .inl (q.er, q.j))) (fun q => if q.er = 0 then s.length - q.j + 1 else 0) ⟨ins', s.length + 1, J, 0, u2, w2, out ++ l, 0⟩
            ⟨by show J ≤ s.length; omega, Nat.zero_le _, fun _ => ⟨Nat.zero_le _, by simp; omega, by show s.length - J < s.length + 1; omega, rfl, rfl⟩, fun h => absurd rfl h⟩ (.cons rfl (.cons rfl (.nil _))) rfl ?_
          rintro ⟨ins3, g, j, o', u3, w3, out', er⟩ ⟨q1, q2, q3, q4⟩
          simp only at q1 q2 q3 q4
          show S cx _ B _ _ [(0, .ptr 0 v 0), (4, .int .i64 (er : Nat))] (rsH v u3 w3 s j o' ins3 out')
          by_cases her : er = 0
          · subst her
            obtain ⟨qo, q5, q6, q7, rfl⟩ := q3 rfl
            obtain ⟨g, rfl⟩ : ∃ g', g = g' + 1 := ⟨g - 1, by omega⟩
            rw [lineF] at q7
            have hwj : IntKind.i64.wrap ((j : Nat) + 1) = ((j + 1 : Nat) : Int) := by rw [IntWalk.i64_in _ ⟨by omega, by omega⟩]; omega
            by_cases hlt : j < s.length
            · have hs1 : s[j]? = some s[j] := List.getElem?_eq_getElem hlt
              rw [hs1] at q7
              by_cases hc1 : s[j] = 10
              · have hh := hasH v u3 w3 s j o' ins3 out' 10 (by omega) true (by rw [hs1, hc1]; rfl)
                by_cases hop : 0 < o'
                · rw [if_pos ⟨hlt, .inr hop⟩, if_pos (by rw [hc1])] at q7
                  have hg1 := gapC_le (s := s) (i := j + 1) (by omega)
                  refine pa [.b true, .b true, .k (.bool true), .b false, .b true, .k (.bool true), .b true, .b true] rfl ?_ ?_
                  · (repeat' with_reducible apply AllP_cons) <;> first | exact trivial | assumption | omega | rfl | exact decide_eq_true (by omega) | exact decide_eq_false (by omega) | (rw [IntWalk.i64_in _ ⟨by omega, by omega⟩]; omega) | exact allOne_mem rfl | exact Nat.le_of_ble_eq_true rfl | (simp only [List.length_cons, List.length_nil]; omega) | skip
                  refine S_heap (rsH v u3 w3 s (j + 1) o' ins3 out') ?_ ?_
                  · show rsA v u3 w3 s (IntKind.i64.wrap ((j : Nat) + 1)) ((o' : Nat) : Int) ins3 out' = _
                    rw [hwj]; rfl
                  refine pa [.c (.int .i64 (gapE s (j + 1) - (j + 1) : Nat)) (rsH v u3 w3 s (gapC s (j + 1)) o' ins3 out')] rfl ?_ ?_
                  · (repeat' with_reducible apply AllP_cons) <;> first | exact trivial | assumption | omega | rfl | exact decide_eq_true (by omega) | exact decide_eq_false (by omega) | (rw [IntWalk.i64_in _ ⟨by omega, by omega⟩]; omega) | exact allOne_mem rfl | exact Nat.le_of_ble_eq_true rfl | (simp only [List.length_cons, List.length_nil]; omega) | skip
                    exact gapH v u3 w3 s (j + 1) o' ins3 out' (by omega) (by omega)
                  exact S_round ⟨ins3, g, gapC s (j + 1), o', u3, w3, out', 0⟩ (by show s.length - gapC s (j + 1) + 1 < s.length - j + 1; omega) ⟨hg1.2, Nat.zero_le _, fun _ => ⟨qo, by show out'.length + (s.length - gapC s (j + 1)) ≤ 800000; omega, by show s.length - gapC s (j + 1) < g; omega, q7, rfl⟩, fun h => absurd rfl h⟩ (.cons rfl (.cons rfl (.nil _))) rfl
                · rw [if_neg (by rintro ⟨_, h | h⟩; exact h (by rw [hc1]); exact hop h), if_neg hop, if_pos hlt] at q7
                  rw [← q7] at h6
                  refine pa [.b true, .b true, .k (.bool true), .b false, .b false, .b true, .b false, .b false, .c (.tup []) (rsH v u3 (w3 + 1) s j o' ins3 (out' ++ [tokLine j])), .b true] rfl ?_ ?_
                  · (repeat' with_reducible apply AllP_cons) <;> first | exact trivial | assumption | omega | rfl | exact decide_eq_true (by omega) | exact decide_eq_false (by omega) | (rw [IntWalk.i64_in _ ⟨by omega, by omega⟩]; omega) | exact allOne_mem rfl | exact Nat.le_of_ble_eq_true rfl | (simp only [List.length_cons, List.length_nil]; omega) | skip
                    exact rputH v u3 w3 s j o' ins3 out' 6 [] j (by omega)
                  refine S_heap (rsH v u3 (w3 + 1) s (j + 1) 0 ins3 (out' ++ [tokLine j])) ?_ ?_
                  · show rsA v u3 (w3 + 1) s (IntKind.i64.wrap ((j : Nat) + 1)) ((o' : Nat) : Int) ins3 (out' ++ [tokLine j]) = _
                    rw [hwj, show o' = 0 by omega]; rfl
                  have hb := lineF_le (s.length + 1) (by omega) q7.symm
                  have hb4 := hb.2.2.2 hJl
                  have hb5 := hb.2.2.1
                  simp only [List.length_append] at hb5
                  exact S_round ⟨f, (j + 1), u3, w3 + 1, ins3, out' ++ [tokLine j]⟩ (by show f < f + 1; omega) ⟨hb.2.1, k1, k2, by show (out' ++ [tokLine j]).length + ins3.length ≤ 4 * (j + 1) + 1; simp only [List.length_append]; omega, by show s.length - (j + 1) < f; omega, h6⟩ (.cons rfl (.nil _)) rfl
              · have hh := hasH v u3 w3 s j o' ins3 out' 10 (by omega) false (by rw [hs1]; exact beq_false_of_ne (by simpa using hc1))
                rw [if_pos ⟨hlt, .inl (by simpa using hc1)⟩, if_neg (by simpa using hc1)] at q7
                refine pa [.b true, .b true, .k (.bool false), .b true, .b true, .k (.bool false), .b false] rfl ?_ ?_
                · (repeat' with_reducible apply AllP_cons) <;> first | exact trivial | assumption | omega | rfl | exact decide_eq_true (by omega) | exact decide_eq_false (by omega) | (rw [IntWalk.i64_in _ ⟨by omega, by omega⟩]; omega) | exact allOne_mem rfl | exact Nat.le_of_ble_eq_true rfl | (simp only [List.length_cons, List.length_nil]; omega) | skip
                refine S_call rfl rfl rfl (one_ok v u3 w3 s j o' ins3 out' hlt (by omega) qo (by omega)) (fun r σ' h => ?_) (fun r σ' h => ?_)
                rotate_left
                · cases hx : oneS s j o' with
                  | inl e => rw [hx] at h; cases h.1
                  | inr q => rw [hx] at h; obtain ⟨_, _, h, _⟩ := h; cases h
                cases hx : oneS s j o' with
                | inl e =>
                  rw [hx] at h q7
                  obtain ⟨hr, u4, w4, o4, ins4, out4, rfl⟩ := h
                  cases hr
                  have hee := oneS_err hx
                  refine pa [.b false] rfl ?_ ?_
                  · (repeat' with_reducible apply AllP_cons) <;> first | exact trivial | assumption | omega | rfl | exact decide_eq_true (by omega) | exact decide_eq_false (by omega) | (rw [IntWalk.i64_in _ ⟨by omega, by omega⟩]; omega) | exact allOne_mem rfl | exact Nat.le_of_ble_eq_true rfl | (simp only [List.length_cons, List.length_nil]; omega) | skip
                  exact S_round ⟨ins4, g, e.2, o4, u4, w4, out4, e.1⟩ (by show (if e.1 = 0 then s.length - e.2 + 1 else 0) < s.length - j + 1; rw [if_neg (by omega)]; omega) ⟨(oneS_at hlt hx).2, hee.2, fun h => absurd h (by show e.1 ≠ 0; omega), fun _ => q7.symm⟩ (.cons rfl (.cons rfl (.nil _))) rfl
                | inr q =>
                  obtain ⟨t, j2, o2⟩ := q
                  rw [hx] at h q7
                  obtain ⟨u4, w4, hr, rfl⟩ := h
                  cases hr
                  have hb := oneS_le hlt hx
                  have hb2 := oneS_o hx qo
                  have hg1 := gapC_le (s := s) (i := j2) (by omega)
                  refine pa [.b true, .c (.int .i64 (gapE s j2 - j2 : Nat)) (rsH v u4 w4 s (gapC s j2) o2 ins3 (out' ++ [t]))] rfl ?_ ?_
                  · (repeat' with_reducible apply AllP_cons) <;> first | exact trivial | assumption | omega | rfl | exact decide_eq_true (by omega) | exact decide_eq_false (by omega) | (rw [IntWalk.i64_in _ ⟨by omega, by omega⟩]; omega) | exact allOne_mem rfl | exact Nat.le_of_ble_eq_true rfl | (simp only [List.length_cons, List.length_nil]; omega) | skip
                    exact gapH v u4 w4 s j2 o2 ins3 (out' ++ [t]) (by omega) (by omega)
                  exact S_round ⟨ins3, g, gapC s j2, o2, u4, w4, out' ++ [t], 0⟩ (by show s.length - gapC s j2 + 1 < s.length - j + 1; omega) ⟨hg1.2, Nat.zero_le _, fun _ => ⟨hb2, by show (out' ++ [t]).length + (s.length - gapC s j2) ≤ 800000; simp; omega, by show s.length - gapC s j2 < g; omega, q7, rfl⟩, fun h => absurd rfl h⟩ (.cons rfl (.cons rfl (.nil _))) rfl
            · rw [if_neg (fun h => hlt h.1), if_neg hlt] at q7
              by_cases hop : 0 < o'
              · rw [if_pos hop] at q7
                rw [← q7] at h6
                refine pa [.b true, .b false, .b false, .b true, .b true, .b true] rfl ?_ ?_
                · (repeat' with_reducible apply AllP_cons) <;> first | exact trivial | assumption | omega | rfl | exact decide_eq_true (by omega) | exact decide_eq_false (by omega) | (rw [IntWalk.i64_in _ ⟨by omega, by omega⟩]; omega) | exact allOne_mem rfl | exact Nat.le_of_ble_eq_true rfl | (simp only [List.length_cons, List.length_nil]; omega) | skip
                refine S_ret ⟨_, _, rfl, trivial, ?_⟩
                rw [← h6]
                exact ⟨rfl, u3, w3, o', ins3, out', rfl⟩
              · rw [if_neg hop] at q7
                rw [← q7] at h6
                refine pa [.b true, .b false, .b false, .b true, .b false, .b false, .c (.tup []) (rsH v u3 (w3 + 1) s j o' ins3 (out' ++ [tokLine j])), .b false] rfl ?_ ?_
                · (repeat' with_reducible apply AllP_cons) <;> first | exact trivial | assumption | omega | rfl | exact decide_eq_true (by omega) | exact decide_eq_false (by omega) | (rw [IntWalk.i64_in _ ⟨by omega, by omega⟩]; omega) | exact allOne_mem rfl | exact Nat.le_of_ble_eq_true rfl | (simp only [List.length_cons, List.length_nil]; omega) | skip
                  exact rputH v u3 w3 s j o' ins3 out' 6 [] j (by omega)
                refine S_heap (rsH v u3 (w3 + 1) s j 0 ins3 (out' ++ [tokLine j])) ?_ ?_
                · rw [show o' = 0 by omega]
                have hb := lineF_le (s.length + 1) (by omega) q7.symm
                have hb4 := hb.2.2.2 hJl
                have hb5 := hb.2.2.1
                simp only [List.length_append] at hb5
                exact S_round ⟨f, j, u3, w3 + 1, ins3, out' ++ [tokLine j]⟩ (by show f < f + 1; omega) ⟨hb.2.1, k1, k2, by show (out' ++ [tokLine j]).length + ins3.length ≤ 4 * j + 1; simp only [List.length_append]; omega, by show s.length - j < f; omega, h6⟩ (.cons rfl (.nil _)) rfl
          · have q4 := q4 her
            rw [q4] at h6
            refine pa [.b false, .b false, .b false, .b false, .b false, .b true] rfl ?_ ?_
            · (repeat' with_reducible apply AllP_cons) <;> first | exact trivial | assumption | omega | rfl | exact decide_eq_true (by omega) | exact decide_eq_false (by omega) | (rw [IntWalk.i64_in _ ⟨by omega, by omega⟩]; omega) | exact allOne_mem rfl | exact Nat.le_of_ble_eq_true rfl | (simp only [List.length_cons, List.length_nil]; omega) | skip
              exact bne_iff_ne.2 (by omega)
            refine S_ret ⟨_, _, rfl, trivial, ?_⟩
            rw [← h6]
            exact ⟨rfl, u3, w3, o', ins3, out', rfl⟩

end Go.Proofs.YtkgmbnjdeokdkaaDoor
