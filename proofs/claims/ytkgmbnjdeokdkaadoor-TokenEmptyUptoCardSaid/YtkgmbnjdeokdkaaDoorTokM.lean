/-
  The whole: the program.
-/
import Derived.Test.YtkgmbnjdeokdkaaDoorTokL
set_option linter.unusedVariables false
set_option linter.unusedSimpArgs false
set_option maxRecDepth 20000
namespace Go.Proofs.YtkgmbnjdeokdkaaDoor
open Go Go.Ab

theorem stopAt_stops {p : UInt8 → Bool} {s : List UInt8} : ∀ (n i : Nat), s.length - i = n → ∀ (h : stopAt p s i < s.length), p s[stopAt p s i] = false
  | 0, i, hn, h => by rw [stopAt_end (by omega)] at h; omega
  | n + 1, i, hn, h => by
    have hi : i < s.length := by omega
    by_cases hp : p s[i] = true
    · simp only [stopAt_yes hi hp] at h ⊢
      exact stopAt_stops n (i + 1) (by omega) h
    · rw [Bool.not_eq_true] at hp
      simp only [stopAt_no hi hp]; exact hp

theorem gapC_or {s : List UInt8} {i : Nat} (h : gapC s i < s.length) : s[gapC s i] = 10 ∨ gapC s i = gapE s i := by
  by_cases h1 : s[gapE s i]? = some 35
  · left
    have e : gapC s i = stopAt (fun c => !(c == 10)) s (gapE s i) := by rw [gapC, if_pos h1]
    simp only [e] at h ⊢
    simpa using stopAt_stops (p := fun c => !(c == 10)) _ _ rfl h
  · right; rw [gapC, if_neg h1]

theorem gapC_end {s : List UInt8} {i : Nat} (h : s.length ≤ i) : gapC s i = i := by
  have e : gapE s i = i := stopAt_end h
  rw [gapC, e, List.getElem?_eq_none h, if_neg (by simp)]

theorem furS_zero {ins : List Nat} (hi : Insok ins) (i : Nat) : furS 0 i ins = .inr (ins.take (stay ins 0), List.replicate (ins.length - stay ins 0) (tokOut i)) := by
  have h0 : 0 ∈ ins := List.mem_of_getElem? hi.zero
  rw [furS, if_neg (by omega), if_pos h0]

theorem lineF_le : ∀ (f : Nat) {s : List UInt8} {i o k : Nat} {out out' : List Tok}, i ≤ s.length → lineF f s i o out = .inr (k, out') → i ≤ k ∧ k ≤ s.length ∧ out'.length ≤ out.length + (k - i) + 1 ∧ (i < s.length → i < k)
  | 0, s, i, o, k, out, out', hi, h => by cases h
  | f + 1, s, i, o, k, out, out', hi, h => by
    rw [lineF] at h
    split at h
    · rename_i hc
      have hlt := hc.1
      split at h
      · have hg := gapC_le (s := s) (i := i + 1) (by omega)
        have := lineF_le f hg.2 h
        omega
      · split at h
        · cases h
        · rename_i t j o' hx
          have hb := oneS_le hlt hx
          have hg := gapC_le (s := s) (i := j) (by omega)
          have := lineF_le f hg.2 h
          simp only [List.length_append, List.length_singleton] at this
          omega
    · split at h
      · cases h
      · cases h
        rw [List.length_append, List.length_singleton]
        split <;> omega

/-- What the whole comes to. -/
def AlEnd (s : List UInt8) (x : Flt ⊕ List Tok) (v : Nat) : Out → Heap → Prop := fun e σ => match x with
  | .inl x => e = .panic (flt x) ∧ ∃ v u w i o ins out, σ = spHI v u w s i o ins out
  | .inr l => ∃ u w i o ins, e = .ret (.tup []) ∧ σ = spH v u w s i o ins l

structure ASt where
  f : Nat
  i : Nat
  u : Nat
  w : Nat
  ins : List Nat
  out : List Tok

theorem all_ok (v u w : Nat) (s : List UInt8) (hs : s.length ≤ 6000) :
    CallOk cx 14 [.ptr 0 v 0] (spH v u w s 0 0 [0] []) (AlEnd s (allF (s.length + 1) s 0 [0] []) v) :=
  callOk_intro (fun a w => Tryd.call14 a w) Tryd.func14 rfl Tryd.ntmps14 rfl fun B => by
    refine pa [] rfl trivial ?_
    refine S_while (α := ASt) (fun q => [(0, .ptr 0 v 0)]) (fun q => spH v q.u q.w s q.i 0 q.ins q.out)
      (fun q => q.i ≤ s.length ∧ Insok q.ins ∧ q.ins.length ≤ 31 ∧ q.out.length + q.ins.length ≤ 4 * q.i + 1 ∧ s.length - q.i < q.f ∧ allF q.f s q.i q.ins q.out = allF (s.length + 1) s 0 [0] []) (fun q => s.length - q.i) ⟨s.length + 1, 0, u, w, [0], []⟩
      ⟨Nat.zero_le _, ⟨List.pairwise_singleton _ _, rfl⟩, lble rfl, lble rfl, by show s.length - 0 < s.length + 1; omega, rfl⟩ (.cons rfl (.nil _)) rfl ?_
    rintro ⟨f, i, u', w', ins, out⟩ ⟨h1, h2, h3, h4, h5, h6⟩
    simp only at h1 h2 h3 h4 h5 h6
    show S cx _ B _ _ [(0, .ptr 0 v 0)] (spH v u' w' s i 0 ins out)
    obtain ⟨f, rfl⟩ : ∃ g, f = g + 1 := ⟨f - 1, by omega⟩
    rw [allF] at h6
    obtain ⟨J, hJ⟩ : ∃ J, J = gapC s i := ⟨_, rfl⟩
    have hg := gapC_le (s := s) (i := i) h1
    rw [← hJ] at h6 hg
    have hbk := back_ok v u' w' s J 0 ins out 0 h2 h3 (by omega)
    have hsk := skipH v u' w' s i 0 ins out h1 (by omega)
    rw [← hJ] at hsk
    by_cases hge : s.length ≤ J
    · rw [if_pos hge, furS_zero h2] at h6
      have hfin : AlEnd s (allF (s.length + 1) s 0 [0] []) v (.ret (.tup [])) (spH v u' (w' + (ins.length - stay ins 0)) s J 0 (ins.take (stay ins 0)) (out ++ List.replicate (ins.length - stay ins 0) (tokOut J))) := by
        rw [← h6]; exact ⟨_, _, _, _, _, rfl, rfl⟩
      by_cases hlt : i < s.length
      · refine pa [.b true, .c (.tup []) (spH v u' w' s J 0 ins out), .b false, .b false, .b true, .c (.tup []) (spH v u' (w' + (ins.length - stay ins 0)) s J 0 (ins.take (stay ins 0)) (out ++ List.replicate (ins.length - stay ins 0) (tokOut J)))] rfl ?_ ?_
        · (repeat' with_reducible apply AllP_cons) <;> first | exact trivial | assumption | omega | rfl | exact decide_eq_true (by omega) | exact decide_eq_false (by omega) | (rw [IntWalk.i64_in _ ⟨by omega, by omega⟩]; omega) | exact allOne_mem rfl | exact Nat.le_of_ble_eq_true rfl | (simp only [List.length_cons, List.length_nil]; omega) | skip
        exact S_nil ⟨_, _, rfl, trivial, hfin⟩
      · have : J = i := by rw [hJ]; exact gapC_end (by omega)
        subst this
        refine pa [.b false, .c (.tup []) (spH v u' (w' + (ins.length - stay ins 0)) s J 0 (ins.take (stay ins 0)) (out ++ List.replicate (ins.length - stay ins 0) (tokOut J)))] rfl ?_ ?_
        · (repeat' with_reducible apply AllP_cons) <;> first | exact trivial | assumption | omega | rfl | exact decide_eq_true (by omega) | exact decide_eq_false (by omega) | (rw [IntWalk.i64_in _ ⟨by omega, by omega⟩]; omega) | exact allOne_mem rfl | exact Nat.le_of_ble_eq_true rfl | (simp only [List.length_cons, List.length_nil]; omega) | skip
        exact S_nil ⟨_, _, rfl, trivial, hfin⟩
    · have hJl : J < s.length := by omega
      have hgc : (((s.getD ((J : Nat) : Int).toNat 0).toNat : Nat) : Int) = ((s[J].toNat : Nat) : Int) := by rw [Int.toNat_natCast, getD_byte hJl]
      have hs0 : s[J]? = some s[J] := List.getElem?_eq_getElem hJl
      have hj2 : (0 : Int) ≤ ((J : Nat) : Int) ∧ ((J : Nat) : Int) < ((s.length : Nat) : Int) := by omega
      rw [if_neg hge, hs0] at h6
      by_cases hc : s[J] = 10
      · rw [if_pos (by rw [hc])] at h6
        have he : ((((s.getD ((J : Nat) : Int).toNat 0).toNat : Nat) : Int) == 10) = true := by rw [hgc, hc]; rfl
        have hwj : IntKind.i64.wrap ((J : Nat) + 1) = ((J + 1 : Nat) : Int) := by rw [IntWalk.i64_in _ ⟨by omega, by omega⟩]; omega
        refine pa [.b true, .c (.tup []) (spH v u' w' s J 0 ins out), .b true, .b true] rfl ?_ ?_
        · (repeat' with_reducible apply AllP_cons) <;> first | exact trivial | assumption | omega | rfl | exact decide_eq_true (by omega) | exact decide_eq_false (by omega) | (rw [IntWalk.i64_in _ ⟨by omega, by omega⟩]; omega) | exact allOne_mem rfl | exact Nat.le_of_ble_eq_true rfl | (simp only [List.length_cons, List.length_nil]; omega) | skip
        refine S_round ⟨f, J + 1, u', w', ins, out⟩ (by show s.length - (J + 1) < s.length - i; omega) ⟨hJl, h2, h3, by show out.length + ins.length ≤ 4 * (J + 1) + 1; omega, by show s.length - (J + 1) < f; omega, h6⟩ (.cons rfl (.nil _)) ?_
        show spA v u' w' s (IntKind.i64.wrap ((J : Nat) + 1)) 0 ins out = _
        rw [hwj]; rfl
      · rw [if_neg (by simpa using hc)] at h6
        have he : ((((s.getD ((J : Nat) : Int).toNat 0).toNat : Nat) : Int) == 10) = false := by rw [hgc]; exact beq_false_of_ne (fun h => hc (UInt8.toNat_inj.1 (by show s[J].toNat = 10; omega)))
        have hgE : J = gapE s i := by
          rcases gapC_or (s := s) (i := i) (by rw [← hJ]; exact hJl) with h | h
          · exact absurd (by simpa [← hJ] using h) hc
          · rw [hJ]; exact h
        have hwn : IntKind.i64.wrap (((J : Nat) : Int) - ((i : Nat) : Int)) = ((gapE s i - i : Nat) : Int) := by rw [IntWalk.i64_in _ ⟨by omega, by omega⟩]; omega
        refine pa [.b true, .c (.tup []) (spH v u' w' s J 0 ins out), .b true, .b false, .b false] rfl ?_ ?_
        · (repeat' with_reducible apply AllP_cons) <;> first | exact trivial | assumption | omega | rfl | exact decide_eq_true (by omega) | exact decide_eq_false (by omega) | (rw [IntWalk.i64_in _ ⟨by omega, by omega⟩]; omega) | exact allOne_mem rfl | exact Nat.le_of_ble_eq_true rfl | (simp only [List.length_cons, List.length_nil]; omega) | skip
        refine S_calle rfl rfl rfl (args := [.ptr 0 v 0, .int .i64 (gapE s i - i : Nat)]) (by rw [← hwn]; rfl) (begin_ok v u' w' s J 0 ins out (gapE s i - i) h2 h3 (by omega)) (fun r σ' h => ?_) (fun r σ' h => ?_)
        · obtain rfl := h.ret
          unfold begS at h
          cases hx : furS (gapE s i - i) J ins with
          | inl e => rw [hx] at h; cases h.1
          | inr q =>
            obtain ⟨ins', l⟩ := q
            rw [hx] at h h6
            obtain ⟨u2, w2, _, rfl⟩ := h
            obtain ⟨k1, k2, k3, k4⟩ := furS_ok h2 h3 hx
            simp only at h6
            refine pa [] rfl trivial ?_
            refine S_call rfl rfl rfl (line_ok v u2 w2 s J 0 ins' (out ++ l) (by omega) hs (by decide) (by simp; omega)) (fun r σ' h => ?_) (fun r σ' h => ?_)
            · obtain rfl := h.ret
              unfold lnS at h
              cases hy : lineF (s.length + 1) s J 0 (out ++ l) with
              | inl e => rw [hy] at h; cases h.1
              | inr q =>
                obtain ⟨k, out2⟩ := q
                rw [hy] at h h6
                obtain ⟨u3, w3, _, rfl⟩ := h
                have hb := lineF_le _ (by omega) hy
                have hb4 := hb.2.2.2 hJl
                rw [List.length_append] at hb
                refine pa [] rfl trivial ?_
                exact S_round ⟨f, k, u3, w3, ins', out2⟩ (by show s.length - k < s.length - i; omega) ⟨hb.2.1, k1, k2, by show out2.length + ins'.length ≤ 4 * k + 1; omega, by show s.length - k < f; omega, h6⟩ (.cons rfl (.nil _)) rfl
            · unfold lnS at h
              cases hy : lineF (s.length + 1) s J 0 (out ++ l) with
              | inl e =>
                rw [hy] at h h6
                rw [← h6]; exact h
              | inr q => rw [hy] at h; obtain ⟨_, _, h, _⟩ := h; cases h
        · unfold begS at h
          cases hx : furS (gapE s i - i) J ins with
          | inl e =>
            rw [hx] at h h6
            rw [← h6]; exact h
          | inr q => rw [hx] at h; obtain ⟨_, _, h, _⟩ := h; cases h

end Go.Proofs.YtkgmbnjdeokdkaaDoor
