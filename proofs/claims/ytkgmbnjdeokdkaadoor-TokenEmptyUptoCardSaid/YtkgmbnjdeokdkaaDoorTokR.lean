/-
  The reference's SourceTokens.
-/
import Derived.Test.YtkgmbnjdeokdkaaDoorTokQ
import Derived.Test.YtkgmbnjdeokdkaaDoorTokN
set_option linter.unusedVariables false
set_option linter.unusedSimpArgs false
set_option maxRecDepth 20000
namespace Go.Proofs.YtkgmbnjdeokdkaaDoor
open Go Go.Ab

theorem lineF_err : ∀ (f : Nat) {s : List UInt8} {i o : Nat} {out : List Tok} {e : Flt}, s.length - i < f → i ≤ s.length → lineF f s i o out = .inl e → 0 < e.1
  | 0, s, i, o, out, e, hf, hi, h => by omega
  | f + 1, s, i, o, out, e, hf, hi, h => by
    rw [lineF] at h
    split at h
    · rename_i hc
      split at h
      · have hg := gapC_le (s := s) (i := i + 1) (by omega)
        exact lineF_err f (by omega) hg.2 h
      · split at h
        · rename_i hx
          cases h; exact (oneS_err hx).1
        · rename_i t j o' hx
          have hb := oneS_le hc.1 hx
          have hg := gapC_le (s := s) (i := j) (by omega)
          exact lineF_err f (by omega) hg.2 h
    · split at h
      · cases h; simp
      · cases h

theorem allF_err : ∀ (f : Nat) {s : List UInt8} {i : Nat} {ins : List Nat} {out : List Tok} {e : Flt}, s.length - i < f → i ≤ s.length → allF f s i ins out = .inl e → 0 < e.1
  | 0, s, i, ins, out, e, hf, hi, h => by omega
  | f + 1, s, i, ins, out, e, hf, hi, h => by
    rw [allF] at h
    have hg := gapC_le hi
    split at h
    · split at h
      · rename_i hx; cases h; exact (furS_err hx).1
      · cases h
    · rename_i hlt
      split at h
      · exact allF_err f (by omega) (by omega) h
      · rename_i hc
        split at h
        · rename_i hx; cases h; exact (furS_err hx).1
        · split at h
          · rename_i hy
            cases h; exact lineF_err _ (by omega) hg.2 hy
          · rename_i hy
            have hb := lineF_le _ hg.2 hy
            have := hb.2.2.2 (by omega)
            exact allF_err f (by omega) hb.2.1 h

theorem SourceTokens_ok (s : List UInt8) : Calc cx 8 [.str s] (splitAV (splitS s)) :=
  pure_intro (fun a w => Tryd.call8 a w) Tryd.func8 rfl Tryd.ntmps8 rfl (splitAV_free _) fun B => by
    unfold splitS
    by_cases hb : 6000 < s.length
    · rw [if_pos hb]
      refine pa [.b true] rfl ?_ ?_
      · (repeat' with_reducible apply AllP_cons) <;> first | exact trivial | assumption | omega | rfl | exact decide_eq_true (by omega) | exact decide_eq_false (by omega) | (rw [IntWalk.i64_in _ ⟨by omega, by omega⟩]; omega) | exact allOne_mem rfl | exact Nat.le_of_ble_eq_true rfl | (simp only [List.length_cons, List.length_nil]; omega) | skip
      refine S_ret ⟨_, _, rfl, ⟨rfl, trivial⟩, _, rfl, ?_⟩
      exact Fzs.tup (.cons .nils (.cons (.refl (flt_free (2, 0))) .nil))
    · rw [if_neg hb]
      refine ab 1000 rfl trivial ?_
      refine S_cond rfl (fun h => absurd (of_decide_eq_true h) (by omega)) (fun _ => ?_)
      refine go (M := [11]) 5 rfl trivial ?_
      refine S_unfull (t := 11) rfl ⟨.skip, _, .inr ⟨_, _, _, rfl⟩⟩ ?_
      refine pa [] rfl ?_ ?_
      · (repeat' with_reducible apply AllP_cons) <;> first | exact trivial | assumption | omega | rfl | exact decide_eq_true (by omega) | exact decide_eq_false (by omega) | (rw [IntWalk.i64_in _ ⟨by omega, by omega⟩]; omega) | exact allOne_mem rfl | exact Nat.le_of_ble_eq_true rfl | (simp only [List.length_cons, List.length_nil]; omega) | skip
      refine S_heap [xf (0, 0), insB 0 [0], (0, some (.cells [.str s, .int .i64 0, .int .i64 0, .ms 1 0 0 1 1 false, .nils] ⟨false, some 44⟩))] rfl ?_
      refine S_ghost (id := 2) (j := 4) 4 ⟨false, none⟩ rfl rfl rfl (Nat.ne_of_lt (lble rfl)) ⟨.skip, _, .inr ⟨_, _, _, rfl⟩⟩ ?_
      refine S_callf [2, 1, 3] (rall_ok 0 0 0 s (by omega)) rfl (.cons (.ptr rfl) (.nil _)) (Part.mk' (es := [(0, some (.cells [.str s, .int .i64 0, .int .i64 0, .ms 1 0 0 1 1 false, .ms 3 0 0 0 4 false] ⟨false, some 44⟩)), insB 0 [0], outB 0 []]) rfl rfl
        (.cons (.live (.cells (.cons (.free .str) (.cons (.free .int) (.cons (.free .int) (.cons (.ms rfl) (.cons (.ms rfl) (.nil _)))))))) (.cons (.live (.cells (.free (ints_free [0])))) (.cons (.live (.cells (.nil _))) (.nil _))))) rfl rfl ?_ ?_
      rotate_left
      · intro y σ1 h
        cases hx : allF (s.length + 1) s 0 [0] [] with
        | inl e => rw [hx] at h; cases h.1
        | inr l => rw [hx] at h; obtain ⟨_, _, _, _, _, h1, _⟩ := h; cases h1
      intro y σ1 h
      cases hx : allF (s.length + 1) s 0 [0] [] with
      | inl e =>
        rw [hx] at h
        obtain ⟨h1, u, w, o, ins, out, rfl⟩ := h
        cases h1
        refine ⟨.int .i64 (e.1 : Nat), [(0, some (.cells [.str s, .int .i64 e.2, .int .i64 o, .ms 1 u 0 ins.length 1 false, .ms 3 w 0 out.length 4 false] ⟨false, some 44⟩)), insB u ins, outB w out],
          .cons (.live (.cells (.cons (.free .str) (.cons (.free .int) (.cons (.free .int) (.cons (.ms rfl) (.cons (.ms rfl) (.nil _)))))))) (.cons (.live (.cells (.free (ints_free ins)))) (.cons (.live (.cells (.free (tok_cells_free out)))) (.nil _))), .free .int, ?_⟩
        refine pa [.b true] rfl ?_ ?_
        · (repeat' with_reducible apply AllP_cons) <;> first | exact trivial | assumption | omega | rfl | exact decide_eq_true (by omega) | exact decide_eq_false (by omega) | (rw [IntWalk.i64_in _ ⟨by omega, by omega⟩]; omega) | exact allOne_mem rfl | exact Nat.le_of_ble_eq_true rfl | (simp only [List.length_cons, List.length_nil]; omega) | skip
          exact bne_iff_ne.2 (by have := allF_err _ (by omega) (Nat.zero_le _) hx; omega)
        refine S_ret ⟨_, _, rfl, ⟨rfl, trivial⟩, _, rfl, ?_⟩
        exact Fzs.tup (.cons .nils (.cons (.refl (flt_free e)) .nil))
      | inr l =>
        rw [hx] at h
        obtain ⟨u, w, i, o, ins, h1, rfl⟩ := h
        cases h1
        refine ⟨.int .i64 0, [(0, some (.cells [.str s, .int .i64 i, .int .i64 o, .ms 1 u 0 ins.length 1 false, .ms 3 w 0 l.length 4 false] ⟨false, some 44⟩)), insB u ins, outB w l],
          .cons (.live (.cells (.cons (.free .str) (.cons (.free .int) (.cons (.free .int) (.cons (.ms rfl) (.cons (.ms rfl) (.nil _)))))))) (.cons (.live (.cells (.free (ints_free ins)))) (.cons (.live (.cells (.free (tok_cells_free l)))) (.nil _))), .free .int, ?_⟩
        refine pa [.b false] rfl ?_ ?_
        · (repeat' with_reducible apply AllP_cons) <;> first | exact trivial | assumption | omega | rfl | exact decide_eq_true (by omega) | exact decide_eq_false (by omega) | (rw [IntWalk.i64_in _ ⟨by omega, by omega⟩]; omega) | exact allOne_mem rfl | exact Nat.le_of_ble_eq_true rfl | (simp only [List.length_cons, List.length_nil]; omega) | skip
        refine S_ret ⟨_, _, rfl, ⟨rfl, trivial⟩, _, rfl, ?_⟩
        refine Fzs.tup (.cons ?_ (.cons (.refl (flt_free (0, 0))) .nil))
        refine .ms rfl (by rw [tokC_len]; omega) ?_ ?_ (by simp) (toks_free l)
        · rw [toks_cells, List.drop_zero, List.take_of_length_le (by rw [tokC_len]; omega)]
        · intro x hx; obtain ⟨t, _, rfl⟩ := List.mem_map.1 hx; rfl

end Go.Proofs.YtkgmbnjdeokdkaaDoor
