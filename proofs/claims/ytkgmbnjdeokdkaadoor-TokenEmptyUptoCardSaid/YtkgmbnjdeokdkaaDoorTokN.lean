/-
  token.Split.
-/
import Derived.Test.YtkgmbnjdeokdkaaDoorTokM
import Derived.Test.YtkgmbnjdeokdkaaDoorAbThree
set_option linter.unusedVariables false
set_option linter.unusedSimpArgs false
set_option maxRecDepth 20000
namespace Go.Proofs.YtkgmbnjdeokdkaaDoor
open Go Go.Ab

def tokA (t : Tok) : AV := .agg (tokC t)
def fltA (e : Flt) : AV := .agg [.int .i64 (e.1 : Nat), .int .i64 (e.2 : Nat)]
def splitAV (x : List Tok × Flt) : AV := .tup [.sl true false 4 (x.1.map tokA), fltA x.2]

theorem tokC_free {st : Bool} (t : Tok) : ∀ x ∈ tokC t, Free st x := by
  intro x hx
  simp only [tokC, List.mem_cons, List.not_mem_nil, or_false] at hx
  rcases hx with rfl | rfl | rfl | rfl
  · exact .int
  · exact .str
  · exact .int
  · exact .int
theorem toks_free {st : Bool} (l : List Tok) : ∀ x ∈ l.map tokA, Free st x := by
  intro x hx; obtain ⟨t, _, rfl⟩ := List.mem_map.1 hx; exact .agg (tokC_free t)
theorem flt_free {st : Bool} (e : Flt) : Free st (fltA e) := .agg (by intro x hx; simp at hx; rcases hx with rfl | rfl; exact .int; exact .int)
theorem splitAV_free (x : List Tok × Flt) : Free true (splitAV x) := .tup (by intro y hy; simp at hy; rcases hy with rfl | rfl; exact .sl (fun _ => rfl) (toks_free _); exact flt_free _)

theorem toks_cells (l : List Tok) : (l.map tokA).flatMap AV.cells = l.flatMap tokC := by
  induction l with
  | nil => rfl
  | cons t r ih => rw [List.map_cons, List.flatMap_cons, List.flatMap_cons, ih]; rfl

theorem tok_cells_free {st : Bool} (l : List Tok) : ∀ x ∈ l.flatMap tokC, Free st x := by
  intro x hx
  obtain ⟨t, _, ht⟩ := List.mem_flatMap.1 hx
  exact tokC_free t x ht

/-- Where the answers lie. -/
def xo (x : AV) : Nat × Option Box := (0, some (.cells [x] ⟨false, none⟩))
def xf (e : Flt) : Nat × Option Box := (0, some (.cells [.int .i64 (e.1 : Nat), .int .i64 (e.2 : Nat)] ⟨false, some 25⟩))

theorem clos_ret (x : AV) (e : Flt) (a b c : Nat × Box) (R : Md → Heap → Prop) (h : ∀ y, R .ret [xo x, xf e, (a.1, some a.2), (b.1, some b.2), (c.1, some c.2), y]) :
    DCall cx (.func (.func 13) [] [.ptr 0 0 0, .ptr 1 0 0]) .ret [xo x, xf e, (a.1, some a.2), (b.1, some b.2), (c.1, some c.2)] R :=
  dcall_recover (fun a w => Tryd.call13 a w) Tryd.func13 rfl Tryd.ntmps13 rfl rfl rfl rfl rfl rfl rfl fun B => by
    refine pa [.b false] rfl ?_ ?_
    · (repeat' with_reducible apply AllP_cons) <;> first | exact trivial | assumption | omega | rfl | exact decide_eq_true (by omega) | exact decide_eq_false (by omega) | (rw [IntWalk.i64_in _ ⟨by omega, by omega⟩]; omega) | exact allOne_mem rfl | exact Nat.le_of_ble_eq_true rfl | (simp only [List.length_cons, List.length_nil]; omega) | skip
    exact S_nil ⟨_, _, rfl, trivial, _, rfl, h _⟩

theorem clos_pan (x : AV) (e g : Flt) (a b c : Nat × Box) (R : Md → Heap → Prop) (h : ∀ y, R (.pan (flt g) true) [xo .nils, xf g, (a.1, some a.2), (b.1, some b.2), (c.1, some c.2), y]) :
    DCall cx (.func (.func 13) [] [.ptr 0 0 0, .ptr 1 0 0]) (.pan (flt g) false) [xo x, xf e, (a.1, some a.2), (b.1, some b.2), (c.1, some c.2)] R :=
  dcall_recover (fun a w => Tryd.call13 a w) Tryd.func13 rfl Tryd.ntmps13 rfl rfl rfl rfl rfl rfl rfl fun B => by
    refine pa [.b true] rfl ?_ ?_
    · (repeat' with_reducible apply AllP_cons) <;> first | exact trivial | assumption | omega | rfl | exact decide_eq_true (by omega) | exact decide_eq_false (by omega) | (rw [IntWalk.i64_in _ ⟨by omega, by omega⟩]; omega) | exact allOne_mem rfl | exact Nat.le_of_ble_eq_true rfl | (simp only [List.length_cons, List.length_nil]; omega) | skip
    refine S_drawC [xo .nils, xf e, (a.1, some a.2), (b.1, some b.2), (c.1, some c.2), xf g] 1 2 [] [.tup []] rfl rfl rfl rfl rfl ⟨rfl, rfl, rfl, rfl, rfl, rfl, lble rfl, rfl, rfl, trivial⟩ ?_
    refine pa [] rfl ?_ ?_
    · (repeat' with_reducible apply AllP_cons) <;> first | exact trivial | assumption | omega | rfl | exact decide_eq_true (by omega) | exact decide_eq_false (by omega) | (rw [IntWalk.i64_in _ ⟨by omega, by omega⟩]; omega) | exact allOne_mem rfl | exact Nat.le_of_ble_eq_true rfl | (simp only [List.length_cons, List.length_nil]; omega) | skip
    exact S_nil ⟨_, _, rfl, trivial, _, rfl, h _⟩

theorem Split_ok (s : List UInt8) : Calc cx 7 [.str s] (splitAV (splitS s)) :=
  calc_of (splitAV_free _) (callOk_introD (fun a w => Tryd.call7 a w) Tryd.func7 rfl Tryd.ntmps7 rfl fun B hB => by
    unfold splitS
    by_cases hb : 6000 < s.length
    · rw [if_pos hb]
      refine pa [.b true] rfl ?_ ?_
      · (repeat' with_reducible apply AllP_cons) <;> first | exact trivial | assumption | omega | rfl | exact decide_eq_true (by omega) | exact decide_eq_false (by omega) | (rw [IntWalk.i64_in _ ⟨by omega, by omega⟩]; omega) | exact allOne_mem rfl | exact Nat.le_of_ble_eq_true rfl | (simp only [List.length_cons, List.length_nil]; omega) | skip
      refine S_ret ⟨_, rfl, _, _, rfl, ⟨rfl, rfl, trivial⟩, _, rfl, ?_⟩
      exact Fzs.tup (.cons .nils (.cons (.refl (flt_free (2, 0))) .nil))
    · rw [if_neg hb]
      refine pa [.b false] rfl ?_ ?_
      · (repeat' with_reducible apply AllP_cons) <;> first | exact trivial | assumption | omega | rfl | exact decide_eq_true (by omega) | exact decide_eq_false (by omega) | (rw [IntWalk.i64_in _ ⟨by omega, by omega⟩]; omega) | exact allOne_mem rfl | exact Nat.le_of_ble_eq_true rfl | (simp only [List.length_cons, List.length_nil]; omega) | skip
      refine S_defer rfl rfl rfl rfl hB ?_
      refine go (M := [11]) 5 rfl trivial ?_
      refine S_unfull (t := 11) rfl ⟨.skip, _, .inr ⟨_, _, _, rfl⟩⟩ ?_
      refine pa [] rfl ?_ ?_
      · (repeat' with_reducible apply AllP_cons) <;> first | exact trivial | assumption | omega | rfl | exact decide_eq_true (by omega) | exact decide_eq_false (by omega) | (rw [IntWalk.i64_in _ ⟨by omega, by omega⟩]; omega) | exact allOne_mem rfl | exact Nat.le_of_ble_eq_true rfl | (simp only [List.length_cons, List.length_nil]; omega) | skip
      refine S_heap [xo .nils, xf (0, 0), insB 0 [0], (0, some (.cells [.str s, .int .i64 0, .int .i64 0, .ms 2 0 0 1 1 false, .nils] ⟨false, some 41⟩))] rfl ?_
      refine S_ghost (id := 3) (j := 4) 4 ⟨false, none⟩ rfl rfl rfl (Nat.ne_of_lt (lble rfl)) ⟨.skip, _, .inr ⟨_, _, _, rfl⟩⟩ ?_
      refine S_callf [3, 2, 4] (all_ok 0 0 0 s (by omega)) rfl (.cons (.ptr rfl) (.nil _)) (Part.mk' (es := [(0, some (.cells [.str s, .int .i64 0, .int .i64 0, .ms 2 0 0 1 1 false, .ms 4 0 0 0 4 false] ⟨false, some 41⟩)), insB 0 [0], outB 0 []]) rfl rfl
        (.cons (.live (.cells (.cons (.free .str) (.cons (.free .int) (.cons (.free .int) (.cons (.ms rfl) (.cons (.ms rfl) (.nil _)))))))) (.cons (.live (.cells (.free (ints_free [0])))) (.cons (.live (.cells (.nil _))) (.nil _))))) rfl rfl ?_ ?_
      · intro y σ1 h
        cases hx : allF (s.length + 1) s 0 [0] [] with
        | inl e => rw [hx] at h; cases h.1
        | inr l =>
          rw [hx] at h
          obtain ⟨u, w, i, o, ins, h1, rfl⟩ := h
          cases h1
          refine ⟨.tup [], [(0, some (.cells [.str s, .int .i64 i, .int .i64 o, .ms 2 u 0 ins.length 1 false, .ms 4 w 0 l.length 4 false] ⟨false, some 41⟩)), insB u ins, outB w l],
            .cons (.live (.cells (.cons (.free .str) (.cons (.free .int) (.cons (.free .int) (.cons (.ms rfl) (.cons (.ms rfl) (.nil _)))))))) (.cons (.live (.cells (.free (ints_free ins)))) (.cons (.live (.cells (.free (tok_cells_free l)))) (.nil _))), .free (.tup (by simp)), ?_⟩
          refine pa [] rfl ?_ ?_
          · (repeat' with_reducible apply AllP_cons) <;> first | exact trivial | assumption | omega | rfl | exact decide_eq_true (by omega) | exact decide_eq_false (by omega) | (rw [IntWalk.i64_in _ ⟨by omega, by omega⟩]; omega) | exact allOne_mem rfl | exact Nat.le_of_ble_eq_true rfl | (simp only [List.length_cons, List.length_nil]; omega) | skip
          refine S_ret ⟨_, rfl, clos_ret (.ms 4 w 0 l.length 4 false) (0, 0) (u, .cells (ints ins) ⟨false, none⟩) (0, .cells [.str s, .int .i64 i, .int .i64 o, .ms 2 u 0 ins.length 1 false, .ms 4 w 0 l.length 4 false] ⟨false, some 41⟩) (w, .cells (l.flatMap tokC) ⟨false, none⟩) _ fun y => ?_⟩
          refine ⟨_, _, rfl, ⟨rfl, rfl, trivial⟩, _, rfl, Fzs.tup (.cons ?_ (.cons (.refl (flt_free (0, 0))) .nil))⟩
          refine .ms rfl (by rw [tokC_len]; omega) ?_ ?_ (by simp) (toks_free l)
          · rw [toks_cells, List.drop_zero, List.take_of_length_le (by rw [tokC_len]; omega)]
          · intro x hx; obtain ⟨t, _, rfl⟩ := List.mem_map.1 hx; rfl
      · intro y σ1 h
        cases hx : allF (s.length + 1) s 0 [0] [] with
        | inr l => rw [hx] at h; obtain ⟨_, _, _, _, _, h1, _⟩ := h; cases h1
        | inl e =>
          rw [hx] at h
          obtain ⟨h1, v, u, w, i, o, ins, out, rfl⟩ := h
          cases h1
          refine ⟨flt e, [(v, some (.cells [.str s, .int .i64 i, .int .i64 o, .ms 2 u 0 ins.length 1 false, .ms 4 w 0 out.length 4 false] ⟨false, some 41⟩)), insB u ins, outB w out],
            .cons (.live (.cells (.cons (.free .str) (.cons (.free .int) (.cons (.free .int) (.cons (.ms rfl) (.cons (.ms rfl) (.nil _)))))))) (.cons (.live (.cells (.free (ints_free ins)))) (.cons (.live (.cells (.free (tok_cells_free out)))) (.nil _))), .free (.iface (flt_free e)), ?_⟩
          refine ⟨_, rfl, clos_pan .nils (0, 0) e (u, .cells (ints ins) ⟨false, none⟩) (v, .cells [.str s, .int .i64 i, .int .i64 o, .ms 2 u 0 ins.length 1 false, .ms 4 w 0 out.length 4 false] ⟨false, some 41⟩) (w, .cells (out.flatMap tokC) ⟨false, none⟩) _ fun y => ?_⟩
          exact ⟨_, _, rfl, ⟨rfl, rfl, trivial⟩, _, rfl, Fzs.tup (.cons .nils (.cons (.refl (flt_free e)) .nil))⟩)

end Go.Proofs.YtkgmbnjdeokdkaaDoor
