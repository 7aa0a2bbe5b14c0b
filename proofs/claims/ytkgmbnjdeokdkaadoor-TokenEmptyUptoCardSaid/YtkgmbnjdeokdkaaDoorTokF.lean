/-
  Further in, and out: the program and the reference.
-/
import Derived.Test.YtkgmbnjdeokdkaaDoorTokE
import Derived.Test.YtkgmbnjdeokdkaaDoorTokS2
set_option linter.unusedVariables false
set_option linter.unusedSimpArgs false
set_option maxRecDepth 20000
namespace Go.Proofs.YtkgmbnjdeokdkaaDoor
open Go Go.Ab

def insB (u : Nat) (l : List Nat) : Nat × Option Box := (u, some (.cells (ints l) ⟨false, none⟩))
def insV (u : Nat) (l : List Nat) : AV := .ms 1 u 0 l.length 1 false
def outV (w : Nat) (l : List Tok) : AV := .ms 2 w 0 l.length 4 false
/-- The splitter's heap. -/
def spH (v u w : Nat) (s : List UInt8) (i o : Nat) (ins : List Nat) (out : List Tok) : Heap := [spB v s i o (insV u ins) (outV w out), insB u ins, outB w out]
def rsH (v u w : Nat) (s : List UInt8) (i o : Nat) (ins : List Nat) (out : List Tok) : Heap := [rsB v s i o (insV u ins) (outV w out), insB u ins, outB w out]

theorem ints_take (l : List Nat) (k : Nat) : (ints l).take k = ints (l.take k) := by simp [ints, List.map_take]
theorem ints_app (l : List Nat) (n : Nat) : ints l ++ [.int .i64 (n : Nat)] = ints (l ++ [n]) := by simp [ints]

theorem putH (v u w : Nat) (s : List UInt8) (i o : Nat) (ins : List Nat) (l : List Tok) (k : Nat) (t : List UInt8) (p : Nat) (hl : l.length ≤ 1000000) :
    CallOk cx 26 [.ptr 0 v 0, .int .i64 k, .str t, .int .i64 p] (spH v u w s i o ins l) (fun e σ => e = .ret (.tup []) ∧ σ = spH v u (w + 1) s i o ins (l ++ [⟨k, t, 0, p⟩])) := by
  refine (put_ok v u w (.cells (ints ins) ⟨false, none⟩) s i o (insV u ins) l k t p hl).mono fun e σ h => ⟨h.1, h.2.trans ?_⟩
  unfold spH outV insB
  rw [List.length_append]; rfl

theorem rputH (v u w : Nat) (s : List UInt8) (i o : Nat) (ins : List Nat) (l : List Tok) (k : Nat) (t : List UInt8) (p : Nat) (hl : l.length ≤ 1000000) :
    CallOk cx 24 [.ptr 0 v 0, .int .i64 k, .str t, .int .i64 p] (rsH v u w s i o ins l) (fun e σ => e = .ret (.tup []) ∧ σ = rsH v u (w + 1) s i o ins (l ++ [⟨k, t, 0, p⟩])) := by
  refine (rput_ok v u w (.cells (ints ins) ⟨false, none⟩) s i o (insV u ins) l k t p hl).mono fun e σ h => ⟨h.1, h.2.trans ?_⟩
  unfold rsH outV insB
  rw [List.length_append]; rfl

theorem putS (v u w : Nat) (s : List UInt8) (i o : Nat) (ins : List Nat) (l : List Tok) (σ : Heap) (hσ : σ = spH v u w s i o ins l) (k : Nat) (t : List UInt8) (p : Nat) (hl : l.length ≤ 1000000) :
    CallOk cx 26 [.ptr 0 v 0, .int .i64 k, .str t, .int .i64 p] σ (fun e σ => e = .ret (.tup []) ∧ σ = spH v u (w + 1) s i o ins (l ++ [⟨k, t, 0, p⟩])) := by
  rw [hσ]; exact putH v u w s i o ins l k t p hl

theorem insFz {σ : Heap} {u : Nat} {ins : List Nat} (h : boxAt σ 1 = some (u, ints ins, ⟨false, none⟩)) : Frz false σ (insV u ins) (.sl false false 1 (ints ins)) :=
  .ms1 h (ints_one ins) (ints_len ins) (ints_free ins)

/-- A fault, as it is thrown. -/
def flt (e : Flt) : AV := .iface 25 (.agg [.int .i64 (e.1 : Nat), .int .i64 (e.2 : Nat)])

theorem failH (v u w : Nat) (s : List UInt8) (i o : Nat) (ins : List Nat) (l : List Tok) (x p : Nat) : CallOk cx 25 [.ptr 0 v 0, .int .i64 x, .int .i64 p] (spH v u w s i o ins l) (fun e σ => e = .panic (flt (x, p)) ∧ σ = spH v u w s i o ins l) :=
  fail_ok _ v x p

theorem back_ok (v u w : Nat) (s : List UInt8) (i o : Nat) (ins : List Nat) (out : List Tok) (n : Nat) (hi : Insok ins) (hl : ins.length ≤ 31) (ho : out.length ≤ 900000) :
    CallOk cx 19 [.ptr 0 v 0, .int .i64 n] (spH v u w s i o ins out)
      (fun e σ => e = .ret (.tup []) ∧ σ = spH v u (w + (ins.length - stay ins n)) s i o (ins.take (stay ins n)) (out ++ List.replicate (ins.length - stay ins n) (tokOut i))) :=
  callOk_intro (fun a w => Tryd.call19 a w) Tryd.func19 rfl Tryd.ntmps19 rfl fun B => by
    have hp := stay_pos hi n
    have hk := stay_le ins n
    refine ab 1000 rfl trivial ?_
    refine S_while (α := Nat × List Nat) (fun _ => [(0, .ptr 0 v 0), (1, .int .i64 n)]) (fun (p, l) => spH v u (w + p) s i o l (out ++ List.replicate p (tokOut i))) (fun (p, l) => p ≤ ins.length - stay ins n ∧ l = ins.take (ins.length - p)) (fun (p, l) => ins.length - p) (0, ins)
      ⟨Nat.zero_le _, by simp⟩ (.cons rfl (.cons rfl (.nil _))) ?_ ?_
    · show _ = spH v u (w + 0) s i o ins (out ++ List.replicate 0 (tokOut i))
      simp
    rintro ⟨p, l⟩ ⟨h1, rfl⟩
    have h1 : p ≤ ins.length - stay ins n := h1
    have hlen : (ins.take (ins.length - p)).length = ins.length - p := by simp
    have hg : (ints (ins.take (ins.length - p)))[ins.length - p - 1]? = some (.int .i64 ((ins[ins.length - p - 1]'(by omega) : Nat))) := by
      rw [ints_get (by omega)]; simp
    by_cases hlt : p < ins.length - stay ins n
    · have hgt : n < ins[ins.length - p - 1]'(by omega) := stay_out hi n _ (by omega) (by omega)
      have hw : IntKind.i64.wrap (((ins.take (ins.length - p)).length : Nat) - 1) = ((ins.length - p - 1 : Nat) : Int) := by rw [IntWalk.i64_in _ ⟨by omega, by omega⟩]; omega
      refine pa [.v .top, .v (.int .i64 ((ins[ins.length - p - 1]'(by omega) : Nat))), .b true] rfl ?_ ?_
      · (repeat' with_reducible apply AllP_cons) <;> first | exact trivial | assumption | omega | rfl | exact decide_eq_true (by omega) | exact decide_eq_false (by omega) | (rw [IntWalk.i64_in _ ⟨by omega, by omega⟩]; omega) | exact allOne_mem rfl | exact Nat.le_of_ble_eq_true rfl | (simp only [List.length_cons, List.length_nil]; omega) | skip
        show (List.drop (IntKind.i64.wrap (((ins.take (ins.length - p)).length : Nat) - 1)).toNat (ints (ins.take (ins.length - p))))[0]? = _
        rw [hw, Int.toNat_natCast, List.getElem?_drop, Nat.add_zero]; exact hg
      refine S_cut (id := 1) (ins.length - p - 1) rfl ⟨.skip, _, .inr ⟨_, _, _, rfl⟩⟩ ?_
      refine S_heap (spH v u (w + p) s i o (ins.take (ins.length - (p + 1))) (out ++ List.replicate p (tokOut i))) ?_ ?_
      · have e1 : (ints (ins.take (ins.length - p))).take (ins.length - p - 1) = ints (ins.take (ins.length - (p + 1))) := by rw [ints_take, List.take_take]; congr 2; omega
        have e2 : ((IntKind.i64.wrap (((ins.take (ins.length - p)).length : Nat) - 1)).toNat - 0) = (ins.take (ins.length - (p + 1))).length := by rw [hw]; simp; omega
        show [spB v s i o (.ms 1 u 0 ((IntKind.i64.wrap (((ins.take (ins.length - p)).length : Nat) - 1)).toNat - 0) 1 false) _, (u, some (Box.cells ((ints (ins.take (ins.length - p))).take (ins.length - p - 1)) _)), _] = _
        rw [e1, e2]; rfl
      refine pa [.c (.tup []) (spH v u (w + p + 1) s i o (ins.take (ins.length - (p + 1))) (out ++ List.replicate p (tokOut i) ++ [tokOut i]))] rfl ?_ ?_
      · (repeat' with_reducible apply AllP_cons) <;> first | exact trivial | assumption | omega | rfl | exact decide_eq_true (by omega) | exact decide_eq_false (by omega) | (rw [IntWalk.i64_in _ ⟨by omega, by omega⟩]; omega) | exact allOne_mem rfl | exact Nat.le_of_ble_eq_true rfl | (simp only [List.length_cons, List.length_nil]; omega) | skip
        exact putH v u (w + p) s i o (ins.take (ins.length - (p + 1))) (out ++ List.replicate p (tokOut i)) 8 [] i (by simp; omega)
      refine S_round (p + 1, ins.take (ins.length - (p + 1))) (by show ins.length - (p + 1) < ins.length - p; omega) ⟨by show p + 1 ≤ ins.length - stay ins n; omega, rfl⟩ (.cons rfl (.cons rfl (.nil _))) ?_
      show spH v u (w + p + 1) s i o (ins.take (ins.length - (p + 1))) (out ++ List.replicate p (tokOut i) ++ [tokOut i]) = spH v u (w + (p + 1)) s i o _ (out ++ List.replicate (p + 1) (tokOut i))
      rw [List.replicate_succ', List.append_assoc]; rfl
    · obtain rfl : p = ins.length - stay ins n := by omega
      have e0 : ins.length - (ins.length - stay ins n) = stay ins n := by omega
      rw [e0]
      have hle : ins[stay ins n - 1]'(by omega) ≤ n := stay_in n ins _ (by omega) (by omega)
      have hlen : (ins.take (stay ins n)).length = stay ins n := by simp; omega
      have hw : IntKind.i64.wrap (((ins.take (stay ins n)).length : Nat) - 1) = ((stay ins n - 1 : Nat) : Int) := by rw [IntWalk.i64_in _ ⟨by omega, by omega⟩]; omega
      refine pa [.v .top, .v (.int .i64 ((ins[stay ins n - 1]'(by omega) : Nat))), .b false] rfl ?_ ?_
      · (repeat' with_reducible apply AllP_cons) <;> first | exact trivial | assumption | omega | rfl | exact decide_eq_true (by omega) | exact decide_eq_false (by omega) | (rw [IntWalk.i64_in _ ⟨by omega, by omega⟩]; omega) | exact allOne_mem rfl | exact Nat.le_of_ble_eq_true rfl | (simp only [List.length_cons, List.length_nil]; omega) | skip
        show (List.drop (IntKind.i64.wrap (((ins.take (stay ins n)).length : Nat) - 1)).toNat (ints (ins.take (stay ins n))))[0]? = _
        rw [hw, Int.toNat_natCast, List.getElem?_drop, Nat.add_zero, ints_get (by omega)]; simp
      exact S_nil ⟨_, _, rfl, trivial, rfl, rfl⟩

/-- The same, if one bracket too many may be shut. -/
def spHI (v u w : Nat) (s : List UInt8) (i : Nat) (o : Int) (ins : List Nat) (out : List Tok) : Heap := [(v, some (.cells [.str s, .int .i64 i, .int .i64 o, insV u ins, outV w out] ⟨false, some 41⟩)), insB u ins, outB w out]

/-- What a splitter's step comes to: a fault that is thrown, or the splitter's heap behind it. -/
def SpEnd (s : List UInt8) (x : Flt ⊕ (Nat × Nat × List Nat × List Tok)) (v : Nat) : Out → Heap → Prop := fun e σ => match x with
  | .inl x => e = .panic (flt x) ∧ ∃ v u w i o ins out, σ = spHI v u w s i o ins out
  | .inr (i, o, ins, out) => ∃ u w, e = .ret (.tup []) ∧ σ = spH v u w s i o ins out

def begS (n i o : Nat) (ins : List Nat) (out : List Tok) : Flt ⊕ (Nat × Nat × List Nat × List Tok) := match furS n i ins with
  | .inl x => .inl x
  | .inr (ins', l) => .inr (i, o, ins', out ++ l)

theorem begin_ok (v u w : Nat) (s : List UInt8) (i o : Nat) (ins : List Nat) (out : List Tok) (n : Nat) (hi : Insok ins) (hl : ins.length ≤ 31) (ho : out.length ≤ 900000) :
    CallOk cx 17 [.ptr 0 v 0, .int .i64 n] (spH v u w s i o ins out) (SpEnd s (begS n i o ins out) v) :=
  callOk_intro (fun a w => Tryd.call17 a w) Tryd.func17 rfl Tryd.ntmps17 rfl fun B => by
    have hpos := hi.pos
    have hw : IntKind.i64.wrap ((ins.length : Nat) - 1) = ((ins.length - 1 : Nat) : Int) := by rw [IntWalk.i64_in _ ⟨by omega, by omega⟩]; omega
    have hel : ins.getD (ins.length - 1) 0 = ins[ins.length - 1] := by simp [List.getD, List.getElem?_eq_getElem (show ins.length - 1 < ins.length by omega)]
    have hld : (List.drop (IntKind.i64.wrap ((ins.length : Nat) - 1)).toNat (ints ins))[0]? = some (.int .i64 (ins[ins.length - 1] : Nat)) := by
      rw [hw, Int.toNat_natCast, List.getElem?_drop, Nat.add_zero, ints_get (by omega)]
    unfold begS furS
    rw [hel]
    by_cases h1 : ins[ins.length - 1] < n
    · rw [if_pos h1]
      by_cases h2 : 30 < ins.length
      · rw [if_pos h2]
        refine pa [.v .top, .v (.int .i64 (ins[ins.length - 1] : Nat)), .b true, .b true] rfl ?_ ?_
        · (repeat' with_reducible apply AllP_cons) <;> first | exact trivial | assumption | omega | rfl | exact decide_eq_true (by omega) | exact decide_eq_false (by omega) | (rw [IntWalk.i64_in _ ⟨by omega, by omega⟩]; omega) | exact allOne_mem rfl | exact Nat.le_of_ble_eq_true rfl | (simp only [List.length_cons, List.length_nil]; omega) | skip
        exact S_callP rfl rfl rfl (failH v u w s i o ins out 2 i) ⟨rfl, v, u, w, i, o, ins, out, rfl⟩
      · rw [if_neg h2]
        refine pa [.v .top, .v (.int .i64 (ins[ins.length - 1] : Nat)), .b true, .b false] rfl ?_ ?_
        · (repeat' with_reducible apply AllP_cons) <;> first | exact trivial | assumption | omega | rfl | exact decide_eq_true (by omega) | exact decide_eq_false (by omega) | (rw [IntWalk.i64_in _ ⟨by omega, by omega⟩]; omega) | exact allOne_mem rfl | exact Nat.le_of_ble_eq_true rfl | (simp only [List.length_cons, List.length_nil]; omega) | skip
          · show 0 + ins.length * 1 = (ints ins).length; rw [ints_len]; omega
          · show (ins.length + 1) * 8 ≤ 140737488355328; omega
        refine pa [.c (.tup []) (spH v (u + 1) (w + 1) s i o (ins ++ [n]) (out ++ [tokIn i]))] rfl ?_ ?_
        · (repeat' with_reducible apply AllP_cons) <;> first | exact trivial | assumption | omega | rfl | exact decide_eq_true (by omega) | exact decide_eq_false (by omega) | (rw [IntWalk.i64_in _ ⟨by omega, by omega⟩]; omega) | exact allOne_mem rfl | exact Nat.le_of_ble_eq_true rfl | (simp only [List.length_cons, List.length_nil]; omega) | skip
          exact putS v (u + 1) w s i o (ins ++ [n]) out _ (by show [spB v s i o (.ms 1 (u + 1) 0 (ins.length + 1) 1 false) (outV w out), (u + 1, some (Box.cells (ints ins ++ [.int .i64 (n : Nat)]) ⟨false, none⟩)), outB w out] = spH v (u + 1) w s i o (ins ++ [n]) out; rw [ints_app, spH, insV, List.length_append]; rfl) 7 [] i (by omega)
        exact S_nil ⟨_, _, rfl, trivial, _, _, rfl, rfl⟩
    · rw [if_neg h1]
      by_cases h2 : n ∈ ins
      · rw [if_pos h2]
        refine pa [.v .top, .v (.int .i64 (ins[ins.length - 1] : Nat)), .b false, .v (.bool (decide (n ∈ ins))), .b false, .c (.tup []) (spH v u (w + (ins.length - stay ins n)) s i o (ins.take (stay ins n)) (out ++ List.replicate (ins.length - stay ins n) (tokOut i)))] rfl ?_ ?_
        · (repeat' with_reducible apply AllP_cons) <;> first | exact trivial | assumption | omega | rfl | exact decide_eq_true (by omega) | exact decide_eq_false (by omega) | (rw [IntWalk.i64_in _ ⟨by omega, by omega⟩]; omega) | exact allOne_mem rfl | exact Nat.le_of_ble_eq_true rfl | (simp only [List.length_cons, List.length_nil]; omega) | skip
          · exact ⟨_, ContainsI_ok ins n (by omega), .cons (insFz rfl) (.cons (.refl .int) (.nil _))⟩
          · rw [decide_eq_true h2]; rfl
          · exact back_ok v u w s i o ins out n hi hl ho
        exact S_nil ⟨_, _, rfl, trivial, _, _, rfl, rfl⟩
      · rw [if_neg h2]
        refine pa [.v .top, .v (.int .i64 (ins[ins.length - 1] : Nat)), .b false, .v (.bool (decide (n ∈ ins))), .b true] rfl ?_ ?_
        · (repeat' with_reducible apply AllP_cons) <;> first | exact trivial | assumption | omega | rfl | exact decide_eq_true (by omega) | exact decide_eq_false (by omega) | (rw [IntWalk.i64_in _ ⟨by omega, by omega⟩]; omega) | exact allOne_mem rfl | exact Nat.le_of_ble_eq_true rfl | (simp only [List.length_cons, List.length_nil]; omega) | skip
          · exact ⟨_, ContainsI_ok ins n (by omega), .cons (insFz rfl) (.cons (.refl .int) (.nil _))⟩
          · rw [decide_eq_false h2]; rfl
        exact S_callP rfl rfl rfl (failH v u w s i o ins out 4 i) ⟨rfl, v, u, w, i, o, ins, out, rfl⟩

end Go.Proofs.YtkgmbnjdeokdkaaDoor
