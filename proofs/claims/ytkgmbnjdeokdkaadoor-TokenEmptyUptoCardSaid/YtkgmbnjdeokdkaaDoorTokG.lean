/-
  Further in, and out: the reference.
-/
import Derived.Test.YtkgmbnjdeokdkaaDoorTokF
set_option linter.unusedVariables false
set_option linter.unusedSimpArgs false
set_option maxRecDepth 20000
namespace Go.Proofs.YtkgmbnjdeokdkaaDoor
open Go Go.Ab

/-- What a step of the reference's splitter comes to. -/
def RsEnd (s : List UInt8) (x : Flt ⊕ (Nat × Nat × List Nat × List Tok)) (v : Nat) : Out → Heap → Prop := fun e σ => match x with
  | .inl x => e = .ret (.int .i64 (x.1 : Nat)) ∧ ∃ u w o ins out, σ = rsH v u w s x.2 o ins out
  | .inr (i, o, ins, out) => ∃ u w, e = .ret (.int .i64 0) ∧ σ = rsH v u w s i o ins out

theorem rputS (v u w : Nat) (s : List UInt8) (i o : Nat) (ins : List Nat) (l : List Tok) (σ : Heap) (hσ : σ = rsH v u w s i o ins l) (k : Nat) (t : List UInt8) (p : Nat) (hl : l.length ≤ 1000000) :
    CallOk cx 24 [.ptr 0 v 0, .int .i64 k, .str t, .int .i64 p] σ (fun e σ => e = .ret (.tup []) ∧ σ = rsH v u (w + 1) s i o ins (l ++ [⟨k, t, 0, p⟩])) := by
  rw [hσ]; exact rputH v u w s i o ins l k t p hl

theorem further_ok (v u w : Nat) (s : List UInt8) (i o : Nat) (ins : List Nat) (out : List Tok) (n : Nat) (hi : Insok ins) (hl : ins.length ≤ 31) (ho : out.length ≤ 900000) :
    CallOk cx 21 [.ptr 0 v 0, .int .i64 n] (rsH v u w s i o ins out) (RsEnd s (begS n i o ins out) v) :=
  callOk_intro (fun a w => Tryd.call21 a w) Tryd.func21 rfl Tryd.ntmps21 rfl fun B => by
    have hpos := hi.pos
    have hp := stay_pos hi n
    have hk := stay_le ins n
    have hw : IntKind.i64.wrap ((ins.length : Nat) - 1) = ((ins.length - 1 : Nat) : Int) := by rw [IntWalk.i64_in _ ⟨by omega, by omega⟩]; omega
    have hel : ins.getD (ins.length - 1) 0 = ins[ins.length - 1] := by simp [List.getD, List.getElem?_eq_getElem (show ins.length - 1 < ins.length by omega)]
    have hld : (List.drop (IntKind.i64.wrap ((ins.length : Nat) - 1)).toNat (ints ins))[0]? = some (.int .i64 (ins[ins.length - 1] : Nat)) := by
      rw [hw, Int.toNat_natCast, List.getElem?_drop, Nat.add_zero, ints_get (by omega)]
    unfold begS furS
    rw [hel]
    by_cases h1 : ins[ins.length - 1] < n
    · rw [if_pos h1]
      by_cases h2 : 30 < ins.length
      · rw [if_pos h2]
        refine pa [.v .top, .v (.int .i64 (ins[ins.length - 1] : Nat)), .b true, .b true] rfl ?_ ?_
        · (repeat' with_reducible apply AllP_cons) <;> first | exact trivial | assumption | omega | rfl | exact decide_eq_true (by omega) | exact decide_eq_false (by omega) | (rw [IntWalk.i64_in _ ⟨by omega, by omega⟩]; omega) | exact allOne_mem rfl | exact Nat.le_of_ble_eq_true rfl | (simp only [List.length_cons, List.length_nil]; omega) | skip
        exact S_ret ⟨_, _, rfl, trivial, rfl, u, w, o, ins, out, rfl⟩
      · rw [if_neg h2]
        refine pa [.v .top, .v (.int .i64 (ins[ins.length - 1] : Nat)), .b true, .b false] rfl ?_ ?_
        · (repeat' with_reducible apply AllP_cons) <;> first | exact trivial | assumption | omega | rfl | exact decide_eq_true (by omega) | exact decide_eq_false (by omega) | (rw [IntWalk.i64_in _ ⟨by omega, by omega⟩]; omega) | exact allOne_mem rfl | exact Nat.le_of_ble_eq_true rfl | (simp only [List.length_cons, List.length_nil]; omega) | skip
          · show 0 + ins.length * 1 = (ints ins).length; rw [ints_len]; omega
          · show (ins.length + 1) * 8 ≤ 140737488355328; omega
        refine pa [.c (.tup []) (rsH v (u + 1) (w + 1) s i o (ins ++ [n]) (out ++ [tokIn i]))] rfl ?_ ?_
        · (repeat' with_reducible apply AllP_cons) <;> first | exact trivial | assumption | omega | rfl | exact decide_eq_true (by omega) | exact decide_eq_false (by omega) | (rw [IntWalk.i64_in _ ⟨by omega, by omega⟩]; omega) | exact allOne_mem rfl | exact Nat.le_of_ble_eq_true rfl | (simp only [List.length_cons, List.length_nil]; omega) | skip
          exact rputS v (u + 1) w s i o (ins ++ [n]) out _ (by show [rsB v s i o (.ms 1 (u + 1) 0 (ins.length + 1) 1 false) (outV w out), (u + 1, some (Box.cells (ints ins ++ [.int .i64 (n : Nat)]) ⟨false, none⟩)), outB w out] = rsH v (u + 1) w s i o (ins ++ [n]) out; rw [ints_app, rsH, insV, List.length_append]; rfl) 7 [] i (by omega)
        exact S_ret ⟨_, _, rfl, trivial, _, _, rfl, rfl⟩
    · rw [if_neg h1]
      refine pa [.v .top, .v (.int .i64 (ins[ins.length - 1] : Nat)), .b false] rfl ?_ ?_
      · (repeat' with_reducible apply AllP_cons) <;> first | exact trivial | assumption | omega | rfl | exact decide_eq_true (by omega) | exact decide_eq_false (by omega) | (rw [IntWalk.i64_in _ ⟨by omega, by omega⟩]; omega) | exact allOne_mem rfl | exact Nat.le_of_ble_eq_true rfl | (simp only [List.length_cons, List.length_nil]; omega) | skip
      refine S_while (α := Nat) (fun j => [(0, .ptr 0 v 0), (1, .int .i64 n), (5, .bool (decide (n ∈ ins.take j))), (6, .int .i64 j)]) (fun j => rsH v u w s i o ins out) (fun j => j ≤ ins.length) (fun j => ins.length - j) 0
        (Nat.zero_le _) (.cons rfl (.cons rfl (.cons rfl (.cons rfl (.nil _))))) rfl ?_
      rintro j hj
      have hj : j ≤ ins.length := hj
      by_cases hlt : j < ins.length
      · have htk : ins.take (j + 1) = ins.take j ++ [ins[j]] := List.take_succ_eq_append_getElem hlt
        by_cases hm : n ∈ ins.take j
        · refine pa [.b true, .b true] rfl ?_ ?_
          · (repeat' with_reducible apply AllP_cons) <;> first | exact trivial | assumption | omega | rfl | exact decide_eq_true (by omega) | exact decide_eq_false (by omega) | (rw [IntWalk.i64_in _ ⟨by omega, by omega⟩]; omega) | exact allOne_mem rfl | exact Nat.le_of_ble_eq_true rfl | (simp only [List.length_cons, List.length_nil]; omega) | skip
          refine S_round (j + 1) (by show ins.length - (j + 1) < ins.length - j; omega) hlt (.cons rfl (.cons rfl (.cons ?_ (.cons (ai64 rfl (by omega)) (.nil _))))) rfl
          show AV.bool true = .bool (decide (n ∈ ins.take (j + 1)))
          rw [decide_eq_true]; rw [htk]; exact List.mem_append_left _ hm
        · have hd : (List.drop j (ints ins))[0]? = some (.int .i64 (ins[j] : Nat)) := by rw [List.getElem?_drop, Nat.add_zero, ints_get hlt]
          refine pa [.b true, .b false, .v .top, .v (.int .i64 (ins[j] : Nat))] rfl ?_ ?_
          · (repeat' with_reducible apply AllP_cons) <;> first | exact trivial | assumption | omega | rfl | exact decide_eq_true (by omega) | exact decide_eq_false (by omega) | (rw [IntWalk.i64_in _ ⟨by omega, by omega⟩]; omega) | exact allOne_mem rfl | exact Nat.le_of_ble_eq_true rfl | (simp only [List.length_cons, List.length_nil]; omega) | skip
          refine S_round (j + 1) (by show ins.length - (j + 1) < ins.length - j; omega) hlt (.cons rfl (.cons rfl (.cons ?_ (.cons (ai64 rfl (by omega)) (.nil _))))) rfl
          show AV.bool (((ins[j] : Nat) : Int) == ((n : Nat) : Int)) = .bool (decide (n ∈ ins.take (j + 1)))
          congr 1
          rw [Bool.eq_iff_iff, beq_iff_eq, decide_eq_true_iff, htk, List.mem_append, List.mem_singleton]
          constructor
          · intro h; right; omega
          · rintro (h | h)
            · exact absurd h hm
            · rw [h]
      · obtain rfl : j = ins.length := by omega
        rw [List.take_length]
        by_cases h2 : n ∈ ins
        · rw [if_pos h2]
          have hlast := stay_last hi h2
          refine pa [.b false, .b false] rfl ?_ ?_
          · (repeat' with_reducible apply AllP_cons) <;> first | exact trivial | assumption | omega | rfl | exact decide_eq_true (by omega) | exact decide_eq_false (by omega) | (rw [IntWalk.i64_in _ ⟨by omega, by omega⟩]; omega) | exact allOne_mem rfl | exact Nat.le_of_ble_eq_true rfl | (simp only [List.length_cons, List.length_nil]; omega) | skip
            rw [decide_eq_true h2]; rfl
          refine S_while (α := Nat × List Nat) (fun _ => [(0, .ptr 0 v 0), (1, .int .i64 n)]) (fun (p, l) => rsH v u (w + p) s i o l (out ++ List.replicate p (tokOut i))) (fun (p, l) => p ≤ ins.length - stay ins n ∧ l = ins.take (ins.length - p)) (fun (p, l) => ins.length - p) (0, ins)
            ⟨Nat.zero_le _, by simp⟩ (.cons rfl (.cons rfl (.nil _))) ?_ ?_
          · show rsH v u w s i o ins out = rsH v u (w + 0) s i o ins (out ++ List.replicate 0 (tokOut i))
            simp
          rintro ⟨p, l⟩ ⟨h3, rfl⟩
          have h3 : p ≤ ins.length - stay ins n := h3
          have hlen : (ins.take (ins.length - p)).length = ins.length - p := by simp
          have hw : IntKind.i64.wrap (((ins.take (ins.length - p)).length : Nat) - 1) = ((ins.length - p - 1 : Nat) : Int) := by rw [IntWalk.i64_in _ ⟨by omega, by omega⟩]; omega
          have hdr : (List.drop (IntKind.i64.wrap (((ins.take (ins.length - p)).length : Nat) - 1)).toNat (ints (ins.take (ins.length - p))))[0]? = some (.int .i64 (ins[ins.length - p - 1]'(by omega) : Nat)) := by
            rw [hw, Int.toNat_natCast, List.getElem?_drop, Nat.add_zero, ints_get (by omega)]; simp
          by_cases hlt : p < ins.length - stay ins n
          · have hgt : n < ins[ins.length - p - 1]'(by omega) := stay_out hi n _ (by omega) (by omega)
            refine pa [.v .top, .v (.int .i64 ((ins[ins.length - p - 1]'(by omega) : Nat))), .b true] rfl ?_ ?_
            · (repeat' with_reducible apply AllP_cons) <;> first | exact trivial | assumption | omega | rfl | exact decide_eq_true (by omega) | exact decide_eq_false (by omega) | (rw [IntWalk.i64_in _ ⟨by omega, by omega⟩]; omega) | exact allOne_mem rfl | exact Nat.le_of_ble_eq_true rfl | (simp only [List.length_cons, List.length_nil]; omega) | skip
              exact bne_iff_ne.2 (by omega)
            refine S_cut (id := 1) (ins.length - p - 1) rfl ⟨.skip, _, .inr ⟨_, _, _, rfl⟩⟩ ?_
            refine S_heap (rsH v u (w + p) s i o (ins.take (ins.length - (p + 1))) (out ++ List.replicate p (tokOut i))) ?_ ?_
            · have e1 : (ints (ins.take (ins.length - p))).take (ins.length - p - 1) = ints (ins.take (ins.length - (p + 1))) := by rw [ints_take, List.take_take]; congr 2; omega
              have e2 : ((IntKind.i64.wrap (((ins.take (ins.length - p)).length : Nat) - 1)).toNat - 0) = (ins.take (ins.length - (p + 1))).length := by rw [hw]; simp; omega
              show [rsB v s i o (.ms 1 u 0 ((IntKind.i64.wrap (((ins.take (ins.length - p)).length : Nat) - 1)).toNat - 0) 1 false) _, (u, some (Box.cells ((ints (ins.take (ins.length - p))).take (ins.length - p - 1)) _)), _] = _
              rw [e1, e2]; rfl
            refine pa [.c (.tup []) (rsH v u (w + p + 1) s i o (ins.take (ins.length - (p + 1))) (out ++ List.replicate p (tokOut i) ++ [tokOut i]))] rfl ?_ ?_
            · (repeat' with_reducible apply AllP_cons) <;> first | exact trivial | assumption | omega | rfl | exact decide_eq_true (by omega) | exact decide_eq_false (by omega) | (rw [IntWalk.i64_in _ ⟨by omega, by omega⟩]; omega) | exact allOne_mem rfl | exact Nat.le_of_ble_eq_true rfl | (simp only [List.length_cons, List.length_nil]; omega) | skip
              exact rputH v u (w + p) s i o (ins.take (ins.length - (p + 1))) (out ++ List.replicate p (tokOut i)) 8 [] i (by simp; omega)
            refine S_round (p + 1, ins.take (ins.length - (p + 1))) (by show ins.length - (p + 1) < ins.length - p; omega) ⟨by show p + 1 ≤ ins.length - stay ins n; omega, rfl⟩ (.cons rfl (.cons rfl (.nil _))) ?_
            show rsH v u (w + p + 1) s i o (ins.take (ins.length - (p + 1))) (out ++ List.replicate p (tokOut i) ++ [tokOut i]) = rsH v u (w + (p + 1)) s i o _ (out ++ List.replicate (p + 1) (tokOut i))
            rw [List.replicate_succ', List.append_assoc]; rfl
          · obtain rfl : p = ins.length - stay ins n := by omega
            have e0 : ins.length - (ins.length - stay ins n) = stay ins n := by omega
            have hq : ins[ins.length - (ins.length - stay ins n) - 1]'(by omega) = n := (getElem_congr rfl (by omega) _).trans hlast
            refine pa [.v .top, .v (.int .i64 ((ins[ins.length - (ins.length - stay ins n) - 1]'(by omega) : Nat))), .b false] rfl ?_ ?_
            · (repeat' with_reducible apply AllP_cons) <;> first | exact trivial | assumption | omega | rfl | exact decide_eq_true (by omega) | exact decide_eq_false (by omega) | (rw [IntWalk.i64_in _ ⟨by omega, by omega⟩]; omega) | exact allOne_mem rfl | exact Nat.le_of_ble_eq_true rfl | (simp only [List.length_cons, List.length_nil]; omega) | skip
              rw [hq]; simp
            refine S_ret ⟨_, _, rfl, trivial, u, w + (ins.length - stay ins n), rfl, ?_⟩
            show rsH v u (w + (ins.length - stay ins n)) s i o (ins.take (ins.length - (ins.length - stay ins n))) _ = _
            rw [e0]
        · rw [if_neg h2]
          refine pa [.b false, .b true] rfl ?_ ?_
          · (repeat' with_reducible apply AllP_cons) <;> first | exact trivial | assumption | omega | rfl | exact decide_eq_true (by omega) | exact decide_eq_false (by omega) | (rw [IntWalk.i64_in _ ⟨by omega, by omega⟩]; omega) | exact allOne_mem rfl | exact Nat.le_of_ble_eq_true rfl | (simp only [List.length_cons, List.length_nil]; omega) | skip
            rw [decide_eq_false h2]; rfl
          exact S_ret ⟨_, _, rfl, trivial, rfl, u, w, o, ins, out, rfl⟩

end Go.Proofs.YtkgmbnjdeokdkaaDoor
