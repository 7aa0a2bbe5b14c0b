/-
  Signs: the program.
-/
import Derived.Test.YtkgmbnjdeokdkaaDoorTokH
import Derived.Test.YtkgmbnjdeokdkaaDoorAbThree
set_option linter.unusedVariables false
set_option linter.unusedSimpArgs false
set_option maxRecDepth 20000
namespace Go.Proofs.YtkgmbnjdeokdkaaDoor
open Go Go.Ab

/-- Where something holds first, or -1. -/
def firstF (l : List (List UInt8)) (P : List UInt8 → Bool) : Int := match l.findIdx? P with | some i => i | none => -1

theorem IndexFunc_ok {st fl : Bool} {σ : Heap} (F : FuncId) (caps : List AV) (P : List UInt8 → Bool) (l : List (List UInt8)) (hl : l.length ≤ 1000000) (hF : ∀ x, CallOk cx F (.str x :: caps) σ (fun e s => e = .ret (.bool (P x)) ∧ s = σ)) :
    CallOk cx 47 [.sl st fl 1 (texts l), .func (.func F) [] caps] σ (fun e s => e = .ret (.int .i64 (firstF l P)) ∧ s = σ) :=
  callOk_intro (fun a w => Tryd.call47 a w) Tryd.func47 rfl Tryd.ntmps47 rfl fun B => by
    have htl := texts_len l
    refine pa [] rfl ?_ ?_
    · (repeat' with_reducible apply AllP_cons) <;> first | exact trivial | assumption | omega | rfl | exact decide_eq_true (by omega) | exact decide_eq_false (by omega) | (rw [IntWalk.i64_in _ ⟨by omega, by omega⟩]; omega) | exact allOne_mem rfl | exact Nat.le_of_ble_eq_true rfl | (simp only [List.length_cons, List.length_nil]; omega) | skip
    refine S_while (α := Nat) (fun i => [(0, .sl st fl 1 (texts l)), (1, .func (.func F) [] caps), (7, .int .i64 (l.length : Nat)), (8, .int .i64 (i : Nat))]) (fun _ => σ) (fun i => i ≤ l.length ∧ ∀ x ∈ l.take i, P x = false) (fun i => l.length - i) 0
      ⟨Nat.zero_le _, by simp⟩ (.cons rfl (.cons rfl (.cons (by show AV.int .i64 ((texts l).length : Nat) = _; rw [htl]) (.cons rfl (.nil _))))) rfl ?_
    rintro i ⟨hi, hN⟩
    have hi : i ≤ l.length := hi
    by_cases hlt : i < l.length
    · have e1 : (texts l)[((i : Nat) : Int).toNat]? = some (.str l[i]) := texts_get hlt
      cases hp : P l[i] with
      | true =>
        refine pa [.b true, .v (.str l[i]), .k (.bool true), .b true] rfl ?_ ?_
        · (repeat' with_reducible apply AllP_cons) <;> first | exact trivial | assumption | omega | rfl | exact decide_eq_true (by omega) | exact decide_eq_false (by omega) | (rw [IntWalk.i64_in _ ⟨by omega, by omega⟩]; omega) | exact allOne_mem rfl | exact Nat.le_of_ble_eq_true rfl | (simp only [List.length_cons, List.length_nil]; omega) | skip
          have := hF l[i]; rw [hp] at this; exact this
        refine S_ret ⟨_, _, rfl, trivial, ?_, rfl⟩
        have : l.findIdx? P = some i := List.findIdx?_eq_some_iff_getElem.2 ⟨hlt, hp, fun j hj => by
          rw [hN _ (List.mem_take_iff_getElem.2 ⟨j, by omega, rfl⟩)]; decide⟩
        rw [firstF, this]; rfl
      | false =>
        refine pa [.b true, .v (.str l[i]), .k (.bool false), .b false] rfl ?_ ?_
        · (repeat' with_reducible apply AllP_cons) <;> first | exact trivial | assumption | omega | rfl | exact decide_eq_true (by omega) | exact decide_eq_false (by omega) | (rw [IntWalk.i64_in _ ⟨by omega, by omega⟩]; omega) | exact allOne_mem rfl | exact Nat.le_of_ble_eq_true rfl | (simp only [List.length_cons, List.length_nil]; omega) | skip
          have := hF l[i]; rw [hp] at this; exact this
        refine S_round (i + 1) (by show l.length - (i + 1) < l.length - i; omega) ⟨hlt, fun x hm => ?_⟩ (.cons rfl (.cons rfl (.cons rfl (.cons (ai64 rfl (by omega)) (.nil _))))) rfl
        rw [List.take_succ_eq_append_getElem hlt] at hm
        rcases List.mem_append.1 hm with hm | hm
        · exact hN x hm
        · simp at hm; rw [hm]; exact hp
    · obtain rfl : i = l.length := by omega
      rw [List.take_length] at hN
      refine pa [.b false] rfl ?_ ?_
      · (repeat' with_reducible apply AllP_cons) <;> first | exact trivial | assumption | omega | rfl | exact decide_eq_true (by omega) | exact decide_eq_false (by omega) | (rw [IntWalk.i64_in _ ⟨by omega, by omega⟩]; omega) | exact allOne_mem rfl | exact Nat.le_of_ble_eq_true rfl | (simp only [List.length_cons, List.length_nil]; omega) | skip
      refine S_ret ⟨_, _, rfl, trivial, ?_, rfl⟩
      have : l.findIdx? P = none := List.findIdx?_eq_none_iff.2 (fun x hx => by rw [hN x hx])
      rw [firstF, this]; rfl

/-- The splitter's heap, with the place where a closure finds it. -/
def spS (v u w q : Nat) (s : List UInt8) (i o : Nat) (ins : List Nat) (out : List Tok) : Heap := [spB v s i o (insV u ins) (outV w out), insB u ins, outB w out, (q, some (.cells [.ptr 0 v 0] ⟨false, none⟩))]

def spSI (v u w q : Nat) (s : List UInt8) (i o : Int) (ins : List Nat) (out : List Tok) : Heap := [(v, some (.cells [.str s, .int .i64 i, .int .i64 o, insV u ins, outV w out] ⟨false, some 41⟩)), insB u ins, outB w out, (q, some (.cells [.ptr 0 v 0] ⟨false, none⟩))]

theorem signF_ok (v u w q : Nat) (s : List UInt8) (i o : Nat) (ins : List Nat) (out : List Tok) (x : List UInt8) (hi : i ≤ s.length) :
    CallOk cx 48 [.str x, .ptr 3 q 0] (spS v u w q s i o ins out) (fun e σ => e = .ret (.bool (x.isPrefixOf (s.drop i))) ∧ σ = spS v u w q s i o ins out) :=
  callOk_intro (fun a w => Tryd.call48 a w) Tryd.func48 rfl Tryd.ntmps48 rfl fun B => by
    refine pa [.v (.bool (x.isPrefixOf (s.drop i)))] rfl ?_ ?_
    · (repeat' with_reducible apply AllP_cons) <;> first | exact trivial | assumption | omega | rfl | exact decide_eq_true (by omega) | exact decide_eq_false (by omega) | (rw [IntWalk.i64_in _ ⟨by omega, by omega⟩]; omega) | exact allOne_mem rfl | exact Nat.le_of_ble_eq_true rfl | (simp only [List.length_cons, List.length_nil]; omega) | skip
      exact ⟨_, HasPrefix_ok (s.drop i) x, .cons (.refl .str) (.cons (.refl .str) (.nil _))⟩
    exact S_ret ⟨_, _, rfl, trivial, rfl, rfl⟩

theorem firstF_find {l : List (List UInt8)} {P : List UInt8 → Bool} : (l.find? P = none ∧ firstF l P = -1) ∨ ∃ (i : Nat) (h : i < l.length), l.find? P = some l[i] ∧ firstF l P = i := by
  cases hf : l.findIdx? P with
  | none =>
    left
    refine ⟨?_, by rw [firstF, hf]⟩
    rw [List.findIdx?_eq_none_iff] at hf
    exact List.find?_eq_none.2 (fun x hx => by rw [hf x hx]; decide)
  | some i =>
    right
    obtain ⟨h1, h2, h3⟩ := List.findIdx?_eq_some_iff_getElem.1 hf
    refine ⟨i, h1, ?_, by rw [firstF, hf]⟩
    rw [List.find?_eq_some_iff_getElem]
    exact ⟨h2, i, h1, rfl, fun j hj => by simpa using h3 j hj⟩

def sgnS (s : List UInt8) (i o : Nat) : Flt ⊕ (Tok × Nat × Nat) := match signAt s i with
  | none => .inl (1, i)
  | some t =>
    if t ∈ opens then (if 30 ≤ o then .inl (2, i) else .inr (⟨4, t, 0, i⟩, i + t.length, o + 1))
    else if t ∈ closes then (if o = 0 then .inl (1, i) else .inr (⟨4, t, 0, i⟩, i + t.length, o - 1))
    else .inr (⟨4, t, 0, i⟩, i + t.length, o)

/-- A token more. -/
def endS (x : Flt ⊕ (Tok × Nat × Nat)) (ins : List Nat) (out : List Tok) : Flt ⊕ (Nat × Nat × List Nat × List Tok) := match x with
  | .inl e => .inl e
  | .inr (t, j, o) => .inr (j, o, ins, out ++ [t])

theorem opens_eq : opens = ([40, 91, 123] : List UInt8).map ([·]) := rfl
theorem closes_eq : closes = ([41, 93, 125] : List UInt8).map ([·]) := rfl

theorem spH_rn (v u w : Nat) (s : List UInt8) (i o : Nat) (ins : List Nat) (out : List Tok) : RnH (List.range 3) (spH v u w s i o ins out) (spH v u w s i o ins out) := by
  have ht : ∀ x ∈ out.flatMap tokC, Free false x := by
    intro x hx
    obtain ⟨t, _, ht⟩ := List.mem_flatMap.1 hx
    simp only [tokC, List.mem_cons, List.not_mem_nil, or_false] at ht
    rcases ht with rfl | rfl | rfl | rfl
    · exact .int
    · exact .str
    · exact .int
    · exact .int
  exact .cons (.live (.cells (.cons (.free .str) (.cons (.free .int) (.cons (.free .int) (.cons (.ms rfl) (.cons (.ms rfl) (.nil _)))))))) (.cons (.live (.cells (.free (ints_free ins)))) (.cons (.live (.cells (.free ht))) (.nil _)))

theorem spH_low (v u w : Nat) (s : List UInt8) (i o : Nat) (ins : List Nat) (out : List Tok) (τ : Heap) : LowH 3 (spH v u w s i o ins out ++ τ) := by
  refine .of fun e he x hx => ?_
  have he : e ∈ spH v u w s i o ins out := he
  simp only [spH, List.mem_cons, List.not_mem_nil, or_false] at he
  rcases he with rfl | rfl | rfl
  · cases hx
    refine .cells fun y hy => ?_
    simp only [List.mem_cons, List.not_mem_nil, or_false] at hy
    rcases hy with rfl | rfl | rfl | rfl | rfl
    · exact .str
    · exact .int
    · exact .int
    · exact .ms (by decide)
    · exact .ms (by decide)
  · cases hx
    exact .cells fun y hy => Low.free (ints_free (st := false) ins y hy)
  · cases hx
    refine .cells fun y hy => ?_
    obtain ⟨t, _, ht⟩ := List.mem_flatMap.1 hy
    simp only [tokC, List.mem_cons, List.not_mem_nil, or_false] at ht
    rcases ht with rfl | rfl | rfl | rfl
    · exact .int
    · exact .str
    · exact .int
    · exact .int

theorem sign_ok (v u w : Nat) (s : List UInt8) (i o : Nat) (ins : List Nat) (out : List Tok) (hi : i < s.length) (hs : s.length ≤ 1048576) (ho : o ≤ 1000) (hl : out.length ≤ 900000) :
    CallOk cx 41 [.ptr 0 v 0] (spH v u w s i o ins out) (SpEnd s (endS (sgnS s i o) ins out) v) :=
  callOk_introT (fun a w => Tryd.call41 a w) Tryd.func41 rfl Tryd.ntmps41 rfl fun B => by
    have hx := IndexFunc_ok (st := true) (fl := false) 48 [.ptr 3 0 0] (fun x => x.isPrefixOf (s.drop i)) signs18 (by decide) (fun x => signF_ok v u w 0 s i o ins out x (by omega))
    have put4 : ∀ (j o' : Nat) (t : List UInt8), CallOk cx 26 [.ptr 0 v 0, .int .i64 (4 : Nat), .str t, .int .i64 j] (spS v u w 0 s j o' ins out) (fun e σ => e = .ret (.tup []) ∧ σ = spS v u (w + 1) 0 s j o' ins (out ++ [⟨4, t, 0, j⟩])) := fun j o' t =>
      (putH v u w s j o' ins out 4 t j (by omega)).pre1 3 [(0, some (.cells [.ptr 0 v 0] ⟨false, none⟩))] rfl rfl (.cons (.ptr rfl) (.free (by intro x hx; simp at hx; rcases hx with rfl | rfl | rfl; exact .int; exact .str; exact .int))) (spH_rn ..) (spH_rn ..) (.free (.tup (by simp)))
    have lowF : ∀ e : Flt, Low 3 (flt e) := fun e => .iface (.agg (by intro x hx; simp at hx; rcases hx with rfl | rfl; exact .int; exact .int))
    have lowT : FzT 3 (spS v u w 0 s i o ins out) (.tup []) (.tup []) := .low (.tup (by simp))
    unfold sgnS signAt
    rcases firstF_find (l := signs18) (P := fun x => x.isPrefixOf (s.drop i)) with ⟨h1, h2⟩ | ⟨j, hj, h1, h2⟩
    · rw [h1]
      rw [h2] at hx
      refine pa [.k (.int .i64 (-1)), .b true] rfl ?_ ?_
      · (repeat' with_reducible apply AllP_cons) <;> first | exact trivial | assumption | omega | rfl | exact decide_eq_true (by omega) | exact decide_eq_false (by omega) | (rw [IntWalk.i64_in _ ⟨by omega, by omega⟩]; omega) | exact allOne_mem rfl | exact Nat.le_of_ble_eq_true rfl | (simp only [List.length_cons, List.length_nil]; omega) | skip
      exact S_callP rfl rfl rfl (fail_ok _ v 1 i) ⟨3, Nat.le_refl _, spH_low v u w s i o ins out [(0, some (.cells [.ptr 0 v 0] ⟨false, none⟩))], lowF (1, i), rfl, v, u, w, i, o, ins, out, rfl⟩
    · rw [h1]
      rw [h2] at hx
      obtain ⟨t, ht⟩ : ∃ t, t = signs18[j] := ⟨_, rfl⟩
      rw [← ht]
      have htm : t ∈ signs18 := by rw [ht]; exact List.getElem_mem hj
      have hget : (signs18.map AV.str)[((j : Nat) : Int).toNat]? = some (.str t) := by rw [Int.toNat_natCast, ht]; simp [hj]
      have htl : 1 ≤ t.length ∧ t.length ≤ 2 := (by decide : ∀ g ∈ signs18, 1 ≤ g.length ∧ g.length ≤ 2) t htm
      have cO := Contains_ok [40, 91, 123] t rfl (fun h => by obtain ⟨c, d, h1, h2, h3⟩ := two_none t htm h; exact ⟨c, d, h1, h2⟩) (one_or_two t htm)
      have cC := Contains_ok [41, 93, 125] t rfl (fun h => by obtain ⟨c, d, h1, h2, h3⟩ := two_none t htm h; exact ⟨c, d, h1, h3⟩) (one_or_two t htm)
      rw [← opens_eq] at cO
      rw [← closes_eq] at cC
      have hfr : Frzs (spS v u w 0 s i o ins out) [.str [40, 91, 123], .str t] [.str [40, 91, 123], .str t] := .cons (.refl .str) (.cons (.refl .str) (.nil _))
      have hfr2 : Frzs (spS v u w 0 s i o ins out) [.str [41, 93, 125], .str t] [.str [41, 93, 125], .str t] := .cons (.refl .str) (.cons (.refl .str) (.nil _))
      have hw1 : IntKind.i64.wrap ((o : Nat) + 1) = ((o + 1 : Nat) : Int) := by rw [IntWalk.i64_in _ ⟨by omega, by omega⟩]; omega
      have hwm : IntKind.i64.wrap ((o : Nat) - 1) = (o : Int) - 1 := by rw [IntWalk.i64_in _ ⟨by omega, by omega⟩]
      have hwt : IntKind.i64.wrap ((i : Nat) + (t.length : Nat)) = ((i + t.length : Nat) : Int) := by
        have : i ≤ s.length := by omega
        rw [IntWalk.i64_in _ ⟨by omega, by omega⟩]; omega
      have hlow : ∀ o : Int, LowH 3 (spSI v u w 0 s i o ins out) := fun o => by
        have h := spH_low v u w s i 0 ins out [(0, some (.cells [.ptr 0 v 0] ⟨false, none⟩))]
        intro id ver x hid hx
        match id, hid with
        | 0, _ =>
          cases hx
          refine .cells fun y hy => ?_
          simp only [List.mem_cons, List.not_mem_nil, or_false] at hy
          rcases hy with rfl | rfl | rfl | rfl | rfl
          · exact .str
          · exact .int
          · exact .int
          · exact .ms (by decide)
          · exact .ms (by decide)
        | 1, _ => exact h 1 ver x (by decide) hx
        | 2, _ => exact h 2 ver x (by decide) hx
      by_cases ho1 : t ∈ opens
      · simp only [ho1, if_true]
        rw [decide_eq_true ho1] at cO
        by_cases ho2 : 30 ≤ o
        · simp only [ho2, if_true]
          refine pa [.k (.int .i64 j), .b false, .v (.str t), .v (.bool true), .b true, .b true] rfl ?_ ?_
          · (repeat' with_reducible apply AllP_cons) <;> first | exact trivial | assumption | omega | rfl | exact decide_eq_true (by omega) | exact decide_eq_false (by omega) | (rw [IntWalk.i64_in _ ⟨by omega, by omega⟩]; omega) | exact allOne_mem rfl | exact Nat.le_of_ble_eq_true rfl | (simp only [List.length_cons, List.length_nil]; omega) | skip
            · exact ⟨_, cO, hfr⟩
          exact S_callP rfl rfl rfl (fail_ok _ v 2 i) ⟨3, Nat.le_refl _, hlow _, lowF (2, i), rfl, v, u, w, i, _, ins, out, rfl⟩
        · simp only [ho2, if_false]
          refine pa [.k (.int .i64 j), .b false, .v (.str t), .v (.bool true), .b true, .b false] rfl ?_ ?_
          · (repeat' with_reducible apply AllP_cons) <;> first | exact trivial | assumption | omega | rfl | exact decide_eq_true (by omega) | exact decide_eq_false (by omega) | (rw [IntWalk.i64_in _ ⟨by omega, by omega⟩]; omega) | exact allOne_mem rfl | exact Nat.le_of_ble_eq_true rfl | (simp only [List.length_cons, List.length_nil]; omega) | skip
            · exact ⟨_, cO, hfr⟩
          refine S_heap (spS v u w 0 s i (o + 1) ins out) ?_ ?_
          · show spSI v u w 0 s i (IntKind.i64.wrap ((o : Nat) + 1)) ins out = _
            rw [hw1]; rfl
          refine pa [.c (.tup []) (spS v u (w + 1) 0 s i (o + 1) ins (out ++ [⟨4, t, 0, i⟩]))] rfl ?_ ?_
          · (repeat' with_reducible apply AllP_cons) <;> first | exact trivial | assumption | omega | rfl | exact decide_eq_true (by omega) | exact decide_eq_false (by omega) | (rw [IntWalk.i64_in _ ⟨by omega, by omega⟩]; omega) | exact allOne_mem rfl | exact Nat.le_of_ble_eq_true rfl | (simp only [List.length_cons, List.length_nil]; omega) | skip
            exact put4 i (o + 1) t
          refine S_heap (spS v u (w + 1) 0 s (i + t.length) (o + 1) ins (out ++ [⟨4, t, 0, i⟩])) ?_ ?_
          · show spSI v u (w + 1) 0 s (IntKind.i64.wrap ((i : Nat) + (t.length : Nat))) ((o + 1) : Nat) ins _ = _
            rw [hwt]; rfl
          exact S_nil ⟨_, _, rfl, trivial, 3, Nat.le_refl _, spH_low v u (w + 1) s (i + t.length) (o + 1) ins _ [(0, some (.cells [.ptr 0 v 0] ⟨false, none⟩))], .tup [], .low (.tup (by simp)), u, w + 1, rfl, rfl⟩
      · simp only [ho1, if_false]
        rw [decide_eq_false ho1] at cO
        by_cases hc1 : t ∈ closes
        · simp only [hc1, if_true]
          rw [decide_eq_true hc1] at cC
          by_cases hc2 : o = 0
          · rw [if_pos hc2]
            refine pa [.k (.int .i64 j), .b false, .v (.str t), .v (.bool false), .b false, .v (.bool true), .b true, .b true] rfl ?_ ?_
            · (repeat' with_reducible apply AllP_cons) <;> first | exact trivial | assumption | omega | rfl | exact decide_eq_true (by omega) | exact decide_eq_false (by omega) | (rw [IntWalk.i64_in _ ⟨by omega, by omega⟩]; omega) | exact allOne_mem rfl | exact Nat.le_of_ble_eq_true rfl | (simp only [List.length_cons, List.length_nil]; omega) | skip
              · exact ⟨_, cO, hfr⟩
              · exact ⟨_, cC, hfr2⟩
            exact S_callP rfl rfl rfl (fail_ok _ v 1 i) ⟨3, Nat.le_refl _, hlow _, lowF (1, i), rfl, v, u, w, i, _, ins, out, rfl⟩
          · rw [if_neg hc2]
            refine pa [.k (.int .i64 j), .b false, .v (.str t), .v (.bool false), .b false, .v (.bool true), .b true, .b false] rfl ?_ ?_
            · (repeat' with_reducible apply AllP_cons) <;> first | exact trivial | assumption | omega | rfl | exact decide_eq_true (by omega) | exact decide_eq_false (by omega) | (rw [IntWalk.i64_in _ ⟨by omega, by omega⟩]; omega) | exact allOne_mem rfl | exact Nat.le_of_ble_eq_true rfl | (simp only [List.length_cons, List.length_nil]; omega) | skip
              · exact ⟨_, cO, hfr⟩
              · exact ⟨_, cC, hfr2⟩
            refine S_heap (spS v u w 0 s i (o - 1) ins out) ?_ ?_
            · show spSI v u w 0 s i (IntKind.i64.wrap ((o : Nat) - 1)) ins out = _
              rw [hwm, show ((o : Int) - 1) = ((o - 1 : Nat) : Int) by omega]; rfl
            refine pa [.c (.tup []) (spS v u (w + 1) 0 s i (o - 1) ins (out ++ [⟨4, t, 0, i⟩]))] rfl ?_ ?_
            · (repeat' with_reducible apply AllP_cons) <;> first | exact trivial | assumption | omega | rfl | exact decide_eq_true (by omega) | exact decide_eq_false (by omega) | (rw [IntWalk.i64_in _ ⟨by omega, by omega⟩]; omega) | exact allOne_mem rfl | exact Nat.le_of_ble_eq_true rfl | (simp only [List.length_cons, List.length_nil]; omega) | skip
              exact put4 i (o - 1) t
            refine S_heap (spS v u (w + 1) 0 s (i + t.length) (o - 1) ins (out ++ [⟨4, t, 0, i⟩])) ?_ ?_
            · show spSI v u (w + 1) 0 s (IntKind.i64.wrap ((i : Nat) + (t.length : Nat))) ((o - 1) : Nat) ins _ = _
              rw [hwt]; rfl
            exact S_nil ⟨_, _, rfl, trivial, 3, Nat.le_refl _, spH_low v u (w + 1) s (i + t.length) (o - 1) ins _ [(0, some (.cells [.ptr 0 v 0] ⟨false, none⟩))], .tup [], .low (.tup (by simp)), u, w + 1, rfl, rfl⟩
        · simp only [hc1, if_false]
          rw [decide_eq_false hc1] at cC
          refine pa [.k (.int .i64 j), .b false, .v (.str t), .v (.bool false), .b false, .v (.bool false), .b false] rfl ?_ ?_
          · (repeat' with_reducible apply AllP_cons) <;> first | exact trivial | assumption | omega | rfl | exact decide_eq_true (by omega) | exact decide_eq_false (by omega) | (rw [IntWalk.i64_in _ ⟨by omega, by omega⟩]; omega) | exact allOne_mem rfl | exact Nat.le_of_ble_eq_true rfl | (simp only [List.length_cons, List.length_nil]; omega) | skip
            · exact ⟨_, cO, hfr⟩
            · exact ⟨_, cC, hfr2⟩
          refine pa [.c (.tup []) (spS v u (w + 1) 0 s i o ins (out ++ [⟨4, t, 0, i⟩]))] rfl ?_ ?_
          · (repeat' with_reducible apply AllP_cons) <;> first | exact trivial | assumption | omega | rfl | exact decide_eq_true (by omega) | exact decide_eq_false (by omega) | (rw [IntWalk.i64_in _ ⟨by omega, by omega⟩]; omega) | exact allOne_mem rfl | exact Nat.le_of_ble_eq_true rfl | (simp only [List.length_cons, List.length_nil]; omega) | skip
            exact put4 i o t
          refine S_heap (spS v u (w + 1) 0 s (i + t.length) o ins (out ++ [⟨4, t, 0, i⟩])) ?_ ?_
          · show spSI v u (w + 1) 0 s (IntKind.i64.wrap ((i : Nat) + (t.length : Nat))) (o : Nat) ins _ = _
            rw [hwt]; rfl
          exact S_nil ⟨_, _, rfl, trivial, 3, Nat.le_refl _, spH_low v u (w + 1) s (i + t.length) o ins _ [(0, some (.cells [.ptr 0 v 0] ⟨false, none⟩))], .tup [], .low (.tup (by simp)), u, w + 1, rfl, rfl⟩

end Go.Proofs.YtkgmbnjdeokdkaaDoor
