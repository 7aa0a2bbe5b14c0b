/-
  The splitter: a token more; the panic. (Under way.)
-/
import Derived.Test.YtkgmbnjdeokdkaaDoorTokB
import Derived.Test.YtkgmbnjdeokdkaaDoorAbThree
set_option linter.unusedVariables false
set_option linter.unusedSimpArgs false
set_option maxRecDepth 20000
namespace Go.Proofs.YtkgmbnjdeokdkaaDoor
open Go Go.Ab

def tokC (t : Tok) : List AV := [.int .i64 t.kind, .str t.text, .int .i64 t.num, .int .i64 t.place]
def outB (u : Nat) (l : List Tok) : Nat × Option Box := (u, some (.cells (l.flatMap tokC) ⟨false, none⟩))

theorem tokC_len (l : List Tok) : (l.flatMap tokC).length = l.length * 4 := by
  induction l with
  | nil => rfl
  | cons t r ih => rw [List.flatMap_cons, List.length_append, ih, List.length_cons]; show 4 + r.length * 4 = _; omega

theorem put_ok (v a u : Nat) (xa : Box) (s : List UInt8) (i o : Nat) (ins : AV) (l : List Tok) (k : Nat) (t : List UInt8) (p : Nat) (hl : l.length ≤ 1000000) :
    CallOk cx 26 [.ptr 0 v 0, .int .i64 k, .str t, .int .i64 p] [spB v s i o ins (.ms 2 u 0 l.length 4 false), (a, some xa), outB u l]
      (fun r σ => r = .ret (.tup []) ∧ σ = [spB v s i o ins (.ms 2 (u + 1) 0 (l.length + 1) 4 false), (a, some xa), outB (u + 1) (l ++ [⟨k, t, 0, p⟩])]) :=
  callOk_intro (fun a w => Tryd.call26 a w) Tryd.func26 rfl Tryd.ntmps26 rfl fun B => by
    have hL := tokC_len l
    have tk : tokC ⟨k, t, 0, p⟩ = [.int .i64 k, .str t, .int .i64 ((0 : Nat) : Int), .int .i64 p] := rfl
    refine ab 1000 rfl ⟨Nat.le_of_ble_eq_true rfl, rfl, ?_, ?_, ?_, rfl, rfl, allOne_mem (cs := [.int .i64 k, .str t, .int .i64 0, .int .i64 p]) rfl, allOne_mem (cs := [.int .i64 k, .str t, .int .i64 0, .int .i64 p]) rfl, rfl, rfl, trivial⟩ ?_
    · show l.length + 1 ≤ 9223372036854775807; omega
    · show (l.length + 1) * 40 ≤ 140737488355328; omega
    · show 0 + l.length * 4 = (l.flatMap tokC).length; omega
    refine S_nil ⟨_, _, rfl, trivial, rfl, ?_⟩
    show [spB v s i o ins (.ms 2 (u + 1) 0 (l.length + 1) 4 false), (a, some xa), (u + 1, some (Box.cells (l.flatMap tokC ++ [.int .i64 k, .str t, .int .i64 0, .int .i64 p]) ⟨false, none⟩))] = _
    rw [outB, List.flatMap_append]
    rfl

theorem fail_ok (τ : Heap) (v : Nat) (x : Int) (p : Int) : CallOk cx 25 [.ptr 0 v 0, .int .i64 x, .int .i64 p] τ (fun r σ' => r = .panic (.iface 25 (.agg [.int .i64 x, .int .i64 p])) ∧ σ' = τ) :=
  callOk_intro (fun a w => Tryd.call25 a w) Tryd.func25 rfl Tryd.ntmps25 rfl fun B => by
    refine pa [] rfl ?_ ?_
    · (repeat' with_reducible apply AllP_cons) <;> first | exact trivial | assumption | omega | rfl | exact decide_eq_true (by omega) | exact decide_eq_false (by omega) | (rw [IntWalk.i64_in _ ⟨by omega, by omega⟩]; omega) | exact allOne_mem rfl | exact Nat.le_of_ble_eq_true rfl | (simp only [List.length_cons, List.length_nil]; omega) | skip
    exact S_panic rfl rfl rfl ⟨rfl, rfl⟩

/-- A run of bytes of which a function of the program says yes. -/
theorem run_ok (F : FuncId) (P : UInt8 → Bool) (hF : ∀ c : UInt8, Calc cx F [.int .u8 (c.toNat : Nat)] (.bool (P c))) (v a b : Nat) (xa xb : Box) (s : List UInt8) (i o : Nat) (ins out : AV) (hi : i ≤ s.length) (hs : s.length ≤ 1048576) :
    CallOk cx 36 [.ptr 0 v 0, .func (.func F) [] []] [spB v s i o ins out, (a, some xa), (b, some xb)]
      (fun r σ => r = .ret (.str ((s.take (stopAt P s i)).drop i)) ∧ σ = [spB v s (stopAt P s i) o ins out, (a, some xa), (b, some xb)]) :=
  callOk_intro (fun a w => Tryd.call36 a w) Tryd.func36 rfl Tryd.ntmps36 rfl fun B => by
    refine ab 1000 rfl ⟨rfl, trivial⟩ ?_
    refine S_while (α := Nat) (fun j => [(0, .ptr 0 v 0), (1, .func (.func F) [] []), (5, .int .i64 (i : Nat))]) (fun j => [spB v s j o ins out, (a, some xa), (b, some xb)]) (fun j => i ≤ j ∧ j ≤ s.length ∧ stopAt P s j = stopAt P s i) (fun j => s.length - j) i
      ⟨Nat.le_refl _, hi, rfl⟩ (.cons rfl (.cons rfl (.cons rfl (.nil _)))) rfl ?_
    rintro j ⟨hij, hj, hN⟩
    have hj : j ≤ s.length := hj
    refine ab 1000 rfl trivial ?_
    by_cases hlt : j < s.length
    · have c1 : (0 : Int) ≤ ((j : Nat) : Int) ∧ ((j : Nat) : Int) < ((s.length : Nat) : Int) := by omega
      have hgc : (((s.getD ((j : Nat) : Int).toNat 0).toNat : Nat) : Int) = ((s[j].toNat : Nat) : Int) := by rw [Int.toNat_natCast, getD_byte hlt]
      refine S_drawV 10 22 [20] [.bool true, .bool (P s[j])] rfl rfl rfl rfl ⟨rfl, rfl, rfl, rfl, rfl, rfl, rfl, rfl, rfl, rfl, rfl, rfl, rfl, congrArg AV.bool (decide_eq_true (by omega)), rfl, rfl, rfl, rfl, rfl, rfl, rfl, rfl, rfl, rfl, rfl, rfl, c1.1, c1.2, ⟨_, hF s[j], .cons (by show Frz false _ (.int .u8 (((s.getD ((j : Nat) : Int).toNat 0).toNat : Nat) : Int)) _; rw [hgc]; exact .refl .int) (.nil _)⟩, trivial⟩ ?_
      refine ab 1000 rfl trivial ?_
      refine S_cond rfl (fun hb => ?_) (fun hb => ?_)
      · refine ab 1000 rfl ⟨Nat.le_of_ble_eq_true rfl, rfl, rfl, trivial⟩ ?_
        refine S_round (j + 1) (by show s.length - (j + 1) < s.length - j; omega) ⟨by omega, hlt, by rw [← hN, stopAt_yes hlt hb]⟩ (.cons rfl (.cons rfl (.cons rfl (.nil _)))) ?_
        show [(v, some (Box.cells [.str s, .int .i64 (IntKind.i64.wrap (((j : Nat) : Int) + 1)), .int .i64 o, ins, out] _)), _, _] = _
        rw [show AV.int .i64 (IntKind.i64.wrap (((j : Nat) : Int) + 1)) = .int .i64 ((j + 1 : Nat) : Int) from ai64 rfl (by omega)]; rfl
      · have hst : stopAt P s i = j := by rw [← hN, stopAt_no hlt hb]
        rw [hst]
        refine ab 1000 rfl trivial ?_
        refine S_draw 10 [] [] rfl rfl rfl rfl ⟨rfl, rfl, rfl, rfl, rfl, rfl, rfl, rfl, rfl, rfl, rfl, rfl, by omega, by omega, by omega, trivial⟩ ?_
        refine ab 1000 rfl trivial ?_
        refine S_ret ⟨_, _, rfl, trivial, ?_, rfl⟩
        show Out.ret (.str ((s.take ((j : Nat) : Int).toNat).drop ((i : Nat) : Int).toNat)) = _
        rw [Int.toNat_natCast, Int.toNat_natCast]
    · refine S_drawV 10 22 [20] [.bool false] rfl rfl rfl rfl ⟨rfl, rfl, rfl, rfl, rfl, rfl, rfl, rfl, rfl, rfl, rfl, rfl, rfl, congrArg AV.bool (decide_eq_false (by omega)), trivial⟩ ?_
      refine ab 1000 rfl trivial ?_
      refine S_cond (b := false) rfl (fun h => by cases h) (fun _ => ?_)
      have hst : stopAt P s i = j := by rw [← hN, stopAt_end (by omega)]
      rw [hst]
      refine ab 1000 rfl trivial ?_
      refine S_draw 10 [] [] rfl rfl rfl rfl ⟨rfl, rfl, rfl, rfl, rfl, rfl, rfl, rfl, rfl, rfl, rfl, rfl, by omega, by omega, by omega, trivial⟩ ?_
      refine ab 1000 rfl trivial ?_
      refine S_ret ⟨_, _, rfl, trivial, ?_, rfl⟩
      show Out.ret (.str ((s.take ((j : Nat) : Int).toNat).drop ((i : Nat) : Int).toNat)) = _
      rw [Int.toNat_natCast, Int.toNat_natCast]

end Go.Proofs.YtkgmbnjdeokdkaaDoor
