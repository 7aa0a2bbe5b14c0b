/-
  The methods of strings.Builder, at a builder that lies at the head of a box.
-/
import Derived.Test.YtkgmbnjdeokdkaaDoorBase
import Derived.Test.YtkgmbnjdeokdkaaDoorAbThree
set_option linter.unusedVariables false
set_option linter.unusedSimpArgs false
set_option maxRecDepth 20000
namespace Go.Proofs.YtkgmbnjdeokdkaaDoor
open Go Go.Ab

theorem noescape (v : Value) (w : World) : (callFunc 56 #[v]).run cx.P w = .ok (.value v) w := by
  show (callFunc 56 #[v]).run Tryd.prog w = _
  rw [run_callFunc_extern Tryd.func56 rfl rfl rfl (e := Extern.AbiNoEscape.same) rfl]
  rfl

/-- A type that begins with a builder. -/
structure HoldsB (T : TypeId) (n : Nat) : Prop where
  pos : 0 < cx.P.cellsOf T
  le : cx.P.cellsOf T ≤ n
  lies : ∀ k, liesAt cx.P cx.P.depth T (k + 1) 0 61 1 = true

/-- The box that holds a builder: its own address, its bytes, and what lies behind. -/
def bBox (T : TypeId) (a b : AV) (rest : List AV) : Box := .cells (a :: b :: rest) ⟨false, some T⟩
def byBox (bs : List UInt8) : Box := .cells (bs.map byteAV) ⟨false, some 5⟩

theorem copyCheck_ok {T : TypeId} {rest : List AV} (hT : HoldsB T (rest.length + 1 + 1)) (v : Nat) (a b : AV) (ha : a = .nilp ∨ a = .ptr 0 v 0) (y : Nat × Option Box) :
    CallOk cx 52 [.ptr 0 v 0] [(v, some (bBox T a b rest)), y] (fun o σ' => o = .ret (.tup []) ∧ σ' = [(v, some (bBox T (.ptr 0 v 0) b rest)), y]) :=
  callOk_intro (fun a w => Tryd.call52 a w) Tryd.func52 rfl Tryd.ntmps52 rfl fun B => by
    rcases ha with rfl | rfl
    · refine ab 1000 rfl ⟨rfl, trivial⟩ ?_
      refine S_cond rfl (fun _ => ?_) (fun h => ?_)
      · refine ab 1000 rfl trivial ?_
        refine S_toU rfl rfl rfl ⟨rfl, by simp, by decide, trivial⟩ ?_
        refine S_same noescape rfl rfl rfl ?_
        refine S_fromU rfl rfl rfl ⟨rfl, rfl, hT.pos, hT.le, hT.lies, trivial⟩ ?_
        refine ab 1000 rfl ⟨lble rfl, rfl, trivial⟩ ?_
        exact S_nil ⟨_, _, rfl, trivial, rfl, rfl⟩
      · cases h
    · refine ab 1000 rfl ⟨rfl, trivial⟩ ?_
      refine S_cond rfl (fun h => ?_) (fun _ => ?_)
      · cases h
      · refine ab 1000 rfl ⟨rfl, rfl, trivial⟩ ?_
        refine S_cond rfl (fun h => ?_) (fun _ => ?_)
        · cases h
        · refine ab 1000 rfl trivial ?_
          exact S_nil ⟨_, _, rfl, trivial, rfl, rfl⟩

theorem writeByte_ok {T : TypeId} {rest : List AV} (hT : HoldsB T (rest.length + 1 + 1)) (v u : Nat) (a : AV) (ha : a = .nilp ∨ a = .ptr 0 v 0) (bs : List UInt8) (c : UInt8) (hl : bs.length < 140737488355328) :
    CallOk cx 45 [.ptr 0 v 0, byteAV c] [(v, some (bBox T a (.ms 1 u 0 bs.length 1 false) rest)), (u, some (byBox bs))]
      (fun o σ' => o = .ret .nili ∧ σ' = [(v, some (bBox T (.ptr 0 v 0) (.ms 1 (u + 1) 0 (bs ++ [c]).length 1 false) rest)), (u + 1, some (byBox (bs ++ [c])))]) :=
  callOk_intro (fun a w => Tryd.call45 a w) Tryd.func45 rfl Tryd.ntmps45 rfl fun B => by
    refine ab 1000 rfl trivial ?_
    refine S_call rfl rfl rfl (copyCheck_ok hT v a _ ha _) ?_ (fun v σ' h => by cases h.1)
    rintro _ _ ⟨⟨⟩, rfl⟩
    refine ab 1000 rfl ⟨lble rfl, rfl, ?_, ?_, ?_, rfl, rfl, allOne_mem (cs := [byteAV c]) rfl, allOne_mem (cs := [byteAV c]) rfl, rfl, rfl, trivial⟩ ?_
    · show bs.length + 1 ≤ 9223372036854775807; omega
    · show (bs.length + 1) * 1 ≤ 140737488355328; omega
    · show 0 + bs.length * 1 = (bs.map byteAV).length; simp
    refine S_ret ⟨_, _, rfl, trivial, rfl, ?_⟩
    show [(v, some (Box.cells (_ :: .ms 1 (u + 1) 0 (bs.length + 1) 1 false :: rest) _)), (u + 1, some (.cells (bs.map byteAV ++ [byteAV c]) _))] = _
    simp [byBox, bBox]
    rfl

theorem string_ok {T : TypeId} {rest : List AV} (v u : Nat) (a : AV) (bs : List UInt8) (h0 : bs ≠ []) (hl : bs.length ≤ 140737488355328) :
    CallOk cx 46 [.ptr 0 v 0] [(v, some (bBox T a (.ms 1 u 0 bs.length 1 false) rest)), (u, some (byBox bs))]
      (fun o σ' => o = .ret (.str bs) ∧ σ' = [(v, some (bBox T a (.ms 1 u 0 bs.length 1 false) rest)), (u, none)]) :=
  callOk_intro (fun a w => Tryd.call46 a w) Tryd.func46 rfl Tryd.ntmps46 rfl fun B => by
    refine ab 1000 rfl trivial ?_
    have hpos : 0 < bs.length := List.length_pos_iff.2 h0
    refine S_draw 10 [] [] rfl rfl rfl rfl ⟨rfl, rfl, rfl, rfl, rfl, rfl, hpos, rfl, rfl, rfl, rfl, rfl, rfl, trivial⟩ ?_
    refine S_ustr bs rfl rfl rfl ⟨rfl, rfl, rfl, rfl, h0, by omega, List.take_of_length_le (by simp), trivial⟩ ?_
    refine ab 1000 rfl trivial ?_
    exact S_ret ⟨_, _, rfl, trivial, rfl, rfl⟩

/-- A builder's bytes: none of its own as long as nothing was written. -/
def bufV (u : Nat) : List UInt8 → AV
  | [] => .nils
  | c :: bs => .ms 1 u 0 (c :: bs).length 1 false
def bufB (u : Nat) : List UInt8 → Nat × Option Box
  | [] => (u, none)
  | c :: bs => (u, some (byBox (c :: bs)))

theorem writeByteF_ok {T : TypeId} (hT : HoldsB T 2) (v u : Nat) (a : AV) (ha : a = .nilp ∨ a = .ptr 0 v 0) (c : UInt8) :
    CallOk cx 45 [.ptr 0 v 0, byteAV c] [(v, some (bBox T a .nils [])), (u, none)]
      (fun o σ' => o = .ret .nili ∧ σ' = [(v, some (bBox T (.ptr 0 v 0) (.ms 1 (u + 1) 0 1 1 false) [])), (u + 1, some (byBox [c]))]) :=
  callOk_intro (fun a w => Tryd.call45 a w) Tryd.func45 rfl Tryd.ntmps45 rfl fun B => by
    refine ab 1000 rfl trivial ?_
    refine S_call rfl rfl rfl (copyCheck_ok (rest := []) hT v a .nils ha _) ?_ (fun v σ' h => by cases h.1)
    rintro _ _ ⟨⟨⟩, rfl⟩
    refine pa [] rfl ?_ ?_
    · (repeat' with_reducible apply AllP_cons) <;> first | exact trivial | assumption | omega | rfl | exact decide_eq_true (by omega) | exact decide_eq_false (by omega) | (rw [IntWalk.i64_in _ ⟨by omega, by omega⟩]; omega) | exact allOne_mem rfl | exact Nat.le_of_ble_eq_true rfl | (simp only [List.length_cons, List.length_nil]; omega) | skip
    exact S_ret ⟨_, _, rfl, trivial, rfl, rfl⟩

theorem writeByteU_ok {T : TypeId} (hT : HoldsB T 2) (v u : Nat) (a : AV) (ha : a = .nilp ∨ a = .ptr 0 v 0) (bs : List UInt8) (c : UInt8) (hl : bs.length < 140737488355328) :
    CallOk cx 45 [.ptr 0 v 0, byteAV c] [(v, some (bBox T a (bufV u bs) [])), bufB u bs]
      (fun o σ' => o = .ret .nili ∧ σ' = [(v, some (bBox T (.ptr 0 v 0) (bufV (u + 1) (bs ++ [c])) [])), bufB (u + 1) (bs ++ [c])]) := by
  cases bs with
  | nil => exact writeByteF_ok hT v u a ha c
  | cons b bs => exact writeByte_ok (rest := []) hT v u a ha (b :: bs) c hl

theorem string0_ok {T : TypeId} (v u : Nat) (a : AV) :
    CallOk cx 46 [.ptr 0 v 0] [(v, some (bBox T a .nils [])), (u, none)]
      (fun o σ' => o = .ret (.str []) ∧ σ' = [(v, some (bBox T a .nils [])), (u, none)]) :=
  callOk_intro (fun a w => Tryd.call46 a w) Tryd.func46 rfl Tryd.ntmps46 rfl fun B => by
    refine pa [] rfl ?_ ?_
    · (repeat' with_reducible apply AllP_cons) <;> first | exact trivial | assumption | omega | rfl | exact decide_eq_true (by omega) | exact decide_eq_false (by omega) | (rw [IntWalk.i64_in _ ⟨by omega, by omega⟩]; omega) | exact allOne_mem rfl | exact Nat.le_of_ble_eq_true rfl | (simp only [List.length_cons, List.length_nil]; omega) | skip
    refine S_ustr [] rfl rfl rfl ⟨rfl, rfl, trivial⟩ ?_
    refine ab 1000 rfl trivial ?_
    exact S_ret ⟨_, _, rfl, trivial, rfl, rfl⟩

/-- The builder's bytes handed out. -/
theorem stringU_ok {T : TypeId} (v u : Nat) (a : AV) (bs : List UInt8) (hl : bs.length ≤ 140737488355328) :
    CallOk cx 46 [.ptr 0 v 0] [(v, some (bBox T a (bufV u bs) [])), bufB u bs]
      (fun o σ' => o = .ret (.str bs) ∧ σ' = [(v, some (bBox T a (bufV u bs) [])), (u, none)]) := by
  cases bs with
  | nil => exact string0_ok v u a
  | cons b bs => exact string_ok (rest := []) v u a (b :: bs) (by simp) hl

end Go.Proofs.YtkgmbnjdeokdkaaDoor
