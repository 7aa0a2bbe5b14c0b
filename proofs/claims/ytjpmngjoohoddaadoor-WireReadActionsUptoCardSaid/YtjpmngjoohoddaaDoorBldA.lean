/-
  The methods of strings.Builder, at a builder that lies at the head of a box.
-/
import Derived.Test.YtjpmngjoohoddaaDoorBase
set_option linter.unusedVariables false
set_option linter.unusedSimpArgs false
set_option maxRecDepth 20000
namespace Go.Proofs.YtjpmngjoohoddaaDoor
open Go Go.Ab

theorem noescape (v : Value) (w : World) : (callFunc 72 #[v]).run cx.P w = .ok (.value v) w := by
  show (callFunc 72 #[v]).run Tryd.prog w = _
  rw [run_callFunc_extern Tryd.func72 rfl rfl rfl (e := Extern.AbiNoEscape.same) rfl]
  rfl

/-- A type that begins with a builder. -/
structure HoldsB (T : TypeId) (n : Nat) : Prop where
  pos : 0 < cx.P.cellsOf T
  le : cx.P.cellsOf T ≤ n
  lies : ∀ k, liesAt cx.P cx.P.depth T (k + 1) 0 50 1 = true

/-- The box that holds a builder: its own address, its bytes, and what lies behind. -/
def bBox (T : TypeId) (a b : AV) (rest : List AV) : Box := .cells (a :: b :: rest) ⟨false, some T⟩
def byBox (bs : List UInt8) : Box := .cells (bs.map byteAV) ⟨false, some 5⟩

theorem copyCheck_ok {T : TypeId} {rest : List AV} (hT : HoldsB T (rest.length + 1 + 1)) (v : Nat) (a b : AV) (ha : a = .nilp ∨ a = .ptr 0 v 0) (y : Nat × Option Box) :
    CallOk cx 62 [.ptr 0 v 0] [(v, some (bBox T a b rest)), y] (fun o σ' => o = .ret (.tup []) ∧ σ' = [(v, some (bBox T (.ptr 0 v 0) b rest)), y]) :=
  callOk_intro (fun a w => Tryd.call62 a w) Tryd.func62 rfl Tryd.ntmps62 rfl fun B => by
    rcases ha with rfl | rfl
    · refine ab 1000 rfl ⟨rfl, trivial⟩ ?_
      refine S_cond rfl (fun _ => ?_) (fun h => ?_)
      · refine ab 1000 rfl trivial ?_
        refine S_toU rfl rfl rfl ⟨rfl, by simp, by decide, trivial⟩ ?_
        refine S_same noescape rfl rfl rfl ?_
        refine S_fromU rfl rfl rfl ⟨rfl, rfl, hT.pos, hT.le, hT.lies, trivial⟩ ?_
        refine ab 1000 rfl ⟨lble rfl, rfl, trivial⟩ ?_
        exact S_nil ⟨_, _, rfl, trivial, rfl, rfl⟩
      · cases h
    · refine ab 1000 rfl ⟨rfl, trivial⟩ ?_
      refine S_cond rfl (fun h => ?_) (fun _ => ?_)
      · cases h
      · refine ab 1000 rfl ⟨rfl, rfl, trivial⟩ ?_
        refine S_cond rfl (fun h => ?_) (fun _ => ?_)
        · cases h
        · refine ab 1000 rfl trivial ?_
          exact S_nil ⟨_, _, rfl, trivial, rfl, rfl⟩

theorem writeByte_ok {T : TypeId} {rest : List AV} (hT : HoldsB T (rest.length + 1 + 1)) (v u : Nat) (a : AV) (ha : a = .nilp ∨ a = .ptr 0 v 0) (bs : List UInt8) (c : UInt8) (hl : bs.length < 140737488355328) :
    CallOk cx 52 [.ptr 0 v 0, byteAV c] [(v, some (bBox T a (.ms 1 u 0 bs.length 1 false) rest)), (u, some (byBox bs))]
      (fun o σ' => o = .ret .nili ∧ σ' = [(v, some (bBox T (.ptr 0 v 0) (.ms 1 (u + 1) 0 (bs ++ [c]).length 1 false) rest)), (u + 1, some (byBox (bs ++ [c])))]) :=
  callOk_intro (fun a w => Tryd.call52 a w) Tryd.func52 rfl Tryd.ntmps52 rfl fun B => by
    refine ab 1000 rfl trivial ?_
    refine S_call rfl rfl rfl (copyCheck_ok hT v a _ ha _) ?_ (fun v σ' h => by cases h.1)
    rintro _ _ ⟨⟨⟩, rfl⟩
    refine ab 1000 rfl ⟨lble rfl, rfl, ?_, ?_, ?_, rfl, rfl, allOne_mem (cs := [byteAV c]) rfl, allOne_mem (cs := [byteAV c]) rfl, rfl, rfl, trivial⟩ ?_
    · show bs.length + 1 ≤ 9223372036854775807; omega
    · show (bs.length + 1) * 1 ≤ 140737488355328; omega
    · show 0 + bs.length * 1 = (bs.map byteAV).length; simp
    refine S_ret ⟨_, _, rfl, trivial, rfl, ?_⟩
    show [(v, some (Box.cells (_ :: .ms 1 (u + 1) 0 (bs.length + 1) 1 false :: rest) _)), (u + 1, some (.cells (bs.map byteAV ++ [byteAV c]) _))] = _
    simp [byBox, bBox]
    rfl

theorem writeString_ok {T : TypeId} {rest : List AV} (hT : HoldsB T (rest.length + 1 + 1)) (v u : Nat) (a : AV) (ha : a = .nilp ∨ a = .ptr 0 v 0) (bs cs : List UInt8) (hl : bs.length + cs.length ≤ 140737488355328) :
    CallOk cx 51 [.ptr 0 v 0, .str cs] [(v, some (bBox T a (.ms 1 u 0 bs.length 1 false) rest)), (u, some (byBox bs))]
      (fun o σ' => o = .ret (.tup [.int .i64 cs.length, .nili]) ∧ σ' = [(v, some (bBox T (.ptr 0 v 0) (.ms 1 (u + 1) 0 (bs ++ cs).length 1 false) rest)), (u + 1, some (byBox (bs ++ cs)))]) :=
  callOk_intro (fun a w => Tryd.call51 a w) Tryd.func51 rfl Tryd.ntmps51 rfl fun B => by
    refine ab 1000 rfl trivial ?_
    refine S_call rfl rfl rfl (copyCheck_ok hT v a _ ha _) ?_ (fun v σ' h => by cases h.1)
    rintro _ _ ⟨⟨⟩, rfl⟩
    refine ab 1000 rfl ⟨lble rfl, rfl, ?_, ?_, ?_, rfl, rfl, ?_, rfl, trivial⟩ ?_
    · show bs.length + cs.length ≤ 9223372036854775807; omega
    · show (bs.length + cs.length) * 1 ≤ 140737488355328; omega
    · show 0 + bs.length * 1 = (bs.map byteAV).length; simp
    · intro y hy; obtain ⟨x, _, rfl⟩ := List.mem_map.1 hy; rfl
    refine S_ret ⟨_, _, rfl, trivial, rfl, ?_⟩
    show [(v, some (Box.cells (_ :: .ms 1 (u + 1) 0 (bs.length + cs.length) 1 false :: rest) _)), (u + 1, some (.cells (bs.map byteAV ++ cs.map byteAV) _))] = _
    simp [byBox, bBox]
    rfl

theorem string_ok {T : TypeId} {rest : List AV} (v u : Nat) (a : AV) (bs : List UInt8) (h0 : bs ≠ []) (hl : bs.length ≤ 140737488355328) :
    CallOk cx 50 [.ptr 0 v 0] [(v, some (bBox T a (.ms 1 u 0 bs.length 1 false) rest)), (u, some (byBox bs))]
      (fun o σ' => o = .ret (.str bs) ∧ σ' = [(v, some (bBox T a (.ms 1 u 0 bs.length 1 false) rest)), (u, none)]) :=
  callOk_intro (fun a w => Tryd.call50 a w) Tryd.func50 rfl Tryd.ntmps50 rfl fun B => by
    refine ab 1000 rfl trivial ?_
    have hpos : 0 < bs.length := List.length_pos_iff.2 h0
    refine S_draw 10 [] [] rfl rfl rfl rfl ⟨rfl, rfl, rfl, rfl, rfl, rfl, hpos, rfl, rfl, rfl, rfl, rfl, rfl, trivial⟩ ?_
    refine S_ustr bs rfl rfl rfl ⟨rfl, rfl, rfl, rfl, h0, by omega, List.take_of_length_le (by simp), trivial⟩ ?_
    refine ab 1000 rfl trivial ?_
    exact S_ret ⟨_, _, rfl, trivial, rfl, rfl⟩

end Go.Proofs.YtjpmngjoohoddaaDoor
