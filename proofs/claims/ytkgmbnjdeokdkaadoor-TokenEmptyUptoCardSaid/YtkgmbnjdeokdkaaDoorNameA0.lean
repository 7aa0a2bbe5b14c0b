/-
  Go's library: which of a text's letters is this one (bytealg.IndexByteString, stringslite, strings.IndexByte).
-/
import Derived.Test.YtkgmbnjdeokdkaaDoorBase
import Derived.Lib.Bytealg
import Derived.Scope
set_option linter.unusedVariables false
set_option linter.unusedSimpArgs false
set_option maxRecDepth 20000
namespace Go.Proofs.YtkgmbnjdeokdkaaDoor
open Go Go.Ab

section
variable {cx : Cx} {n : Nat} {B : Bs} {k : List AI} {Q : Post} {fr : Fr} {σ : Heap}
/-- A scope whose marks no jump reaches. -/
theorem after_goto {l : Nat} : ∀ k : List AI, after cx n B k Q (.goto l) = Q (.goto l)
  | [] => rfl
  | .code c :: k => after_goto k
  | .blk id :: k => after_goto k
  | .ops all l' K :: k => after_goto k
  | .inv M :: k => after_goto k

theorem S_scope {c : Code} (hQ : ∀ l fr σ, ¬ Q (.goto l) fr σ) (h : S cx n B (.code c :: k) Q fr σ) : S cx n B (.code (.scope c) :: k) Q fr σ := by
  intro r a w hi hf hd hx
  refine wp_scope_straight (wp_mono (h r a w hi hf hd hx) fun e a w hq => ?_)
  obtain ⟨ae, fr', σ', r', hq, he, hi', hf', hd', hx'⟩ := hq
  cases e <;> cases ae <;> first | exact he.elim | exact Lift.mk hq he hi' hf' hd' hx' | exact hQ _ _ _ ((congrFun (congrFun (after_goto k) fr') σ').mp hq)

/-- A call of a library's function that hands back one value. -/
theorem S_ext {all : Array Oper} {o : Oper} {l : List Oper} {K : List Nat} {f : FuncId} {args : List AV} {res : AV}
    (hext : ∀ (r : Rl) (w : World) (vs : Array Value), VRels r w vs args → ∃ v, (callFunc f vs).run cx.P w = .ok (.value v) w ∧ VRel r w v res) (hc : callA cx fr o.op = some (f, args)) (hg : guardA all o K fr = some true)
    (hd : dstOk n o.dst = true) (hk : S cx n B (.ops all l K :: k) Q (setA o.dst res fr) σ) : S cx n B (.ops all (o :: l) K :: k) Q fr σ := by
  refine S_do hg hd (fun r a w hi hf => ?_) hk
  obtain ⟨vs, h1, h2⟩ := callA_go hi hf hc
  obtain ⟨v, h3, h4⟩ := hext r w vs h2
  exact ⟨r, w, v, .inl (by rw [h1, h3]), h4, hi, Ext.refl _ _ _⟩
end

theorem ixb (s : List UInt8) (c : Int) (r : Rl) (w : World) (vs : Array Value) (h : VRels r w vs [.str s, .int .u8 c]) :
    ∃ v, (callFunc 55 vs).run cx.P w = .ok (.value v) w ∧ VRel r w v (.int .i64 (Lib.indexByte s c.toNat.toUInt8)) := by
  obtain ⟨hs, hv⟩ := h
  obtain ⟨x, y, rfl⟩ : ∃ x y, vs = #[x, y] := by
    rcases vs with ⟨l⟩
    match l, hs with
    | [x, y], _ => exact ⟨x, y, rfl⟩
  have h0 := hv 0 (by simp)
  have h1 := hv 1 (by simp)
  simp only [List.getElem_cons_zero, List.getElem_cons_succ] at h0 h1
  have h0 : VRel r w x (.str s) := h0
  have h1 : VRel r w y (.int .u8 c) := h1
  cases h0 with
  | str h => 
    subst h
    cases h1
    refine ⟨_, ?_, .int⟩
    show (callFunc 55 _).run Tryd.prog w = _
    rw [run_callFunc_extern Tryd.func55 rfl rfl rfl (e := Extern.BytealgIndexByte.indexByte) rfl, Lib.run_indexByteString]
    rfl

theorem indexByteS_ok (s : List UInt8) (c : Int) : Calc cx 51 [.str s, .int .u8 c] (.int .i64 (Lib.indexByte s c.toNat.toUInt8)) :=
  pure_intro (fun a w => Tryd.call51 a w) Tryd.func51 rfl Tryd.ntmps51 rfl .int fun B => by
    refine ab 1000 rfl trivial ?_
    refine S_ext (ixb s c) rfl rfl rfl ?_
    refine ab 1000 rfl trivial ?_
    exact S_retc .int rfl trivial rfl

theorem indexByte_ok (s : List UInt8) (c : Int) : Calc cx 44 [.str s, .int .u8 c] (.int .i64 (Lib.indexByte s c.toNat.toUInt8)) :=
  pure_intro (fun a w => Tryd.call44 a w) Tryd.func44 rfl Tryd.ntmps44 rfl .int fun B => by
    refine ab 1000 rfl trivial ?_
    refine S_pure rfl rfl rfl (indexByteS_ok s c) (.cons (.refl .str) (.cons (.refl .int) (.nil _))) ?_
    refine ab 1000 rfl trivial ?_
    exact S_retc .int rfl trivial rfl

end Go.Proofs.YtkgmbnjdeokdkaaDoor
