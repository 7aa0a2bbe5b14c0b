/-
  Nodes of a tree: lists that rise, by their names; the reference's Rise and the program's rises.
-/
import Derived.Test.YtjpmngjoohoddaaDoorNameB
import Derived.Test.YtjpmngjoohoddaaDoorRefT
import Derived.Test.YtjpmngjoohoddaaDoorDigI
set_option linter.unusedVariables false
set_option linter.unusedSimpArgs false
set_option maxRecDepth 20000
namespace Go.Proofs.YtjpmngjoohoddaaDoor
open Go Go.Ab

structure NodeV where
  name : List UInt8
  kind : Int
  dig : List UInt8

def nodeAV (n : NodeV) : AV := .agg [.str n.name, .int .i64 n.kind, .str n.dig]
def nodes (l : List NodeV) : List AV := l.map nodeAV

theorem nodeAV_free {st : Bool} (n : NodeV) : Free st (nodeAV n) := .agg (by intro x hx; simp at hx; rcases hx with rfl | rfl | rfl; exact .str; exact .int; exact .str)
theorem nodes_any {st : Bool} (l : List NodeV) : ∀ x ∈ nodes l, Free st x := by
  intro x hx
  obtain ⟨y, _, rfl⟩ := List.mem_map.1 hx
  exact nodeAV_free y
theorem nodes_len (l : List NodeV) : (nodes l).length = l.length := by simp [nodes]
theorem nodes_get {l : List NodeV} {i : Nat} (h : i < l.length) : (nodes l)[i]? = some (nodeAV l[i]) := by simp [nodes, h]

def leS (a b : List UInt8) : Bool := Op.bytesLess a b || a == b
def riseP (l : List (List UInt8)) (j : Nat) : Bool := j == 0 || !leS (l.getD j []) (l.getD (j - 1) [])
def riseB (l : List (List UInt8)) : Bool := (List.range l.length).all (riseP l)

theorem rise_no {l : List (List UInt8)} {i : Nat} (h : i < l.length) (h1 : 1 ≤ i) (hp : leS (l.getD i []) (l.getD (i - 1) []) = true) : riseB l = false := by
  rw [riseB, List.all_eq_false]
  refine ⟨i, List.mem_range.2 h, ?_⟩
  rw [riseP, hp]
  simp; omega

theorem rise_step {l : List (List UInt8)} {i : Nat} (h : (List.range i).all (riseP l) = true) (hp : leS (l.getD i []) (l.getD (i - 1) []) = false) : (List.range (i + 1)).all (riseP l) = true := by
  rw [List.range_succ, List.all_append, h]
  simp only [List.all_cons, List.all_nil, riseP, hp, Bool.not_false, Bool.or_true, Bool.and_true]

theorem Rise_ok {st fl : Bool} (l : List (List UInt8)) (hl : l.length ≤ 9223372036854775807) : Calc cx 36 [.sl st fl 1 (texts l)] (.bool (riseB l)) :=
  pure_intro (fun a w => Tryd.call36 a w) Tryd.func36 rfl Tryd.ntmps36 rfl .bool fun B => by
    refine ab 1000 rfl trivial ?_
    have htl : (texts l).length = l.length := by simp [texts]
    refine S_while (α := Nat) (fun i => [(0, .sl st fl 1 (texts l)), (3, .int .i64 (i : Nat))]) (fun _ => []) (fun i => 1 ≤ i ∧ (i = 1 ∨ i ≤ l.length) ∧ (List.range i).all (riseP l) = true) (fun i => l.length + 1 - i) 1
      ⟨Nat.le_refl _, .inl rfl, rfl⟩ (.cons rfl (.cons rfl (.nil _))) rfl ?_
    rintro i ⟨h1, h2, hN⟩
    refine ab 1000 rfl trivial ?_
    refine S_dec rfl (fun hil => ?_) (fun hil => ?_)
    · have hil : i < l.length := by have : ((i : Nat) : Int) < ((texts l).length : Nat) := hil; omega
      have hw : IntKind.i64.wrap ((i : Int) - 1) = ((i - 1 : Nat) : Int) := w64 (by omega) (by omega)
      have g1 : l[i] = l.getD i [] := by simp [List.getD, hil]
      have g2 : l[i - 1] = l.getD (i - 1) [] := by simp [List.getD, show i - 1 < l.length by omega]
      refine ab 1000 rfl trivial ?_
      refine S_draw 10 [] [.str l[i], .str l[i - 1]] rfl rfl rfl rfl ⟨rfl, rfl, rfl, by omega, by rw [Int.toNat_natCast]; simp [texts, List.getElem?_eq_getElem hil], rfl, rfl, rfl, rfl, rfl, by rw [hw]; omega, by rw [hw, Int.toNat_natCast]; simp [texts, List.getElem?_eq_getElem (show i - 1 < l.length by omega)], rfl, rfl, trivial⟩ ?_
      refine ab 1000 rfl trivial ?_
      refine S_cond rfl (fun h => ?_) (fun h => ?_)
      · have h : leS l[i] l[i - 1] = true := h
        rw [g1, g2] at h
        refine ab 1000 rfl trivial ?_
        refine S_retc .bool rfl trivial ?_
        rw [rise_no hil h1 h]; rfl
      · have h : leS l[i] l[i - 1] = false := h
        rw [g1, g2] at h
        refine ab 1000 rfl trivial ?_
        exact S_round (i + 1) (by show l.length + 1 - (i + 1) < l.length + 1 - i; omega) ⟨by omega, .inr (by omega), rise_step hN h⟩ (.cons rfl (.cons (ai64 rfl (by omega)) (.nil _))) rfl
    · have hil : ¬ i < l.length := by have : ¬ ((i : Nat) : Int) < ((texts l).length : Nat) := hil; omega
      refine ab 1000 rfl trivial ?_
      refine S_retc .bool rfl trivial ?_
      have : riseB l = true := by
        rcases Nat.eq_zero_or_pos l.length with h | h
        · rw [riseB, h]; rfl
        · rw [riseB, show l.length = i by omega]; exact hN
      rw [this]; rfl

end Go.Proofs.YtjpmngjoohoddaaDoor
