/-
  Texts as abstract values.
-/
import Derived.Test.YtkgmbnjdeokdkaaDoorBase
set_option linter.unusedVariables false
set_option linter.unusedSimpArgs false
set_option maxRecDepth 20000
namespace Go.Proofs.YtkgmbnjdeokdkaaDoor
open Go Go.Ab

def texts (l : List (List UInt8)) : List AV := l.map .str

theorem texts_free (l : List (List UInt8)) : ∀ x ∈ texts l, Free true x := by
  intro x hx
  obtain ⟨y, _, rfl⟩ := List.mem_map.1 hx
  exact .str

theorem texts_one (l : List (List UInt8)) : ∀ x ∈ texts l, x.one = true := by
  intro x hx
  obtain ⟨y, _, rfl⟩ := List.mem_map.1 hx
  rfl

theorem texts_any {st : Bool} (l : List (List UInt8)) : ∀ x ∈ texts l, Free st x := by
  intro x hx
  obtain ⟨y, _, rfl⟩ := List.mem_map.1 hx
  exact .str

theorem ans_free (s : List UInt8) (n : Int) : Free true (.tup [.str s, .int .i64 n]) := .tup (by intro x hx; simp at hx; rcases hx with rfl | rfl; exact .str; exact .int)

theorem texts_len (l : List (List UInt8)) : (texts l).length = l.length := by simp [texts]
theorem texts_get {l : List (List UInt8)} {i : Nat} (h : i < l.length) : (texts l)[i]? = some (.str l[i]) := by simp [texts, h]

end Go.Proofs.YtkgmbnjdeokdkaaDoor
