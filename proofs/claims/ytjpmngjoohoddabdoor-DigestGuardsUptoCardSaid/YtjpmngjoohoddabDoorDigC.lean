/-
  One block of 64 letters.
-/
import Derived.Test.YtjpmngjoohoddabDoorDigB
set_option linter.unusedVariables false
set_option linter.unusedSimpArgs false
set_option maxRecDepth 20000
namespace Go.Proofs.YtjpmngjoohoddabDoor
open Go Go.Ab

def W32 (l : List Nat) : Prop := ∀ x ∈ l, x < M32
theorem W32.getD {l : List Nat} (h : W32 l) (i : Nat) : l.getD i 0 < M32 := by
  rcases Nat.lt_or_ge i l.length with hi | hi
  · rw [show l.getD i 0 = l[i] by simp [List.getD, hi]]; exact h _ (List.getElem_mem hi)
  · rw [show l.getD i 0 = 0 by simp [List.getD, hi]]; decide
theorem W32.app {a b : List Nat} (ha : W32 a) (hb : W32 b) : W32 (a ++ b) := by
  intro x hx; rcases List.mem_append.1 hx with h | h; exact ha x h; exact hb x h
theorem W32.one {a : Nat} (ha : a < M32) : W32 [a] := by intro x hx; simp at hx; subst hx; exact ha

def accW (p : List UInt8) (i : Nat) : Nat → Nat
  | 0 => 0
  | j + 1 => accW p i j * 256 + (p.getD (i + j) 0).toNat

theorem accW_lt (p : List UInt8) (i : Nat) : ∀ j, accW p i j < 256 ^ j
  | 0 => by simp [accW]
  | j + 1 => by
    have := accW_lt p i j
    have hb := (p.getD (i + j) 0).toNat_lt
    rw [accW, Nat.pow_succ]; omega

theorem words_len (p : List UInt8) : (words p).length = 16 := by simp [words]
theorem words_get (p : List UInt8) {t : Nat} (h : t < 16) : (words p)[t]'(by rw [words_len]; exact h) = accW p (4 * t) 4 := by
  simp [words, beW, accW]
theorem words_lt (p : List UInt8) : W32 (words p) := by
  intro x hx
  obtain ⟨t, ht, rfl⟩ := List.getElem_of_mem hx
  rw [words_len] at ht
  rw [words_get p ht]
  exact accW_lt p (4 * t) 4

theorem set_fill {α : Type} (a : List α) (n : Nat) (x y : α) (b : List α) : (a ++ y :: b).set a.length x = a ++ x :: b := by
  rw [List.set_append_right _ _ (Nat.le_refl _), Nat.sub_self]; rfl

theorem sched_len : ∀ (k : Nat) (w : List Nat), (sched k w).length = w.length + k
  | 0, w => rfl
  | k + 1, w => by rw [sched, sched_len k]; simp; omega

theorem wNext_lt (w : List Nat) : wNext w < M32 := mod_lt _
theorem sched_lt : ∀ (k : Nat) (w : List Nat), W32 w → W32 (sched k w)
  | 0, w, h => h
  | k + 1, w, h => sched_lt k _ (h.app (.one (wNext_lt w)))

theorem round_len (v : List Nat) (k : Nat) : (round v k).length = 8 := rfl
theorem round_lt {v : List Nat} (k : Nat) (h : W32 v) : W32 (round v k) := by
  intro x hx
  simp only [round, List.mem_cons, List.not_mem_nil, or_false] at hx
  rcases hx with rfl | rfl | rfl | rfl | rfl | rfl | rfl | rfl <;> first | exact mod_lt _ | exact h.getD _

theorem rounds_len : ∀ (k t : Nat) (w v : List Nat), v.length = 8 → (rounds k t w v).length = 8
  | 0, t, w, v, h => h
  | k + 1, t, w, v, h => rounds_len k (t + 1) w _ rfl
theorem rounds_lt : ∀ (k t : Nat) (w v : List Nat), W32 v → W32 (rounds k t w v)
  | 0, t, w, v, h => h
  | k + 1, t, w, v, h => rounds_lt k (t + 1) w _ (round_lt _ h)

theorem addW_len (a b : List Nat) : (addW a b).length = 8 := by simp [addW]
theorem addW_lt (a b : List Nat) : W32 (addW a b) := by
  intro x hx
  obtain ⟨i, _, rfl⟩ := List.mem_map.1 hx
  exact mod_lt _
theorem block_lt (h : List Nat) (p : List UInt8) : W32 (block h p) := addW_lt _ _
theorem block_len (h : List Nat) (p : List UInt8) : (block h p).length = 8 := addW_len _ _

/-- The boxes: the summer, the bytes, the words. -/
def sB (v : Nat) (h : List Nat) : Nat × Option Box := (v, some (.cells (u32L h) ⟨false, some 117⟩))
def wB (x : Nat) (w : List Nat) : Nat × Option Box := (x, some (.cells (u32L w) ⟨false, none⟩))
def bB (u : Nat) (bs : List UInt8) (g : Tag) : Nat × Option Box := (u, some (.cells (bs.map byteAV) g))

theorem bytes_ld {bs : List UInt8} {i : Nat} (h : i < bs.length) : ((bs.map byteAV).drop i)[0]? = some (byteAV (bs.getD i 0)) := by
  rw [List.getElem?_drop, Nat.add_zero, List.getElem?_map, List.getElem?_eq_getElem h]
  simp [List.getD, h]

end Go.Proofs.YtjpmngjoohoddabDoor
