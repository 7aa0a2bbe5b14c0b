/-
  Words of sources, plain: how far in a line is; tokens; lines; the whole.
-/
import Derived.Test.YtkgmbnjdeokdkaaDoorTokS
set_option linter.unusedVariables false
set_option linter.unusedSimpArgs false
set_option maxRecDepth 20000
namespace Go.Proofs.YtkgmbnjdeokdkaaDoor
open Go Go.Ab

/-- The errors, and their places. -/
abbrev Flt := Nat × Nat

structure Insok (ins : List Nat) : Prop where
  up : ins.Pairwise (· < ·)
  zero : ins[0]? = some 0

theorem Insok.lt {ins : List Nat} (h : Insok ins) {i j : Nat} (hij : i < j) (hj : j < ins.length) : ins[i] < ins[j] := List.pairwise_iff_getElem.1 h.up i j (by omega) hj hij

theorem Insok.pos {ins : List Nat} (h : Insok ins) : 0 < ins.length := by
  have := h.zero
  rcases Nat.eq_zero_or_pos ins.length with h0 | h0
  · rw [List.getElem?_eq_none (by omega)] at this; cases this
  · exact h0

/-- How many stay, of those who are in, if one is so far in. -/
def stay (ins : List Nat) (n : Nat) : Nat := (ins.takeWhile (fun x => decide (x ≤ n))).length

theorem stay_le (ins : List Nat) (n : Nat) : stay ins n ≤ ins.length := (List.takeWhile_prefix _).length_le

theorem stay_in (n : Nat) : ∀ (ins : List Nat) (j : Nat) (h : j < ins.length), j < stay ins n → ins[j] ≤ n
  | x :: r, 0, h, hj => by
    unfold stay at hj
    rw [List.takeWhile_cons] at hj
    split at hj
    · rename_i hx; exact of_decide_eq_true hx
    · simp at hj
  | x :: r, j + 1, h, hj => by
    unfold stay at hj
    rw [List.takeWhile_cons] at hj
    split at hj
    · exact stay_in n r j (by simpa using h) (by unfold stay; simpa using hj)
    · simp at hj

theorem stay_at (n : Nat) : ∀ (ins : List Nat) (h : stay ins n < ins.length), n < ins[stay ins n]
  | [], h => by simp at h
  | x :: r, h => by
    by_cases hx : x ≤ n
    · have e : stay (x :: r) n = stay r n + 1 := by unfold stay; rw [List.takeWhile_cons, if_pos (by simpa using hx)]; rfl
      simp only [e, List.getElem_cons_succ]
      exact stay_at n r (by rw [e] at h; simpa using h)
    · have e : stay (x :: r) n = 0 := by unfold stay; rw [List.takeWhile_cons, if_neg (by simpa using hx)]; rfl
      simp only [e, List.getElem_cons_zero]
      omega

theorem stay_out {ins : List Nat} (hi : Insok ins) (n j : Nat) (hj : stay ins n ≤ j) (h : j < ins.length) : n < ins[j] := by
  have h1 := stay_at n ins (by omega)
  rcases Nat.lt_or_ge (stay ins n) j with h2 | h2
  · have := hi.lt h2 h; omega
  · have : j = stay ins n := by omega
    subst this; exact h1

theorem stay_pos {ins : List Nat} (hi : Insok ins) (n : Nat) : 0 < stay ins n := by
  rcases Nat.eq_zero_or_pos (stay ins n) with h | h
  · have h1 := stay_out hi n 0 (by omega) hi.pos
    have h2 : ins[0]'hi.pos = 0 := by
      have := hi.zero; rw [List.getElem?_eq_getElem hi.pos] at this; exact Option.some.inj this
    omega
  · exact h

/-- The last one that stays is n itself, if n is among them. -/
theorem stay_last {ins : List Nat} (hi : Insok ins) {n : Nat} (hn : n ∈ ins) : ins[stay ins n - 1]'(by have := stay_pos hi n; have := stay_le ins n; omega) = n := by
  have hp := stay_pos hi n
  have hl := stay_le ins n
  obtain ⟨j, hj, rfl⟩ := List.getElem_of_mem hn
  have h1 : j < stay ins ins[j] := by
    rcases Nat.lt_or_ge j (stay ins ins[j]) with h | h
    · exact h
    · have := stay_out hi ins[j] j h hj; omega
  have h2 := stay_in ins[j] ins (stay ins ins[j] - 1) (by omega) (by omega)
  rcases Nat.lt_or_ge j (stay ins ins[j] - 1) with h3 | h3
  · have := hi.lt h3 (by omega); omega
  · have : j = stay ins ins[j] - 1 := by omega
    congr 1; exact this.symm

theorem Insok.take {ins : List Nat} (hi : Insok ins) {k : Nat} (hk : 0 < k) : Insok (ins.take k) :=
  ⟨hi.up.sublist (List.take_sublist _ _), by rw [List.getElem?_take, if_pos hk]; exact hi.zero⟩

theorem Insok.push {ins : List Nat} (hi : Insok ins) {n : Nat} (hn : ins.getD (ins.length - 1) 0 < n) : Insok (ins ++ [n]) := by
  have hp := hi.pos
  refine ⟨List.pairwise_append.2 ⟨hi.up, List.pairwise_singleton _ _, fun a ha b hb => ?_⟩, by rw [List.getElem?_append_left hp]; exact hi.zero⟩
  simp at hb; subst hb
  obtain ⟨j, hj, rfl⟩ := List.getElem_of_mem ha
  have e : ins.getD (ins.length - 1) 0 = ins[ins.length - 1] := by simp [List.getD, List.getElem?_eq_getElem (show ins.length - 1 < ins.length by omega)]
  rw [e] at hn
  rcases Nat.lt_or_ge j (ins.length - 1) with h | h
  · have := hi.lt h (by omega); omega
  · have : j = ins.length - 1 := by omega
    subst this; exact hn

def tokIn (i : Nat) : Tok := ⟨7, [], 0, i⟩
def tokOut (i : Nat) : Tok := ⟨8, [], 0, i⟩
def tokLine (i : Nat) : Tok := ⟨6, [], 0, i⟩

/-- A line that is so far in. -/
def furS (n i : Nat) (ins : List Nat) : Flt ⊕ (List Nat × List Tok) :=
  if ins.getD (ins.length - 1) 0 < n then (if 30 < ins.length then .inl (2, i) else .inr (ins ++ [n], [tokIn i]))
  else if n ∈ ins then .inr (ins.take (stay ins n), List.replicate (ins.length - stay ins n) (tokOut i))
  else .inl (4, i)

theorem furS_ok {n i : Nat} {ins ins' : List Nat} {l : List Tok} (hi : Insok ins) (hl : ins.length ≤ 31) (h : furS n i ins = .inr (ins', l)) : Insok ins' ∧ ins'.length ≤ 31 ∧ l.length + ins'.length ≤ ins.length + 2 ∧ l.length ≤ 31 := by
  unfold furS at h
  split at h
  · rename_i h1
    split at h
    · cases h
    · cases h; exact ⟨hi.push h1, by simp; omega, by simp; omega, by simp⟩
  · split at h
    · cases h
      have := stay_le ins n
      refine ⟨hi.take (stay_pos hi n), by simp; omega, by simp; omega, by simp; omega⟩
    · cases h

def opens : List (List UInt8) := [[40], [91], [123]]
def closes : List (List UInt8) := [[41], [93], [125]]

def cutT (s : List UInt8) (i j : Nat) : List UInt8 := (s.take j).drop i

def natOf (t : List UInt8) : Nat := t.foldl (fun n d => 10 * n + (d.toNat - 48)) 0

/-- The sign at a place. -/
def signAt (s : List UInt8) (i : Nat) : Option (List UInt8) := signs18.find? (fun g => g.isPrefixOf (s.drop i))

/-- One token at a place: the token, the place behind it, how many brackets are open then. -/
def oneS (s : List UInt8) (i o : Nat) : Flt ⊕ (Tok × Nat × Nat) :=
  if isLet (s.getD i 0) then
    .inr (⟨if cutT s i (stopAt (fun c => isLet c || isDg c) s i) ∈ words14 then 5 else 1, cutT s i (stopAt (fun c => isLet c || isDg c) s i), 0, i⟩, stopAt (fun c => isLet c || isDg c) s i, o)
  else if isDg (s.getD i 0) then
    if 9007199254740991 < natOf (cutT s i (stopAt isDg s i)) ∨ (s.getD i 0 = 48 ∧ i + 1 < stopAt isDg s i) then .inl (3, i)
    else .inr (⟨2, cutT s i (stopAt isDg s i), natOf (cutT s i (stopAt isDg s i)), i⟩, stopAt isDg s i, o)
  else if s.getD i 0 = 34 then
    match quoteS (s.drop (i + 1)) (i + 1) [] with
    | .inl p => .inl (1, p)
    | .inr (b, j) => .inr (⟨3, b, 0, i⟩, j, o)
  else match signAt s i with
    | none => .inl (1, i)
    | some t =>
      if t ∈ opens then (if 30 ≤ o then .inl (2, i) else .inr (⟨4, t, 0, i⟩, i + t.length, o + 1))
      else if t ∈ closes then (if o = 0 then .inl (1, i) else .inr (⟨4, t, 0, i⟩, i + t.length, o - 1))
      else .inr (⟨4, t, 0, i⟩, i + t.length, o)

/-- A line up to its end: the place behind it, and what came. -/
def lineF : Nat → List UInt8 → Nat → Nat → List Tok → Flt ⊕ (Nat × List Tok)
  | 0, s, i, o, out => .inl (0, 0)
  | f + 1, s, i, o, out =>
    if i < s.length ∧ (s[i]? ≠ some 10 ∨ 0 < o) then
      if s[i]? = some 10 then lineF f s (gapC s (i + 1)) o out
      else match oneS s i o with
        | .inl e => .inl e
        | .inr (t, j, o') => lineF f s (gapC s j) o' (out ++ [t])
    else if 0 < o then .inl (1, i) else .inr (if i < s.length then i + 1 else i, out ++ [tokLine i])

def allF : Nat → List UInt8 → Nat → List Nat → List Tok → Flt ⊕ List Tok
  | 0, s, i, ins, out => .inl (0, 0)
  | f + 1, s, i, ins, out =>
    if s.length ≤ gapC s i then
      match furS 0 (gapC s i) ins with
      | .inl e => .inl e
      | .inr (_, l) => .inr (out ++ l)
    else if s[gapC s i]? = some 10 then allF f s (gapC s i + 1) ins out
    else match furS (gapE s i - i) (gapC s i) ins with
      | .inl e => .inl e
      | .inr (ins', l) => match lineF (s.length + 1) s (gapC s i) 0 (out ++ l) with
        | .inl e => .inl e
        | .inr (k, out') => allF f s k ins' out'

/-- What becomes of a source: its tokens, or what is wrong, and where. -/
def splitS (s : List UInt8) : List Tok × Flt :=
  if 6000 < s.length then ([], (2, 0))
  else match allF (s.length + 1) s 0 [0] [] with
    | .inl e => ([], e)
    | .inr l => (l, (0, 0))

theorem gapE_le {s : List UInt8} {i : Nat} (h : i ≤ s.length) : i ≤ gapE s i ∧ gapE s i ≤ s.length := stopAt_le h
theorem gapC_le {s : List UInt8} {i : Nat} (h : i ≤ s.length) : i ≤ gapC s i ∧ gapC s i ≤ s.length := by
  have h1 := gapE_le h
  unfold gapC
  split
  · have h2 := stopAt_le (p := fun c => !(c == 10)) h1.2; omega
  · exact h1

theorem quoteS_le : ∀ (n : Nat) (s : List UInt8), s.length ≤ n → ∀ {i : Nat} {b b' : List UInt8} {j : Nat}, quoteS s i b = .inr (b', j) → i < j ∧ j ≤ i + s.length
  | 0, s, hn, i, b, b', j, h => by
    have : s = [] := List.length_eq_zero_iff.1 (by omega)
    subst this; simp [quoteS] at h
  | n + 1, [], hn, i, b, b', j, h => by simp [quoteS] at h
  | n + 1, c :: r, hn, i, b, b', j, h => by
    simp only [List.length_cons] at hn ⊢
    rw [quoteS.eq_def] at h
    simp only at h
    split at h
    · cases h
    · split at h
      · cases h; omega
      · split at h
        · have := quoteS_le n r (by omega) h; omega
        · split at h
          · cases h
          · rename_i d r
            simp only [List.length_cons] at hn ⊢
            split at h
            · cases h
            · have := quoteS_le n r (by omega) h; omega

theorem quoteS_ge : ∀ (n : Nat) (s : List UInt8), s.length ≤ n → ∀ {i : Nat} {b : List UInt8} {p : Nat}, quoteS s i b = .inl p → i ≤ p ∧ p ≤ i + s.length
  | 0, s, hn, i, b, p, h => by
    have : s = [] := List.length_eq_zero_iff.1 (by omega)
    subst this; simp [quoteS] at h; simp; omega
  | n + 1, [], hn, i, b, p, h => by simp [quoteS] at h; simp; omega
  | n + 1, c :: r, hn, i, b, p, h => by
    simp only [List.length_cons] at hn ⊢
    rw [quoteS.eq_def] at h
    simp only at h
    split at h
    · cases h; omega
    · split at h
      · cases h
      · split at h
        · have := quoteS_ge n r (by omega) h; omega
        · split at h
          · cases h; simp
          · rename_i d r
            simp only [List.length_cons] at hn ⊢
            split at h
            · cases h; omega
            · have := quoteS_ge n r (by omega) h; omega

theorem stopAt_lt {p : UInt8 → Bool} {s : List UInt8} {i : Nat} (h : i < s.length) (hp : p (s.getD i 0) = true) : i < stopAt p s i ∧ stopAt p s i ≤ s.length := by
  have e : s.getD i 0 = s[i] := by simp [List.getD, h]
  rw [e] at hp
  rw [stopAt_yes h hp]
  have := stopAt_le (p := p) (s := s) (i := i + 1) (by omega)
  omega

theorem signAt_le {s t : List UInt8} {i : Nat} (h : signAt s i = some t) : 0 < t.length ∧ i + t.length ≤ s.length ∨ s.length ≤ i := by
  unfold signAt at h
  have h1 := List.find?_some h
  have h2 := List.mem_of_find?_eq_some h
  have h3 : t.length ≤ (s.drop i).length := (List.isPrefixOf_iff_prefix.1 h1).length_le
  have h4 : 0 < t.length := by
    have : ∀ g ∈ signs18, 0 < g.length := by decide
    exact this t h2
  rw [List.length_drop] at h3
  omega

theorem oneS_le {s : List UInt8} {i o j o' : Nat} {t : Tok} (hi : i < s.length) (h : oneS s i o = .inr (t, j, o')) : i < j ∧ j ≤ s.length := by
  unfold oneS at h
  split at h
  · rename_i h1
    cases h
    exact stopAt_lt hi (by rw [h1]; rfl)
  · split at h
    · rename_i h1
      split at h
      · cases h
      · cases h; exact stopAt_lt hi h1
    · split at h
      · split at h
        · cases h
        · rename_i b j' hq
          cases h
          have := quoteS_le _ _ (Nat.le_refl _) hq
          rw [List.length_drop] at this
          omega
      · split at h
        · cases h
        · rename_i g hs
          have := signAt_le hs
          split at h
          · split at h
            · cases h
            · cases h; omega
          · split at h
            · split at h
              · cases h
              · cases h; omega
            · cases h; omega

end Go.Proofs.YtkgmbnjdeokdkaaDoor
