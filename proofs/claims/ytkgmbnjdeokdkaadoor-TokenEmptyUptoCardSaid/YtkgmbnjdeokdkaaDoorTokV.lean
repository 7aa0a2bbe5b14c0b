/-
  The law TokenLevels: plain.
-/
import Derived.Test.YtkgmbnjdeokdkaaDoorTokT
set_option linter.unusedVariables false
set_option linter.unusedSimpArgs false
set_option maxRecDepth 20000
namespace Go.Proofs.YtkgmbnjdeokdkaaDoor
open Go Go.Ab

structure Lvl where
  lv : Int
  at_ : Nat
  prev : Nat
  deriving DecidableEq

def lvIn (lv : Int) (k : Nat) : Int := if k = 7 then lv + 1 else if k = 8 then lv - 1 else lv

/-- One token more, as the law looks at it: how far in, the last place, the last kind. -/
def lvStep (n : Nat) (st : Option Lvl) (t : Tok) : Option Lvl := match st with
  | none => none
  | some q =>
    if t.place < q.at_ ∨ n < t.place then none
    else if lvIn q.lv t.kind < 0 ∨ 30 < lvIn q.lv t.kind then none
    else if (t.kind = 7 ∨ t.kind = 8) ∧ q.prev ≠ 6 ∧ q.prev ≠ 8 then none
    else some ⟨lvIn q.lv t.kind, t.place, t.kind⟩

def lvl (n : Nat) (l : List Tok) : Option Lvl := l.foldl (lvStep n) (some ⟨0, 0, 6⟩)

theorem lvl_app (n : Nat) (l m : List Tok) : lvl n (l ++ m) = m.foldl (lvStep n) (lvl n l) := by simp [lvl, List.foldl_append]
theorem lvl_snoc (n : Nat) (l : List Tok) (t : Tok) : lvl n (l ++ [t]) = lvStep n (lvl n l) t := by simp [lvl, List.foldl_append]

theorem lvStep_ok {n : Nat} {q : Lvl} {t : Tok} (h1 : q.at_ ≤ t.place) (h2 : t.place ≤ n) (h3 : 0 ≤ lvIn q.lv t.kind ∧ lvIn q.lv t.kind ≤ 30) (h4 : (t.kind = 7 ∨ t.kind = 8) → q.prev = 6 ∨ q.prev = 8) :
    lvStep n (some q) t = some ⟨lvIn q.lv t.kind, t.place, t.kind⟩ := by
  unfold lvStep
  simp only
  rw [if_neg (by omega), if_neg (by omega), if_neg (by rintro ⟨h, h5, h6⟩; rcases h4 h with h | h; exact h5 h; exact h6 h)]

theorem oneS_kind {s : List UInt8} {i o j o' : Nat} {t : Tok} (h : oneS s i o = .inr (t, j, o')) : t.kind ≠ 7 ∧ t.kind ≠ 8 ∧ t.place = i := by
  unfold oneS at h
  split at h
  · cases h
    refine ⟨?_, ?_, rfl⟩ <;> (show (if _ then 5 else 1) ≠ _; split <;> decide)
  · split at h
    · split at h
      · cases h
      · cases h; exact ⟨by simp, by simp, rfl⟩
    · split at h
      · split at h
        · cases h
        · cases h; exact ⟨by simp, by simp, rfl⟩
      · split at h
        · cases h
        · split at h
          · split at h
            · cases h
            · cases h; exact ⟨by simp, by simp, rfl⟩
          · split at h
            · split at h
              · cases h
              · cases h; exact ⟨by simp, by simp, rfl⟩
            · cases h; exact ⟨by simp, by simp, rfl⟩

theorem lvl_line : ∀ (f : Nat) {s : List UInt8} {i o k : Nat} {out out' : List Tok} {q : Lvl}, i ≤ s.length → lineF f s i o out = .inr (k, out') → lvl s.length out = some q → q.at_ ≤ i → 0 ≤ q.lv ∧ q.lv ≤ 30 →
    ∃ a, lvl s.length out' = some ⟨q.lv, a, 6⟩ ∧ a ≤ k
  | 0, s, i, o, k, out, out', q, hi, h, hq, ha, hv => by cases h
  | f + 1, s, i, o, k, out, out', q, hi, h, hq, ha, hv => by
    rw [lineF] at h
    split at h
    · rename_i hc
      split at h
      · have hg := gapC_le (s := s) (i := i + 1) (by omega)
        exact lvl_line f hg.2 h hq (by omega) hv
      · split at h
        · cases h
        · rename_i t j o' hx
          have hb := oneS_le hc.1 hx
          have hk := oneS_kind hx
          have hg := gapC_le (s := s) (i := j) (by omega)
          have he : lvIn q.lv t.kind = q.lv := by rw [lvIn, if_neg hk.1, if_neg hk.2.1]
          have hs := lvStep_ok (n := s.length) (q := q) (t := t) (by rw [hk.2.2]; exact ha) (by rw [hk.2.2]; omega) (by rw [he]; exact hv) (fun h => h.elim (fun h => absurd h hk.1) (fun h => absurd h hk.2.1))
          have h2 : lvl s.length (out ++ [t]) = some ⟨q.lv, i, t.kind⟩ := by rw [lvl_snoc, hq, hs, he, hk.2.2]
          exact lvl_line f (q := ⟨q.lv, i, t.kind⟩) hg.2 h h2 (by show i ≤ gapC s j; omega) hv
    · split at h
      · cases h
      · cases h
        have hs := lvStep_ok (n := s.length) (q := q) (t := tokLine i) ha hi (by show 0 ≤ lvIn q.lv 6 ∧ _; exact hv) (fun h => by rcases h with h | h <;> cases h)
        exact ⟨i, by rw [lvl_snoc, hq, hs]; rfl, by split <;> omega⟩

theorem lvl_outs {n i : Nat} (hi : i ≤ n) : ∀ (m : Nat) {l : List Tok} {lv : Int} {a p : Nat}, lvl n l = some ⟨lv, a, p⟩ → a ≤ i → (m : Int) ≤ lv → lv ≤ 30 → (p = 6 ∨ p = 8) → ∃ a' p', lvl n (l ++ List.replicate m (tokOut i)) = some ⟨lv - m, a', p'⟩ ∧ a' ≤ i ∧ (p' = 6 ∨ p' = 8)
  | 0, l, lv, a, p, h, ha, hm, h30, hp => ⟨a, p, by simpa using h, ha, hp⟩
  | m + 1, l, lv, a, p, h, ha, hm, h30, hp => by
    have hs := lvStep_ok (n := n) (q := ⟨lv, a, p⟩) (t := tokOut i) ha hi (by show 0 ≤ lv - 1 ∧ lv - 1 ≤ 30; omega) (fun _ => hp)
    obtain ⟨a', p', h1, h2, h3⟩ := lvl_outs hi m (l := l ++ [tokOut i]) (lv := lv - 1) (a := i) (p := 8) (by rw [lvl_snoc, h, hs]; rfl) (Nat.le_refl _) (by omega) (by omega) (.inr rfl)
    refine ⟨a', p', ?_, h2, h3⟩
    rw [List.replicate_succ, List.append_cons, h1]
    congr 2; omega

theorem stay_zero {ins : List Nat} (hi : Insok ins) : stay ins 0 = 1 := by
  have h1 := stay_pos hi 0
  rcases Nat.lt_or_ge 1 (stay ins 0) with h | h
  · have h2 := stay_le ins 0
    have h3 := stay_in 0 ins 1 (by omega) h
    have h4 := hi.lt (show 0 < 1 by decide) (by omega)
    omega
  · omega

theorem lvl_all : ∀ (f : Nat) {s : List UInt8} {i : Nat} {ins : List Nat} {out l : List Tok} {a : Nat}, i ≤ s.length → Insok ins → ins.length ≤ 31 → allF f s i ins out = .inr l → lvl s.length out = some ⟨(ins.length : Int) - 1, a, 6⟩ → a ≤ i →
    ∃ a' p', lvl s.length l = some ⟨0, a', p'⟩
  | 0, s, i, ins, out, l, a, hi, h2, h3, h, hq, ha => by cases h
  | f + 1, s, i, ins, out, l, a, hi, h2, h3, h, hq, ha => by
    rw [allF] at h
    have hg := gapC_le hi
    have hp := h2.pos
    split at h
    · rw [furS_zero h2] at h
      cases h
      have hz := stay_zero h2
      obtain ⟨a', p', k1, _⟩ := lvl_outs (n := s.length) (i := gapC s i) hg.2 (ins.length - stay ins 0) hq (by omega) (by omega) (by omega) (.inl rfl)
      refine ⟨a', p', by rw [k1]; congr 2; omega⟩
    · rename_i hlt
      split at h
      · exact lvl_all f (by omega) h2 h3 h hq (by omega)
      · split at h
        · cases h
        · rename_i ins' l' hx
          obtain ⟨k1, k2, k3, k4⟩ := furS_ok h2 h3 hx
          have hin : ∃ a' p', lvl s.length (out ++ l') = some ⟨(ins'.length : Int) - 1, a', p'⟩ ∧ a' ≤ gapC s i := by
            unfold furS at hx
            split at hx
            · split at hx
              · cases hx
              · cases hx
                have hs := lvStep_ok (n := s.length) (q := ⟨(ins.length : Int) - 1, a, 6⟩) (t := tokIn (gapC s i)) (by show a ≤ gapC s i; omega) hg.2 (by show 0 ≤ (ins.length : Int) - 1 + 1 ∧ (ins.length : Int) - 1 + 1 ≤ 30; omega) (fun _ => .inl rfl)
                refine ⟨gapC s i, 7, ?_, Nat.le_refl _⟩
                rw [lvl_snoc, hq, hs]
                show some (Lvl.mk ((ins.length : Int) - 1 + 1) _ _) = some (Lvl.mk (((ins ++ [gapE s i - i]).length : Int) - 1) _ _)
                congr 2; simp
            · split at hx
              · cases hx
                have hsl := stay_le ins (gapE s i - i)
                have hsp := stay_pos h2 (gapE s i - i)
                obtain ⟨a', p', q1, q2, _⟩ := lvl_outs (n := s.length) (i := gapC s i) hg.2 (ins.length - stay ins (gapE s i - i)) hq (by omega) (by omega) (by omega) (.inl rfl)
                refine ⟨a', p', ?_, q2⟩
                rw [q1]; congr 2; simp; omega
              · cases hx
          obtain ⟨a1, p1, q1, q2⟩ := hin
          split at h
          · cases h
          · rename_i k out2 hy
            have hb := lineF_le _ hg.2 hy
            have hp2 := k1.pos
            obtain ⟨a2, r1, r2⟩ := lvl_line _ hg.2 hy q1 q2 (by show 0 ≤ (ins'.length : Int) - 1 ∧ (ins'.length : Int) - 1 ≤ 30; omega)
            exact lvl_all f hb.2.1 k1 k2 h r1 r2

/-- The places of faults. -/
theorem lineF_at : ∀ (f : Nat) {s : List UInt8} {i o : Nat} {out : List Tok} {e : Flt}, i ≤ s.length → lineF f s i o out = .inl e → e.2 ≤ s.length
  | 0, s, i, o, out, e, hi, h => by cases h; exact Nat.zero_le _
  | f + 1, s, i, o, out, e, hi, h => by
    rw [lineF] at h
    split at h
    · rename_i hc
      split at h
      · exact lineF_at f (gapC_le (by omega)).2 h
      · split at h
        · rename_i hx; cases h; exact (oneS_at hc.1 hx).2
        · rename_i t j o' hx
          have hb := oneS_le hc.1 hx
          exact lineF_at f (gapC_le (by omega)).2 h
    · split at h
      · cases h; exact hi
      · cases h

theorem furS_at {n i : Nat} {ins : List Nat} {e : Flt} (h : furS n i ins = .inl e) : e.2 = i := by
  unfold furS at h
  split at h
  · split at h
    · cases h; rfl
    · cases h
  · split at h
    · cases h
    · cases h; rfl

theorem allF_at : ∀ (f : Nat) {s : List UInt8} {i : Nat} {ins : List Nat} {out : List Tok} {e : Flt}, i ≤ s.length → allF f s i ins out = .inl e → e.2 ≤ s.length
  | 0, s, i, ins, out, e, hi, h => by cases h; exact Nat.zero_le _
  | f + 1, s, i, ins, out, e, hi, h => by
    rw [allF] at h
    have hg := gapC_le hi
    split at h
    · split at h
      · rename_i hx; cases h; rw [furS_at hx]; exact hg.2
      · cases h
    · split at h
      · exact allF_at f (by omega) h
      · split at h
        · rename_i hx; cases h; rw [furS_at hx]; exact hg.2
        · split at h
          · rename_i hy; cases h; exact lineF_at _ hg.2 hy
          · rename_i hy
            exact allF_at f (lineF_le _ hg.2 hy).2.1 h

/-- What the law TokenLevels says of Split's answer. -/
theorem splitS_levels (s : List UInt8) : ((splitS s).2.1 ≠ 0 → (splitS s).1 = [] ∧ (splitS s).2.2 ≤ s.length) ∧ ((splitS s).2.1 = 0 → ∃ a p, lvl s.length (splitS s).1 = some ⟨0, a, p⟩) := by
  unfold splitS
  split
  · exact ⟨fun _ => ⟨rfl, Nat.zero_le _⟩, fun h => by cases h⟩
  · split
    · rename_i e h
      exact ⟨fun _ => ⟨rfl, allF_at _ (Nat.zero_le _) h⟩, fun h0 => by have := allF_err _ (by omega) (Nat.zero_le _) h; have h0 : e.1 = 0 := h0; omega⟩
    · rename_i l h
      exact ⟨fun h => absurd rfl h, fun _ => lvl_all _ (Nat.zero_le _) ⟨List.pairwise_singleton _ _, rfl⟩ (by decide) h (a := 0) rfl (Nat.le_refl _)⟩

end Go.Proofs.YtkgmbnjdeokdkaaDoor
