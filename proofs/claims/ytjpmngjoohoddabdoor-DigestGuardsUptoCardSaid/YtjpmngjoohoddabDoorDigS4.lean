/-
  The reference's Clash: whether two unlike texts have one digest.
-/
import Derived.Test.YtjpmngjoohoddabDoorDigS3
set_option linter.unusedVariables false
set_option linter.unusedSimpArgs false
set_option maxRecDepth 20000
namespace Go.Proofs.YtjpmngjoohoddabDoor
open Go Go.Ab

def clashF : List (List UInt8) → List (List UInt8) → Bool
  | _, [] => false
  | T, x :: r => if T.contains x then clashF T r else if (T.map sha).contains (sha x) then true else clashF (T ++ [x]) r

/-- Texts of which no two have one digest. -/
def Apart (T : List (List UInt8)) : Prop := ∀ a ∈ T, ∀ b ∈ T, sha a = sha b → a = b

theorem clashF_apart : ∀ (r T : List (List UInt8)), clashF T r = false → Apart T → Apart (T ++ r)
  | [], T, h, hT => by rw [List.append_nil]; exact hT
  | x :: r, T, h, hT => by
    rw [clashF] at h
    split at h
    · rename_i hx
      have hx : x ∈ T := List.contains_iff_mem.1 hx
      have := clashF_apart r T h hT
      intro a ha b hb
      refine this a ?_ b ?_
      · simp only [List.mem_append, List.mem_cons] at ha ⊢
        rcases ha with ha | rfl | ha
        · exact .inl ha
        · exact .inl hx
        · exact .inr ha
      · simp only [List.mem_append, List.mem_cons] at hb ⊢
        rcases hb with hb | rfl | hb
        · exact .inl hb
        · exact .inl hx
        · exact .inr hb
    · split at h
      · cases h
      rename_i hx hd
      have hd : ∀ a ∈ T, sha a ≠ sha x := fun a ha e => hd (List.contains_iff_mem.2 (List.mem_map.2 ⟨a, ha, e⟩))
      have := clashF_apart r (T ++ [x]) h (by
        intro a ha b hb e
        simp only [List.mem_append, List.mem_singleton] at ha hb
        rcases ha with ha | rfl <;> rcases hb with hb | rfl
        · exact hT a ha b hb e
        · exact absurd e (hd a ha)
        · exact absurd e.symm (hd b hb)
        · rfl)
      rwa [List.append_assoc] at this

theorem HasText_ok {st fl : Bool} (l : List (List UInt8)) (s : List UInt8) (hl : l.length ≤ 9223372036854775806) : Calc cx 56 [.sl st fl 1 (texts l), .str s] (.bool (l.contains s)) :=
  pure_intro (fun a w => Tryd.call56 a w) Tryd.func56 rfl Tryd.ntmps56 rfl .bool fun B => by
    have htl := texts_len l
    refine ab 1000 rfl trivial ?_
    refine S_while (α := Nat) (fun i => [(0, .sl st fl 1 (texts l)), (1, .str s), (5, .int .i64 (i : Nat))]) (fun _ => []) (fun i => i ≤ l.length ∧ s ∉ l.take i) (fun i => l.length - i) 0
      ⟨Nat.zero_le _, by simp⟩ (.cons rfl (.cons rfl (.cons rfl (.nil _)))) rfl ?_
    rintro i ⟨hi, hN⟩
    have hi : i ≤ l.length := hi
    refine ab 1000 rfl trivial ?_
    refine S_dec rfl (fun hlt => ?_) (fun hlt => ?_)
    · have hil : i < l.length := by have : ((i : Nat) : Int) < ((texts l).length : Nat) := hlt; omega
      refine ab 1000 rfl trivial ?_
      refine S_index (.str l[i]) rfl rfl rfl ⟨rfl, by omega, by rw [Int.toNat_natCast]; exact texts_get hil, trivial⟩ ?_
      refine ab 1000 rfl trivial ?_
      refine S_cond rfl (fun h => ?_) (fun h => ?_)
      · have h : l[i] = s := by simpa using (show (l[i] == s) = true from h)
        refine ab 1000 rfl trivial ?_
        refine S_retc .bool rfl trivial ?_
        rw [List.contains_iff_mem.2 (by rw [← h]; exact List.getElem_mem hil)]; rfl
      · have h : l[i] ≠ s := by simpa using (show (l[i] == s) = false from h)
        refine ab 1000 rfl trivial ?_
        refine S_round (i + 1) (by show l.length - (i + 1) < l.length - i; omega) ⟨hil, fun hm => ?_⟩ (.cons rfl (.cons rfl (.cons (ai64 rfl (by omega)) (.nil _)))) rfl
        rw [List.take_succ_eq_append_getElem hil] at hm
        rcases List.mem_append.1 hm with hm | hm
        · exact hN hm
        · simp at hm; exact h hm.symm
    · have hil : i = l.length := by have : ¬ ((i : Nat) : Int) < ((texts l).length : Nat) := hlt; omega
      rw [hil, List.take_length] at hN
      refine ab 1000 rfl trivial ?_
      refine S_retc .bool rfl trivial ?_
      have : l.contains s = false := by
        cases h : l.contains s with
        | false => rfl
        | true => exact absurd (List.contains_iff_mem.1 h) hN
      rw [this]; rfl

def listsAV (LS : List (List (List UInt8))) : List AV := LS.map fun q => .sl true false 1 (texts q)

theorem Clash_ok {st fl : Bool} (LS : List (List (List UInt8))) (h1 : LS.length ≤ 1000) (h2 : ∀ q ∈ LS, q.length ≤ 2000000) (h3 : ∀ q ∈ LS, ∀ s ∈ q, s.length ≤ 2000000) :
    Calc cx 28 [.sl st fl 1 (listsAV LS)] (.bool (clashF [] LS.flatten)) :=
  pure_intro (fun a w => Tryd.call28 a w) Tryd.func28 rfl Tryd.ntmps28 rfl .bool fun B => by
    have hll : (listsAV LS).length = LS.length := by simp [listsAV]
    refine ab 1000 rfl trivial ?_
    refine S_ghostF (t := 3) 1 ⟨false, none⟩ rfl rfl ⟨_, _, .inl rfl⟩ ?_
    refine S_ghostF (t := 4) 1 ⟨false, none⟩ rfl rfl ⟨_, _, .inl rfl⟩ ?_
    have gL : ∀ {j : Nat} (h : j < LS.length), (listsAV LS)[((j : Nat) : Int).toNat]? = some (.sl true false 1 (texts LS[j])) := fun h => by
      rw [Int.toNat_natCast]; simp [listsAV, h]
    refine S_while (α := Nat × List (List UInt8) × Nat) (fun (i, T, u) => [(0, .sl st fl 1 (listsAV LS)), (3, .ms 0 u 0 T.length 1 false), (4, .ms 1 u 0 T.length 1 false), (5, .int .i64 (i : Nat))])
      (fun (i, T, u) => [(u, some (.cells (texts T) ⟨false, none⟩)), (u, some (.cells (texts (T.map sha)) ⟨false, none⟩))]) (fun (i, T, u) => i ≤ LS.length ∧ T.length ≤ 2000000 * i ∧ clashF T (LS.drop i).flatten = clashF [] LS.flatten) (fun (i, T, u) => LS.length - i) (0, [], 0)
      ⟨Nat.zero_le _, Nat.zero_le _, rfl⟩ (.cons rfl (.cons rfl (.cons rfl (.cons rfl (.nil _))))) rfl ?_
    rintro ⟨i, T, u⟩ ⟨g1, g2, g3⟩
    have g1 : i ≤ LS.length := g1
    have g2 : T.length ≤ 2000000 * i := g2
    refine ab 1000 rfl trivial ?_
    refine S_dec rfl (fun hlt => ?_) (fun hlt => ?_)
    · have hil : i < LS.length := by have : ((i : Nat) : Int) < (((listsAV LS).length : Nat) : Int) := hlt; omega
      obtain ⟨q, hq⟩ : ∃ q, q = LS[i] := ⟨_, rfl⟩
      have hqm : q ∈ LS := by rw [hq]; exact List.getElem_mem hil
      have gq := gL hil
      rw [← hq] at gq
      have hql := h2 q hqm
      have hqs := h3 q hqm
      have hqt := texts_len q
      have c0 : (0 : Int) ≤ ((i : Nat) : Int) := by omega
      have g3 : clashF T (q ++ (LS.drop (i + 1)).flatten) = clashF [] LS.flatten := by
        rw [← g3, List.drop_eq_getElem_cons hil, List.flatten_cons, hq]
      refine ab 1000 rfl trivial ?_
      refine S_while (α := Nat × List (List UInt8) × Nat) (fun (k, T, u) => [(0, .sl st fl 1 (listsAV LS)), (3, .ms 0 u 0 T.length 1 false), (4, .ms 1 u 0 T.length 1 false), (5, .int .i64 (i : Nat)), (6, .int .i64 (k : Nat))])
        (fun (k, T, u) => [(u, some (.cells (texts T) ⟨false, none⟩)), (u, some (.cells (texts (T.map sha)) ⟨false, none⟩))]) (fun (k, T, u) => k ≤ q.length ∧ T.length ≤ 2000000 * i + k ∧ clashF T (q.drop k ++ (LS.drop (i + 1)).flatten) = clashF [] LS.flatten) (fun (k, T, u) => q.length - k) (0, T, u)
        ⟨Nat.zero_le _, by omega, g3⟩ (.cons rfl (.cons rfl (.cons rfl (.cons rfl (.cons rfl (.nil _)))))) rfl ?_
      rintro ⟨k, T, u⟩ ⟨f1, f2, f3⟩
      have f1 : k ≤ q.length := f1
      have f2 : T.length ≤ 2000000 * i + k := f2
      have f3 : clashF T (q.drop k ++ (LS.drop (i + 1)).flatten) = clashF [] LS.flatten := f3
      have hTl := texts_len T
      have hDl := texts_len (T.map sha)
      rw [List.length_map] at hDl
      refine ab 1000 rfl trivial ?_
      refine S_index (.sl true false 1 (texts q)) rfl rfl rfl ⟨rfl, c0, gq, trivial⟩ ?_
      refine ab 1000 rfl trivial ?_
      refine S_dec rfl (fun hlt => ?_) (fun hlt => ?_)
      · have hkq : k < q.length := by have : ((k : Nat) : Int) < (((texts q).length : Nat) : Int) := hlt; omega
        have c1 : (0 : Int) ≤ ((k : Nat) : Int) := by omega
        obtain ⟨x, hx⟩ : ∃ x, x = q[k] := ⟨_, rfl⟩
        have hxs : x.length ≤ 2000000 := by rw [hx]; exact hqs _ (List.getElem_mem hkq)
        have gk : (texts q)[((k : Nat) : Int).toNat]? = some (.str x) := by rw [Int.toNat_natCast, hx]; exact texts_get hkq
        rw [List.drop_eq_getElem_cons hkq, ← hx, List.cons_append, clashF] at f3
        refine ab 1000 rfl trivial ?_
        refine S_index (.sl true false 1 (texts q)) rfl rfl rfl ⟨rfl, c0, gq, trivial⟩ ?_
        refine ab 1000 rfl trivial ?_
        refine S_index (.str x) rfl rfl rfl ⟨rfl, c1, gk, trivial⟩ ?_
        refine ab 1000 rfl trivial ?_
        refine S_pure rfl rfl rfl (HasText_ok (st := false) (fl := false) T x (by omega)) (.cons (.ms1 rfl (texts_one _) (by rw [texts_len]) (texts_any _)) (.cons (.refl .str) (.nil _))) ?_
        refine ab 1000 rfl trivial ?_
        refine S_cond rfl (fun hb => ?_) (fun hb => ?_)
        · have hb : T.contains x = true := hb
          rw [if_pos hb] at f3
          refine ab 1000 rfl trivial ?_
          exact S_round (k + 1, T, u) (by show q.length - (k + 1) < q.length - k; omega) ⟨hkq, by omega, f3⟩ (.cons rfl (.cons rfl (.cons rfl (.cons rfl (.cons (ai64 rfl (by omega)) (.nil _)))))) rfl
        · have hb : T.contains x = false := hb
          rw [if_neg (by rw [hb]; decide)] at f3
          refine ab 1000 rfl trivial ?_
          refine S_index (.sl true false 1 (texts q)) rfl rfl rfl ⟨rfl, c0, gq, trivial⟩ ?_
          refine ab 1000 rfl trivial ?_
          refine S_index (.str x) rfl rfl rfl ⟨rfl, c1, gk, trivial⟩ ?_
          refine ab 1000 rfl trivial ?_
          refine S_pure rfl rfl rfl (SumR_ok x (by omega)) (.cons (.refl .str) (.nil _)) ?_
          refine ab 1000 rfl trivial ?_
          refine S_pure rfl rfl rfl (HasText_ok (st := false) (fl := false) (T.map sha) (sha x) (by rw [List.length_map]; omega)) (.cons (.ms1 rfl (texts_one _) hDl (texts_any _)) (.cons (.refl .str) (.nil _))) ?_
          refine ab 1000 rfl trivial ?_
          refine S_cond rfl (fun hd => ?_) (fun hd => ?_)
          · have hd : (T.map sha).contains (sha x) = true := hd
            rw [if_pos hd] at f3
            refine ab 1000 rfl trivial ?_
            refine S_retc .bool rfl trivial ?_
            rw [← f3]; rfl
          · have hd : (T.map sha).contains (sha x) = false := hd
            rw [if_neg (by rw [hd]; decide)] at f3
            refine ab 1000 rfl trivial ?_
            refine S_index (.sl true false 1 (texts q)) rfl rfl rfl ⟨rfl, c0, gq, trivial⟩ ?_
            refine ab 1000 rfl trivial ?_
            refine S_index (.str x) rfl rfl rfl ⟨rfl, c1, gk, trivial⟩ ?_
            refine ab 1000 rfl ⟨?_, ?_, ?_, rfl, rfl, allOne_mem (cs := [.str _]) rfl, allOne_mem (cs := [.str _]) rfl, rfl, ?_, ?_, ?_, rfl, rfl, allOne_mem (cs := [.str _]) rfl, allOne_mem (cs := [.str _]) rfl, rfl, trivial⟩ ?_
            · show T.length + 1 ≤ 9223372036854775807; omega
            · show (T.length + 1) * 16 ≤ 140737488355328; omega
            · show 0 + T.length * 1 = (texts (T.map sha)).length; omega
            · show T.length + 1 ≤ 9223372036854775807; omega
            · show (T.length + 1) * 16 ≤ 140737488355328; omega
            · show 0 + T.length * 1 = (texts T).length; omega
            refine S_round (k + 1, T ++ [x], u + 1) (by show q.length - (k + 1) < q.length - k; omega) ⟨hkq, by rw [List.length_append]; simp only [List.length_cons, List.length_nil]; omega, f3⟩
              (.cons rfl (.cons (by simp; rfl) (.cons (by simp; rfl) (.cons rfl (.cons (ai64 rfl (by omega)) (.nil _)))))) ?_
            show [(u + 1, some (Box.cells (texts T ++ [.str x]) ⟨false, none⟩)), (u + 1, some (Box.cells (texts (T.map sha) ++ [.str (sha x)]) ⟨false, none⟩))] = _
            simp [texts]
      · have hkq : k = q.length := by have : ¬ ((k : Nat) : Int) < (((texts q).length : Nat) : Int) := hlt; omega
        rw [hkq, List.drop_length, List.nil_append] at f3
        refine ab 1000 rfl trivial ?_
        exact S_round (i + 1, T, u) (by show LS.length - (i + 1) < LS.length - i; omega) ⟨hil, by omega, f3⟩ (.cons rfl (.cons rfl (.cons rfl (.cons (ai64 rfl (by omega)) (.nil _))))) rfl
    · have hil : i = LS.length := by have : ¬ ((i : Nat) : Int) < (((listsAV LS).length : Nat) : Int) := hlt; omega
      have g3 : clashF T (LS.drop i).flatten = clashF [] LS.flatten := g3
      rw [hil, List.drop_length] at g3
      refine ab 1000 rfl trivial ?_
      refine S_retc .bool rfl trivial ?_
      rw [← g3]; rfl

end Go.Proofs.YtjpmngjoohoddabDoor
