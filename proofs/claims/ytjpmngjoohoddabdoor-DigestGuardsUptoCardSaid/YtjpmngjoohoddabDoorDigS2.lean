/-
  The reference's Summed: what is summed on the way to a root.
-/
import Derived.Test.YtjpmngjoohoddabDoorDigG
import Derived.Test.YtjpmngjoohoddabDoorDigK
set_option linter.unusedVariables false
set_option linter.unusedSimpArgs false
set_option maxRecDepth 20000
namespace Go.Proofs.YtjpmngjoohoddabDoor
open Go Go.Ab

theorem summedL_len (n : Nat) : ∀ (l : List (List UInt8)), l.length = n → (summedL l).length ≤ 2 * l.length + 1 ∧ (1 ≤ l.length → (summedL l).length ≤ 2 * l.length - 1) := by
  induction n using Nat.strongRecOn with
  | _ n ih =>
    intro l hl
    rw [summedL]
    split
    · rename_i h; refine ⟨by simp, fun h1 => absurd h (by omega)⟩
    · split
      · simp; omega
      · have hs := halfN_spec (n := l.length) (by omega)
        have a1 := (ih (halfN l.length) (by omega) (l.take (halfN l.length)) (by rw [List.length_take]; omega)).2 (by rw [List.length_take]; omega)
        have a2 := (ih (l.length - halfN l.length) (by omega) (l.drop (halfN l.length)) (by rw [List.length_drop])).2 (by rw [List.length_drop]; omega)
        rw [List.length_take] at a1
        rw [List.length_drop] at a2
        simp only [List.length_append, List.length_cons, List.length_nil]
        omega

/-- How often the list was written to. -/
def sumU (l : List (List UInt8)) : Nat := if h : l.length ≤ 1 then 0 else sumU (l.take (halfN l.length)) + 2
termination_by l.length
decreasing_by have := halfN_spec (n := l.length) (by omega); rw [List.length_take]; omega

def OwnU (u : Nat) (q : List (List UInt8)) : Out → Heap → Prop := fun o σ => o = .ret (.ms 0 u 0 q.length 1 false) ∧ σ = [(u, some (.cells (texts q) ⟨false, none⟩))]

theorem ownU_calc {f : FuncId} {args : List AV} {u : Nat} {q : List (List UInt8)} (h : CallOk cx f args [] (OwnU u q)) : Calc cx f args (.sl true false 1 (texts q)) :=
  calc_of (.sl (fun _ => rfl) (texts_any _)) (h.mono fun o σ' ⟨h1, h2⟩ => ⟨_, h1, by rw [h2]; exact .ms1 rfl (texts_one _) (by rw [texts_len]) (texts_any _)⟩)

theorem SummedC (n : Nat) : ∀ {st fl : Bool} (l : List (List UInt8)), l.length = n → TextsFit l → CallOk cx 29 [.sl st fl 1 (texts l)] [] (OwnU (sumU l) (summedL l)) := by
  induction n using Nat.strongRecOn with
  | _ n ih =>
    intro st fl l hl hf
    have htl := texts_len l
    have hf1 := hf.len
    exact callOk_intro (fun a w => Tryd.call29 a w) Tryd.func29 rfl Tryd.ntmps29 rfl fun B => by
      refine ab 1000 rfl trivial ?_
      refine S_beq rfl (fun h => ?_) (fun h => ?_)
      · have h0 : l.length = 0 := by have : (((texts l).length : Nat) : Int) = 0 := h; omega
        rw [summedL, if_pos h0, sumU, dif_pos (by omega)]
        refine go (M := [8]) 1000 rfl trivial ?_
        refine S_unfull (t := 2) rfl ⟨_, _, .inl rfl⟩ ?_
        refine ab 1000 rfl trivial ?_
        exact S_ret ⟨_, _, rfl, trivial, rfl, rfl⟩
      have h0 : l.length ≠ 0 := by have : ¬ (((texts l).length : Nat) : Int) = 0 := h; omega
      refine ab 1000 rfl trivial ?_
      refine S_beq rfl (fun h => ?_) (fun h => ?_)
      · have h1 : l.length = 1 := by have : (((texts l).length : Nat) : Int) = 1 := h; omega
        rw [summedL, if_neg h0, dif_pos (by omega), sumU, dif_pos (by omega)]
        match l, h1 with
        | [a], _ =>
          have ha := hf.txt a (by simp)
          refine ab 1000 rfl trivial ?_
          refine S_draw 5 [] [.str a] rfl rfl rfl rfl ⟨rfl, rfl, rfl, ?_, rfl, rfl, by decide, rfl, rfl, trivial⟩ ?_
          · intro x hx
            rw [List.mem_singleton] at hx; subst hx
            trivial
          refine go (M := [18]) 1000 rfl ⟨?_, trivial⟩ ?_
          · show ((1 + a.length : Nat) : Int) ≤ 9223372036854775807; omega
          refine S_unfull (t := 2) rfl ⟨_, _, .inl rfl⟩ ?_
          refine ab 1000 rfl trivial ?_
          exact S_ret ⟨_, _, rfl, trivial, rfl, rfl⟩
      have h1 : l.length ≠ 1 := by have : ¬ (((texts l).length : Nat) : Int) = 1 := h; omega
      have hs := halfN_spec (n := l.length) (by omega)
      obtain ⟨k, hk⟩ : ∃ k, k = halfN l.length := ⟨_, rfl⟩
      rw [← hk] at hs
      rw [summedL, if_neg h0, dif_neg (by omega), sumU, dif_neg (by omega), ← hk]
      refine ab 1000 rfl trivial ?_
      refine S_pure rfl rfl rfl (by have := Half_ok (texts l).length (by omega) (by omega); rwa [htl, ← hk] at this) (.cons (by rw [← htl]; exact .refl .int) (.nil _)) ?_
      refine ab 1000 rfl trivial ?_
      have eA : (texts l).take k = texts (l.take k) := by simp [texts]
      have eB : (texts l).drop k = texts (l.drop k) := by simp [texts]
      have fB : ∀ (σ : Heap) (fl : Bool), Frz false σ (.sl st fl 1 ((texts l).drop ((k : Nat) : Int).toNat)) (.sl false false 1 (texts (l.drop k))) := fun σ fl => by
        rw [Int.toNat_natCast, eB]; exact .lend rfl (fun h => by cases h) (texts_any _)
      have fA : ∀ (σ : Heap) (fl : Bool), Frz false σ (.sl st fl 1 ((texts l).take ((k : Nat) : Int).toNat)) (.sl false false 1 (texts (l.take k))) := fun σ fl => by
        rw [Int.toNat_natCast, eA]; exact .lend rfl (fun h => by cases h) (texts_any _)
      have b1 : (0 : Int) ≤ (k : Nat) ∧ ((k : Nat) : Int) ≤ ((texts l).length : Nat) := by omega
      have hp := ih k (by omega) (st := st) (fl := true) (l.take k) (by rw [List.length_take]; omega) (hf.take k)
      have hp2 := ih (l.length - k) (by omega) (st := false) (fl := false) (l.drop k) (by rw [List.length_drop]) (hf.drop k)
      have l1 := (summedL_len _ (l.take k) rfl).1
      have l2 := (summedL_len _ (l.drop k) rfl).1
      rw [List.length_take] at l1
      rw [List.length_drop] at l2
      obtain ⟨q, hq⟩ : ∃ q, q = summedL (l.take k) := ⟨_, rfl⟩
      obtain ⟨q2, hq2⟩ : ∃ q, q = summedL (l.drop k) := ⟨_, rfl⟩
      obtain ⟨u, hu⟩ : ∃ u, u = sumU (l.take k) := ⟨_, rfl⟩
      rw [← hq] at hp l1 ⊢
      rw [← hq2] at hp2 l2 ⊢
      rw [← hu] at hp ⊢
      have hql := texts_len q
      have hql2 := texts_len q2
      refine S_drawC [(u, some (.cells (texts q) ⟨false, none⟩))] 4 8 [] [.ms 0 u 0 q.length 1 false] rfl rfl rfl rfl rfl
        ⟨rfl, rfl, rfl, rfl, rfl, rfl, rfl, rfl, rfl, rfl, b1.1, b1.2, rfl, rfl, rfl, b1.1, b1.2, rfl, rfl, rfl, ⟨_, hp, ?_⟩, rfl, rfl, rfl, rfl, rfl, rfl, rfl, b1.1, b1.2, rfl, rfl, b1.1, b1.2, rfl, rfl, trivial⟩ ?_
      · show [AV.sl st true 1 ((texts l).take ((k : Nat) : Int).toNat)] = _
        rw [Int.toNat_natCast, eA]
      refine ab 1000 rfl trivial ?_
      refine S_pure rfl rfl rfl (ownU_calc hp2) (.cons (fB _ _) (.nil _)) ?_
      refine ab 1000 rfl ⟨?_, ?_, ?_, rfl, rfl, texts_one _, texts_one _, rfl, trivial⟩ ?_
      · show q.length + (texts q2).length ≤ 9223372036854775807; omega
      · show (q.length + (texts q2).length) * 16 ≤ 140737488355328; omega
      · show 0 + q.length * 1 = (texts q).length; omega
      obtain ⟨Q, hQ⟩ : ∃ Q, Q = q ++ q2 := ⟨_, rfl⟩
      have hQl : Q.length = q.length + q2.length := by rw [hQ, List.length_append]
      have htQ : texts Q = texts q ++ texts q2 := by rw [hQ]; simp [texts]
      have hQt := texts_len Q
      refine S_heap (σ' := [(u + 1, some (.cells (texts Q) ⟨false, none⟩))]) (by rw [htQ]; rfl) ?_
      refine S_code_weak (fr' := [(0, .sl st fl 1 (texts l)), (3, .int .i64 (k : Nat)), (4, .ms 0 (u + 1) 0 Q.length 1 false)]) (.cons rfl (.cons rfl (.cons (by rw [hQl, ← hql2]; rfl) (.nil _)))) ?_
      rw [← hQ]
      refine S_draw 12 [] [.str (rootS (l.take k)), .str (rootS (l.drop k)), .str (pairT (rootS (l.take k)) (rootS (l.drop k)))] rfl rfl rfl rfl
        ⟨rfl, rfl, rfl, rfl, rfl, b1.1, b1.2, rfl, rfl, ⟨_, RootOf_ok (st := false) (fl := false) _ (hf.take k), .cons (fA _ _) (.nil _)⟩, rfl, rfl, rfl, b1.1, b1.2, rfl, ⟨_, RootOf_ok (st := false) (fl := false) _ (hf.drop k), .cons (fB _ _) (.nil _)⟩,
          ⟨_, pairText_ok _ _ (rootS_dig _) (rootS_dig _), .cons (.refl .str) (.cons (.refl .str) (.nil _))⟩, rfl, trivial⟩ ?_
      refine ab 1000 rfl ⟨?_, ?_, ?_, rfl, rfl, allOne_mem (cs := [.str _]) rfl, allOne_mem (cs := [.str _]) rfl, rfl, trivial⟩ ?_
      · show Q.length + 1 ≤ 9223372036854775807; omega
      · show (Q.length + 1) * 16 ≤ 140737488355328; omega
      · show 0 + Q.length * 1 = (texts Q).length; omega
      refine S_ret ⟨_, _, rfl, trivial, ?_, ?_⟩
      · rw [List.length_append]; rfl
      · show [(u + 1 + 1, some (Box.cells (texts Q ++ [.str (pairT (rootS (l.take k)) (rootS (l.drop k)))]) ⟨false, none⟩))] = _
        simp [texts]

end Go.Proofs.YtjpmngjoohoddabDoor
