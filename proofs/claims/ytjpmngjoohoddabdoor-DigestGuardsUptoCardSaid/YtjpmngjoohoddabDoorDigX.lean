/-
  The reference's ProofOf.
-/
import Derived.Test.YtjpmngjoohoddabDoorDigW
set_option linter.unusedVariables false
set_option linter.unusedSimpArgs false
set_option maxRecDepth 20000
namespace Go.Proofs.YtjpmngjoohoddabDoor
open Go Go.Ab

theorem ProofOfC (n : Nat) : ∀ {st fl : Bool} (l : List (List UInt8)) (i : Nat), l.length = n → 1 ≤ n → i ≤ 2000 → TextsFit l → CallOk cx 25 [.sl st fl 1 (texts l), .int .i64 (i : Nat)] [] (OwnL (proofL l i)) := by
  induction n using Nat.strongRecOn with
  | _ n ih =>
    intro st fl l i hl h1n hi hf
    have htl := texts_len l
    have hf1 := hf.len
    exact callOk_intro (fun a w => Tryd.call25 a w) Tryd.func25 rfl Tryd.ntmps25 rfl fun B => by
      refine ab 1000 rfl trivial ?_
      refine S_beq rfl (fun h => ?_) (fun h => ?_)
      · have h1 : l.length = 1 := by have : (((texts l).length : Nat) : Int) = 1 := h; omega
        rw [proofL, dif_pos (by omega)]
        refine go (M := [4]) 4 rfl trivial ?_
        refine S_ghostF (t := 4) 1 ⟨false, none⟩ rfl rfl ⟨_, _, .inl rfl⟩ ?_
        refine ab 1000 rfl trivial ?_
        exact S_ret ⟨_, _, rfl, trivial, rfl, rfl⟩
      have h1 : l.length ≠ 1 := by have : ¬ (((texts l).length : Nat) : Int) = 1 := h; omega
      have hs := halfN_spec (n := l.length) (by omega)
      obtain ⟨k, hk⟩ : ∃ k, k = halfN l.length := ⟨_, rfl⟩
      rw [← hk] at hs
      refine ab 1000 rfl trivial ?_
      refine S_pure rfl rfl rfl (by have := Half_ok (texts l).length (by omega) (by omega); rwa [htl, ← hk] at this) (.cons (by rw [← htl]; exact .refl .int) (.nil _)) ?_
      refine ab 1000 rfl trivial ?_
      have eA : (texts l).take k = texts (l.take k) := by simp [texts]
      have eB : (texts l).drop k = texts (l.drop k) := by simp [texts]
      have fB : ∀ (σ : Heap) (fl : Bool), Frz false σ (.sl st fl 1 ((texts l).drop ((k : Nat) : Int).toNat)) (.sl false false 1 (texts (l.drop k))) := fun σ fl => by
        rw [Int.toNat_natCast, eB]; exact .lend rfl (fun h => by cases h) (texts_any _)
      have fA : ∀ (σ : Heap) (fl : Bool), Frz false σ (.sl st fl 1 ((texts l).take ((k : Nat) : Int).toNat)) (.sl false false 1 (texts (l.take k))) := fun σ fl => by
        rw [Int.toNat_natCast, eA]; exact .lend rfl (fun h => by cases h) (texts_any _)
      have b1 : (0 : Int) ≤ (k : Nat) ∧ ((k : Nat) : Int) ≤ ((texts l).length : Nat) := by omega
      refine S_dec rfl (fun h => ?_) (fun h => ?_)
      · have h : i < k := by have : ((i : Nat) : Int) < ((k : Nat) : Int) := h; omega
        rw [proofL, dif_neg (by omega), ← hk, if_pos h]
        have hp := ih k (by omega) (st := st) (fl := true) (l.take k) i (by rw [List.length_take]; omega) (by omega) hi (hf.take k)
        obtain ⟨q, hq⟩ : ∃ q, q = proofL (l.take k) i := ⟨_, rfl⟩
        rw [← hq] at hp ⊢
        refine ab 1000 rfl trivial ?_
        have hpl : q.length ≤ 2000 := by have := proofL_len _ (l.take k) i rfl; rw [← hq, List.length_take] at this; omega
        have hql := texts_len q
        refine S_drawC [(q.length, some (.cells (texts q) ⟨false, none⟩))] 5 9 [] [.ms 0 q.length 0 q.length 1 false] rfl rfl rfl rfl rfl
          ⟨rfl, rfl, rfl, rfl, rfl, rfl, rfl, rfl, rfl, rfl, b1.1, b1.2, rfl, rfl, rfl, b1.1, b1.2, rfl, rfl, rfl, rfl, rfl, rfl, ⟨_, hp, ?_⟩, rfl, rfl, rfl, rfl, rfl, rfl, rfl, b1.1, b1.2, rfl, rfl, b1.1, b1.2, rfl, rfl, trivial⟩ ?_
        · show [AV.sl st true 1 ((texts l).take ((k : Nat) : Int).toNat), _] = _
          rw [Int.toNat_natCast, eA]
          rfl
        refine ab 1000 rfl trivial ?_
        refine S_pure rfl rfl rfl (RootOf_ok (st := false) (fl := false) (l.drop k) (hf.drop k)) (.cons (fB _ _) (.nil _)) ?_
        refine ab 1000 rfl ⟨?_, ?_, ?_, rfl, rfl, allOne_mem (cs := [.str _]) rfl, allOne_mem (cs := [.str _]) rfl, rfl, trivial⟩ ?_
        · show q.length + 1 ≤ 9223372036854775807; omega
        · show (q.length + 1) * 16 ≤ 140737488355328; omega
        · show 0 + q.length * 1 = (texts q).length; omega
        refine S_ret ⟨_, _, rfl, trivial, ?_, ?_⟩
        · rw [List.length_append]; rfl
        · show [(q.length + 1, some (Box.cells (texts q ++ [.str (rootS (l.drop k))]) ⟨false, none⟩))] = _
          rw [List.length_append]; simp [texts]
      · have h : k ≤ i := by have : ¬ ((i : Nat) : Int) < ((k : Nat) : Int) := h; omega
        rw [proofL, dif_neg (by omega), ← hk, if_neg (by omega)]
        have hp := ih (l.length - k) (by omega) (st := st) (fl := fl) (l.drop k) (i - k) (by rw [List.length_drop]) (by omega) (by omega) (hf.drop k)
        obtain ⟨q, hq⟩ : ∃ q, q = proofL (l.drop k) (i - k) := ⟨_, rfl⟩
        rw [← hq] at hp ⊢
        have hpl : q.length ≤ 2000 := by have := proofL_len _ (l.drop k) (i - k) rfl; rw [← hq, List.length_drop] at this; omega
        have hql := texts_len q
        have hw : AV.int .i64 (IntKind.i64.wrap (((i : Nat) : Int) - ((k : Nat) : Int))) = .int .i64 ((i - k : Nat) : Int) := ai64 (by omega) (by omega)
        refine ab 1000 rfl trivial ?_
        refine S_drawC [(q.length, some (.cells (texts q) ⟨false, none⟩))] 6 10 [] [.ms 0 q.length 0 q.length 1 false] rfl rfl rfl rfl rfl
          ⟨rfl, rfl, rfl, rfl, rfl, rfl, rfl, b1.1, b1.2, rfl, rfl, b1.1, b1.2, rfl, rfl, rfl, rfl, rfl, rfl, rfl, rfl, rfl, rfl, rfl, ⟨_, hp, ?_⟩, rfl, rfl, rfl, rfl, rfl, rfl, rfl, b1.1, b1.2, rfl, rfl, b1.1, b1.2, rfl, rfl, trivial⟩ ?_
        · show [AV.sl st fl 1 ((texts l).drop ((k : Nat) : Int).toNat), AV.int .i64 (IntKind.i64.wrap (((i : Nat) : Int) - ((k : Nat) : Int)))] = _
          rw [Int.toNat_natCast, eB, hw]
        refine ab 1000 rfl trivial ?_
        refine S_pure rfl rfl rfl (RootOf_ok (st := false) (fl := false) (l.take k) (hf.take k)) (.cons (fA _ _) (.nil _)) ?_
        refine ab 1000 rfl ⟨?_, ?_, ?_, rfl, rfl, allOne_mem (cs := [.str _]) rfl, allOne_mem (cs := [.str _]) rfl, rfl, trivial⟩ ?_
        · show q.length + 1 ≤ 9223372036854775807; omega
        · show (q.length + 1) * 16 ≤ 140737488355328; omega
        · show 0 + q.length * 1 = (texts q).length; omega
        refine S_ret ⟨_, _, rfl, trivial, ?_, ?_⟩
        · rw [List.length_append]; rfl
        · show [(q.length + 1, some (Box.cells (texts q ++ [.str (rootS (l.take k))]) ⟨false, none⟩))] = _
          rw [List.length_append]; simp [texts]

end Go.Proofs.YtjpmngjoohoddabDoor
