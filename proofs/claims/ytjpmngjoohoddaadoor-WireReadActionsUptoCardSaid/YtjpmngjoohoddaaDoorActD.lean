/-
  Actions: ReadAction; what is packed is read as it was; the reference's SameAction.
-/
import Derived.Test.YtjpmngjoohoddaaDoorActC
import Derived.Test.YtjpmngjoohoddaaDoorWireQ
set_option linter.unusedVariables false
set_option linter.unusedSimpArgs false
set_option maxRecDepth 20000
namespace Go.Proofs.YtjpmngjoohoddaaDoor
open Go Go.Ab

theorem ReadAction_ok (s : List UInt8) (hs : s.length ≤ 1099511627776) : Calc cx 14 [.str s] (.tup [actAV true (readA s).1, .int .i64 (readA s).2]) :=
  pure_intro (fun a w => Tryd.call14 a w) Tryd.func14 rfl Tryd.ntmps14 rfl (readAV_ok _) fun B => by
    refine ab 1000 rfl trivial ?_
    refine S_pure rfl rfl rfl (readAct_ok s hs) (.cons (.refl .str) (.cons (.refl (.func (fun x h => by cases h) (fun x h => by cases h))) (.cons (.refl (.func (fun x h => by cases h) (fun x h => by cases h))) (.nil _)))) ?_
    refine ab 1000 rfl ⟨lble rfl, rfl, trivial⟩ ?_
    exact S_retc (readAV_ok _) rfl ⟨rfl, trivial⟩ rfl

theorem readA_ok {s : List UInt8} {x : ActV} {e : Nat} (h : readA s = (x, e)) : (e = 0 ∧ actE x = 0 ∧ packA x = s) ∨ (e = 1 ∧ x = act0) := by
  unfold readA at h
  split at h
  · cases h; exact .inr ⟨rfl, rfl⟩
  · rename_i x' r hx
    by_cases hc : actE x' = 0 ∧ packA x' = s
    · rw [if_pos hc] at h; cases h; exact .inl ⟨rfl, hc.1, hc.2⟩
    · rw [if_neg hc] at h; cases h; exact .inr ⟨rfl, rfl⟩

theorem readA_fit {s : List UInt8} (hs : s.length ≤ 1099511627776) : ActOk (readA s).1 := by
  unfold readA
  split
  · exact ⟨Nat.zero_le _, Nat.zero_le _, Nat.zero_le _, by intro t h; simp [act0] at h⟩
  · rename_i x r hx
    split
    · exact rAct_fit hx hs
    · exact ⟨Nat.zero_le _, Nat.zero_le _, Nat.zero_le _, by intro t h; simp [act0] at h⟩

theorem SameAction_ok {st st' : Bool} (a b : ActV) (ha : ActOk a) (hb : ActOk b) : Calc cx 15 [actAV st a, actAV st' b] (.bool ((a.cmd == b.cmd) && (a.inp == b.inp) && (a.outs == b.outs) && (a.fuel == b.fuel))) :=
  pure_intro (fun a w => Tryd.call15 a w) Tryd.func15 rfl Tryd.ntmps15 rfl .bool fun B => by
    obtain ⟨c1, i1, o1, f1⟩ := a
    obtain ⟨c2, i2, o2, f2⟩ := b
    obtain ⟨ha1, ha2, ha3, ha4⟩ := ha
    obtain ⟨hb1, hb2, hb3, hb4⟩ := hb
    simp only at ha1 ha3 hb1 hb3
    have lend : ∀ (σ : Heap) (x : List (List UInt8)), Frz false σ (.sl st false 1 (texts x)) (.sl st false 1 (texts x)) := fun σ x => .refl (.sl (fun h => by cases h) (texts_any x))
    have lend' : ∀ (σ : Heap) (x : List (List UInt8)), Frz false σ (.sl st' false 1 (texts x)) (.sl st' false 1 (texts x)) := fun σ x => .refl (.sl (fun h => by cases h) (texts_any x))
    refine ab 1000 rfl ⟨rfl, rfl, trivial⟩ ?_
    refine S_pure rfl rfl rfl (SameTexts_ok (st := st) (st' := st') (fl := false) (fl' := false) c1 c2 (by omega) (by omega)) (.cons (lend _ _) (.cons (lend' _ _) (.nil _))) ?_
    refine ab 1000 rfl trivial ?_
    refine S_guard rfl rfl rfl rfl (fun h1 => ?_) (fun h1 => ?_)
    · refine ab 1000 rfl ⟨rfl, rfl, trivial⟩ ?_
      refine S_guard rfl rfl rfl rfl (fun h2 => ?_) (fun h2 => ?_)
      · refine ab 1000 rfl ⟨rfl, rfl, trivial⟩ ?_
        refine S_pure rfl rfl rfl (SameTexts_ok (st := st) (st' := st') (fl := false) (fl' := false) o1 o2 (by omega) (by omega)) (.cons (lend _ _) (.cons (lend' _ _) (.nil _))) ?_
        refine ab 1000 rfl trivial ?_
        refine S_guard rfl rfl rfl rfl (fun h3 => ?_) (fun h3 => ?_)
        · refine ab 1000 rfl ⟨rfl, rfl, trivial⟩ ?_
          refine S_retc .bool rfl trivial ?_
          show AV.bool (f1 == f2) = .bool ((c1 == c2) && (i1 == i2) && (o1 == o2) && (f1 == f2))
          rw [show (c1 == c2) = true from h1, show (i1 == i2) = true from h2, show (o1 == o2) = true from h3]; simp
        · refine ab 1000 rfl trivial ?_
          refine S_retc .bool rfl trivial ?_
          show AV.bool false = .bool ((c1 == c2) && (i1 == i2) && (o1 == o2) && (f1 == f2))
          rw [show (o1 == o2) = false from h3]; simp
      · refine ab 1000 rfl trivial ?_
        refine S_guard rfl rfl rfl rfl (fun h => by cases h) (fun _ => ?_)
        refine ab 1000 rfl trivial ?_
        refine S_retc .bool rfl trivial ?_
        show AV.bool false = .bool ((c1 == c2) && (i1 == i2) && (o1 == o2) && (f1 == f2))
        rw [show (i1 == i2) = false from h2]; simp
    · refine ab 1000 rfl trivial ?_
      refine S_guard rfl rfl rfl rfl (fun h => by cases h) (fun _ => ?_)
      refine ab 1000 rfl trivial ?_
      refine S_guard rfl rfl rfl rfl (fun h => by cases h) (fun _ => ?_)
      refine ab 1000 rfl trivial ?_
      refine S_retc .bool rfl trivial ?_
      show AV.bool false = .bool ((c1 == c2) && (i1 == i2) && (o1 == o2) && (f1 == f2))
      rw [show (c1 == c2) = false from h1]; simp

theorem actBeq (a b : ActV) : ((a.cmd == b.cmd) && (a.inp == b.inp) && (a.outs == b.outs) && (a.fuel == b.fuel)) = true ↔ a = b := by
  obtain ⟨c1, i1, o1, f1⟩ := a
  obtain ⟨c2, i2, o2, f2⟩ := b
  simp [and_assoc]

end Go.Proofs.YtjpmngjoohoddaaDoor
