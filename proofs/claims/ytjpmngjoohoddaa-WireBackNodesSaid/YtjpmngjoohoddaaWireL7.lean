/-
  The law WireBackNodes.
-/
import Derived.Test.YtjpmngjoohoddaaNodeQ
import Derived.Test.YtjpmngjoohoddaaRefI
set_option linter.unusedVariables false
set_option linter.unusedSimpArgs false
set_option maxRecDepth 20000
namespace Go.Proofs.Ytjpmngjoohoddaa
open Go Go.Ab

theorem cmpNode : cmpOk cx.P 93 = true := by kernel_rfl

theorem nodeBeq (a b : NodeV) : ((a.name == b.name) && ((a.kind == b.kind) && ((a.dig == b.dig) && true))) = true ↔ a = b := by
  obtain ⟨a1, a2, a3⟩ := a
  obtain ⟨b1, b2, b3⟩ := b
  simp

instance : DecidableEq NodeV := fun a b => decidable_of_iff _ (nodeBeq a b)

theorem SameNodes_ok {st st' fl fl' : Bool} (a b : List NodeV) (hl : a.length ≤ 9223372036854775806) (hb : b.length ≤ 9223372036854775807) : Calc cx 34 [.sl st fl 3 (nodes a), .sl st' fl' 3 (nodes b)] (.bool (decide (a = b))) :=
  pure_intro (fun a w => Try.call34 a w) Try.func34 rfl Try.ntmps34 rfl .bool fun B => by
    refine ab 1000 rfl trivial ?_
    refine S_bne rfl (fun h => ?_) (fun h => ?_)
    · refine ab 1000 rfl trivial ?_
      refine S_retc .bool rfl trivial ?_
      have hne : a ≠ b := by
        intro e; subst e; exact h rfl
      rw [decide_eq_false hne]; rfl
    · have hlen : a.length = b.length := by simp [nodes] at h; omega
      refine ab 1000 rfl trivial ?_
      refine S_while (α := Nat) (fun i => [(0, .sl st fl 3 (nodes a)), (1, .sl st' fl' 3 (nodes b)), (5, .int .i64 i)]) (fun _ => []) (fun i => i ≤ a.length ∧ a.take i = b.take i) (fun i => a.length - i) 0
        ⟨by simp, by simp⟩ (.cons rfl (.cons rfl (.cons rfl (.nil _)))) rfl ?_
      rintro i ⟨hi, hN⟩
      refine ab 1000 rfl trivial ?_
      refine S_dec rfl (fun h => ?_) (fun h => ?_)
      · have hil : i < a.length := by simp [nodes] at h; omega
        have hil' : i < b.length := by omega
        refine ab 1000 rfl trivial ?_
        refine S_draw 9 [] [nodeAV a[i], nodeAV b[i]] rfl rfl rfl rfl ⟨rfl, rfl, rfl, by omega, by rw [Int.toNat_natCast]; exact nodes_get hil, rfl, rfl, rfl, rfl, by omega, by rw [Int.toNat_natCast]; exact nodes_get hil', rfl, rfl, cmpNode, trivial⟩ ?_
        refine ab 1000 rfl trivial ?_
        refine S_cond rfl (fun h => ?_) (fun h => ?_)
        · have hne : a[i] ≠ b[i] := fun e => by
            have h' : (!((a[i].name == b[i].name) && ((a[i].kind == b[i].kind) && ((a[i].dig == b[i].dig) && true)))) = true := h
            rw [(nodeBeq _ _).2 e] at h'; cases h'
          refine ab 1000 rfl trivial ?_
          refine S_retc .bool rfl trivial ?_
          have hne : a ≠ b := by
            intro e; subst e; exact hne rfl
          rw [decide_eq_false hne]; rfl
        · have he : a[i] = b[i] := (nodeBeq _ _).1 (by
            have h' : (!((a[i].name == b[i].name) && ((a[i].kind == b[i].kind) && ((a[i].dig == b[i].dig) && true)))) = false := h
            simpa using h')
          refine ab 1000 rfl trivial ?_
          refine S_round (i + 1) (by show a.length - (i + 1) < a.length - i; omega) ⟨hil, ?_⟩ (.cons rfl (.cons rfl (.cons (ai64 rfl (by omega)) (.nil _)))) rfl
          rw [List.take_succ_eq_append_getElem hil, List.take_succ_eq_append_getElem hil', hN, he]
      · have hil : i = a.length := by simp [nodes] at h; omega
        refine ab 1000 rfl trivial ?_
        refine S_retc .bool rfl trivial ?_
        have he : a = b := by
          rw [← List.take_of_length_le (l := a) (i := i) (by omega), ← List.take_of_length_le (l := b) (i := i) (by omega)]; exact hN
        rw [decide_eq_true he]; rfl

theorem packNs_length {l : List NodeV} (h : NodesFit l) : (packNs l).length ≤ 10000 := by
  have h1 := packNs_len h.name h.dig
  have h2 := packN_len 9 l.length
  have h3 := h.len
  simp only [packNs, List.length_append]; omega

theorem WireBackNodes_ok (l o : List NodeV) (hl : NodesOk l) (ho : NodesOk o) : Calc cx 10 [.sl true false 3 (nodes l), .sl true false 3 (nodes o)] (.bool true) :=
  pure_intro (fun a w => Try.call10 a w) Try.func10 rfl Try.ntmps10 rfl .bool fun B => by
    have lend : ∀ (σ : Heap) (x : List NodeV), Frz false σ (.sl true false 3 (nodes x)) (.sl true false 3 (nodes x)) := fun σ x => .refl (.sl (fun h => by cases h) (nodes_any x))
    refine ab 1000 rfl trivial ?_
    refine S_pure rfl rfl rfl wireBegun_ok (.nil _) ?_
    refine ab 1000 rfl trivial ?_
    refine S_cond rfl (fun h => by cases h) (fun _ => ?_)
    refine ab 1000 rfl trivial ?_
    refine S_pure rfl rfl rfl (Nodes_ok (st := true) (fl := false) l hl) (.cons (lend _ _) (.nil _)) ?_
    by_cases hc : chkN l = 0
    · rw [hc, if_pos rfl]
      have hll := (chk_fit hc).len
      have hol := ho.len
      refine ab 1000 rfl trivial ?_
      refine S_cond rfl (fun h => by cases h) (fun _ => ?_)
      refine ab 1000 rfl trivial ?_
      have hlen := packNs_length (chk_fit hc)
      have hR := ReadNodes_ok (packNs l) (by omega)
      rw [readNd_pack l hc] at hR
      refine S_pure rfl rfl rfl hR (.cons (.refl .str) (.nil _)) ?_
      refine ab 1000 rfl trivial ?_
      refine S_pure rfl rfl rfl (Nodes_ok (st := true) (fl := false) o ho) (.cons (lend _ _) (.nil _)) ?_
      refine ab 1000 rfl trivial ?_
      refine S_guard rfl rfl rfl rfl (fun _ => ?_) (fun h => by cases h)
      refine ab 1000 rfl trivial ?_
      refine S_pure rfl rfl rfl (SameNodes_ok (st := true) (st' := true) (fl := false) (fl' := false) l l (by omega) (by omega)) (.cons (lend _ _) (.cons (lend _ _) (.nil _))) ?_
      rw [decide_eq_true (rfl : l = l)]
      refine ab 1000 rfl trivial ?_
      refine S_guard rfl rfl rfl rfl (fun _ => ?_) (fun h => by cases h)
      by_cases hd : chkN o = 0
      · rw [hd, if_pos rfl]
        refine ab 1000 rfl trivial ?_
        refine S_guard rfl rfl rfl rfl (fun h => by cases h) (fun _ => ?_)
        refine ab 1000 rfl trivial ?_
        refine S_pure rfl rfl rfl (SameNodes_ok (st := true) (st' := true) (fl := false) (fl' := false) l o (by omega) (by omega)) (.cons (lend _ _) (.cons (lend _ _) (.nil _))) ?_
        refine ab 1000 rfl trivial ?_
        refine S_retc .bool rfl trivial ?_
        show AV.bool ((packNs l == packNs o) == decide (l = o)) = _
        by_cases he : l = o
        · subst he; simp
        · rw [beq_eq_false_iff_ne.2 (fun h => he (packNs_inj hc hd h)), decide_eq_false he]; rfl
      · rw [if_neg hd]
        generalize chkN o = e at *
        have hne : (((e : Nat) : Int) != 0) = true := by simp; omega
        refine ab 1000 rfl trivial ?_
        refine S_guard rfl rfl rfl rfl (fun _ => ?_) (fun h => absurd (h.symm.trans hne) (by decide))
        refine ab 1000 rfl trivial ?_
        exact S_retc .bool rfl trivial rfl
    · rw [if_neg hc]
      generalize chkN l = e at *
      have hne : (((e : Nat) : Int) != 0) = true := by simp; omega
      refine ab 1000 rfl trivial ?_
      refine S_cond rfl (fun _ => ?_) (fun h => absurd (h.symm.trans hne) (by decide))
      refine ab 1000 rfl trivial ?_
      exact S_retc .bool rfl trivial rfl

end Go.Proofs.Ytjpmngjoohoddaa
