/-
  Nodes that are packed are read as they were.
-/
import Derived.Test.YtjpmngjoohoddaaNodeS
import Derived.Test.YtjpmngjoohoddaaWireV
set_option linter.unusedVariables false
set_option linter.unusedSimpArgs false
set_option maxRecDepth 20000
namespace Go.Proofs.Ytjpmngjoohoddaa
open Go Go.Ab

theorem rNode_pack (n : NodeV) (rest : List UInt8) (h1 : n.name.length ≤ 20) (h2 : 1 ≤ n.kind ∧ n.kind ≤ 3) (h3 : n.dig.length = 64) : rNode (packNode n ++ rest) = some (n, rest) := by
  obtain ⟨k, hk⟩ := Int.eq_ofNat_of_zero_le (show 0 ≤ n.kind by omega)
  have e : packNode n ++ rest = packT n.name ++ (packN 9 k ++ (packT n.dig ++ rest)) := by
    simp only [packNode, hk, Int.toNat_natCast, List.append_assoc]
  rw [e, rNode, rText_pack _ _ (by omega)]
  simp only
  rw [rNum_pack k _ (by omega)]
  simp only
  rw [rText_pack _ _ (by omega)]
  simp only
  rw [← hk]

theorem rNodeRep_pack : ∀ (l : List NodeV) (rest : List UInt8), (∀ n ∈ l, n.name.length ≤ 20) → (∀ n ∈ l, 1 ≤ n.kind ∧ n.kind ≤ 3) → (∀ n ∈ l, n.dig.length = 64) → rNodeRep l.length (l.flatMap packNode ++ rest) = some (l, rest)
  | [], rest, _, _, _ => rfl
  | n :: l, rest, h1, h2, h3 => by
    rw [List.length_cons, rNodeRep, List.flatMap_cons, List.append_assoc, rNode_pack n _ (h1 n (List.mem_cons_self ..)) (h2 n (List.mem_cons_self ..)) (h3 n (List.mem_cons_self ..))]
    simp only
    rw [rNodeRep_pack l rest (fun x hx => h1 x (List.mem_cons_of_mem _ hx)) (fun x hx => h2 x (List.mem_cons_of_mem _ hx)) (fun x hx => h3 x (List.mem_cons_of_mem _ hx))]

theorem flatN_ge : ∀ (l : List NodeV), l.length ≤ (l.flatMap packNode).length
  | [] => Nat.le_refl _
  | n :: l => by
    have := flatN_ge l
    have := packT_pos n.name
    rw [List.flatMap_cons, List.length_append, List.length_cons, packNode, List.length_append, List.length_append]; omega

theorem rNodes_pack (l : List NodeV) (rest : List UInt8) (h : NodesFit l) : rNodes (packNs l ++ rest) = some (l, rest) := by
  have h0 := h.len
  have hg := flatN_ge l
  have hm : rMany (packN 9 l.length ++ (l.flatMap packNode ++ rest)) = some (l.length, l.flatMap packNode ++ rest) := by
    rw [rMany, rNum_pack _ _ (by omega)]
    simp only
    rw [if_neg (by rw [List.length_append]; omega)]
  rw [packNs, List.append_assoc, rNodes, hm]
  exact rNodeRep_pack l rest h.name h.kind h.dig

theorem readNd_pack (l : List NodeV) (hc : chkN l = 0) : readNd (packNs l) = (l, 0) := by
  have h := rNodes_pack l [] (chk_fit hc)
  rw [List.append_nil] at h
  simp only [readNd, h, nodesOf, hc, if_true]

theorem readNd_ok {s : List UInt8} {ts : List NodeV} {e : Nat} (h : readNd s = (ts, e)) : (e = 0 ∧ chkN ts = 0 ∧ packNs ts = s) ∨ (e = 1 ∧ ts = []) := by
  unfold readNd at h
  split at h
  · cases h; exact .inr ⟨rfl, rfl⟩
  · split at h
    · rename_i hn
      cases h
      simp only [nodesOf, Prod.mk.injEq] at hn
      obtain ⟨h1, h2⟩ := hn
      rw [if_pos h2] at h1
      exact .inl ⟨rfl, h2, h1⟩
    · cases h; exact .inr ⟨rfl, rfl⟩

theorem packNs_inj {a b : List NodeV} (ha : chkN a = 0) (hb : chkN b = 0) (h : packNs a = packNs b) : a = b := by
  have h1 := readNd_pack a ha
  have h2 := readNd_pack b hb
  rw [h, h2] at h1
  simpa using h1.symm

end Go.Proofs.Ytjpmngjoohoddaa
