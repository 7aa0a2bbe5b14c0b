/-
  Texts of our own, in one file.
-/
import Derived.Test.YtnfalbdnkgaelaaDoorGrpD
import Derived.WideShapes
section
set_option linter.unusedVariables false
set_option linter.unusedSimpArgs false
set_option maxRecDepth 20000
set_option maxHeartbeats 1000000
namespace Go.Proofs.YtnfalbdnkgaelaaDoor
open Go Go.Ab
theorem booFz {σ : Heap} {id ver n : Nat} {P : Nat → Bool} {g : Tag} (h : boxAt σ id = some (ver, booA n P, g)) : Frz true σ (.ms id ver 0 n 1 false) (.sl true false 1 (booA n P)) := by
  refine .ms h (by rw [boo_len]; omega) ?_ (fun x hx => by rw [one_cells (boo_one _ _ x hx)]; rfl) (boo_len _ _) (boo_free _ _)
  rw [ones_flat (boo_one n P), List.drop_zero]
  exact List.take_of_length_le (by rw [boo_len]; omega)
def hcG (l : List Tg) (P : Nat → Bool) : Bool := (List.range l.length).any fun i => P i && rchG l i i
theorem HasCircle_ok (st st' fl sb fb : Bool) (l : List Tg) (P : Nat → Bool) (hok : NmOk l) (hz : TgSz l) : Calc cx 14 [.sl st' fl 5 (tgs st l), .sl sb fb 1 (booA l.length P)] (.bool (hcG l P)) :=
  pure_intro (fun a w => Tryd.call14 a w) Tryd.func14 rfl Tryd.ntmps14 rfl .bool fun B => by
    have hll := tgs_len st l
    have hl60 := hok.len
    have hR := Reach_ok st st' fl l hok hz
    refine pa [.v (.sl true false 1 (rowsA l.length l.length (rchG l)))] rfl ?_ ?_
    · (repeat' with_reducible apply AllP_cons) <;> try exact aC
      · exact ⟨_, hR, .cons (tgs_arg ..) (.nil _)⟩
    refine S_while (α := Nat) (fun i => [(0, .sl st' fl 5 (tgs st l)), (1, .sl sb fb 1 (booA l.length P)), (5, .sl true false 1 (rowsA l.length l.length (rchG l))), (6, .int .i64 (i : Nat))]) (fun _ => []) (fun i => i ≤ l.length ∧ ∀ j < i, (P j && rchG l j j) = false) (fun i => l.length - i) 0 ⟨Nat.zero_le _, fun j h => absurd h (Nat.not_lt_zero _)⟩ (.cons rfl (.cons rfl (.cons rfl (.cons rfl (.nil _))))) rfl ?_
    rintro i ⟨hi, hn⟩
    by_cases hlt : i < l.length
    · have c2 : decide ((i : Int) < (((tgs st l).length : Nat) : Int)) = true := decide_eq_true (by omega)
      have c3 : (booA l.length P)[(i : Int).toNat]? = some (.bool (P i)) := by rw [Int.toNat_natCast]; exact boo_get hlt
      have c4 : (rowsA l.length l.length (rchG l))[(i : Int).toNat]? = some (.sl true false 1 (booA l.length (rchG l i))) := by rw [Int.toNat_natCast]; simp [rowsA, hlt]
      have c5 : (booA l.length (rchG l i))[(i : Int).toNat]? = some (.bool (rchG l i i)) := by rw [Int.toNat_natCast]; exact boo_get hlt
      have hns : ∀ (h : (P i && rchG l i i) = false), ∀ j < i + 1, (P j && rchG l j j) = false := fun h j hj => by
        by_cases e : j < i
        · exact hn j e
        · have : j = i := by omega
          subst this; exact h
      cases hp : P i with
      | false =>
        rw [hp] at c3
        refine pB [.b true, .v (.bool false), .b false, .b false] rfl ?_
        exact S_round (i + 1) (by show l.length - (i + 1) < l.length - i; omega) ⟨hlt, hns (by rw [hp]; rfl)⟩ (.cons rfl (.cons rfl (.cons rfl (.cons (ai64 (by omega) (by omega)) (.nil _))))) rfl
      | true =>
        rw [hp] at c3
        cases hr : rchG l i i with
        | false =>
          rw [hr] at c5
          refine pB [.b true, .v (.bool true), .b true, .v (.sl true false 1 (booA l.length (rchG l i))), .v (.bool false), .b false] rfl ?_
          exact S_round (i + 1) (by show l.length - (i + 1) < l.length - i; omega) ⟨hlt, hns (by rw [hp, hr]; rfl)⟩ (.cons rfl (.cons rfl (.cons rfl (.cons (ai64 (by omega) (by omega)) (.nil _))))) rfl
        | true =>
          rw [hr] at c5
          refine pB [.b true, .v (.bool true), .b true, .v (.sl true false 1 (booA l.length (rchG l i))), .v (.bool true), .b true] rfl ?_
          refine S_retc .bool rfl trivial ?_
          have : hcG l P = true := List.any_eq_true.2 ⟨i, List.mem_range.2 hlt, by rw [hp, hr]; rfl⟩
          rw [this]; rfl
    · have hi : i ≤ l.length := hi
      have hie : i = l.length := by omega
      have c2 : decide ((i : Int) < (((tgs st l).length : Nat) : Int)) = false := decide_eq_false (by omega)
      refine pB [.b false] rfl ?_
      refine S_retc .bool rfl trivial ?_
      have : hcG l P = false := List.any_eq_false.2 fun j hj => by rw [hn j (by rw [hie]; exact List.mem_range.1 hj)]; simp
      rw [this]; rfl
def inG (l : List Tg) (at_ : Nat) (i : Nat) : Bool := i == at_ || rchG l at_ i
theorem InCone_ok (st st' fl : Bool) (l : List Tg) (at_ : Nat) (hat : at_ < l.length) (hok : NmOk l) (hz : TgSz l) : Calc cx 21 [.sl st' fl 5 (tgs st l), .int .i64 (at_ : Nat)] (.sl true false 1 (booA l.length (inG l at_))) :=
  pure_intro (fun a w => Tryd.call21 a w) Tryd.func21 rfl Tryd.ntmps21 rfl (.sl (fun _ => rfl) (boo_free _ _)) fun B => by
    have hl60 := hok.len
    have hR := Reach_ok st st' fl l hok hz
    have c4 : (rowsA l.length l.length (rchG l))[(at_ : Int).toNat]? = some (.sl true false 1 (booA l.length (rchG l at_))) := by rw [Int.toNat_natCast]; simp [rowsA, hat]
    have hbl := boo_len l.length (rchG l at_)
    refine pa [.v (.sl true false 1 (rowsA l.length l.length (rchG l))), .v (.sl true false 1 (booA l.length (rchG l at_))), .v .top] rfl ?_ ?_
    · (repeat' with_reducible apply AllP_cons) <;> try exact aC
      · exact ⟨_, hR, .cons (tgs_arg ..) (.nil _)⟩
      · exact boo_one l.length (rchG l at_)
      · exact boo_one l.length (rchG l at_)
      · show (0 + (booA l.length (rchG l at_)).length) * 1 ≤ 140737488355328
        omega
      · show offN 0 (mulN ((at_ : Int)).toNat 1) + 1 ≤ (booA l.length (rchG l at_)).length
        rw [offN_eq, mulN_eq, Int.toNat_natCast]; omega
    refine S_ret ⟨_, _, rfl, trivial, _, rfl, ?_⟩
    show Frz true [(0, some (.cells (setRange (booA l.length (rchG l at_)) (offN 0 (mulN ((at_ : Int)).toNat 1)) [.bool true]) ⟨false, none⟩))] (.ms 0 0 0 (0 + (booA l.length (rchG l at_)).length) 1 false) _
    have e : offN 0 (mulN ((at_ : Int)).toNat 1) = at_ := by rw [offN_eq, mulN_eq, Int.toNat_natCast]; omega
    rw [e, boo_set true hat, hbl, Nat.zero_add, boo_congr (Q := inG l at_) (fun j hj => by
      unfold inG
      by_cases h : j = at_
      · rw [if_pos h]; simp [h]
      · rw [if_neg h]; simp [h])]
    exact booFz rfl
def bstG : Nm → List Nm → Nm
  | b, [] => b
  | b, x :: r => bstG (if b = [] ∨ Op.bytesLess x b = true then x else b) r
theorem bst_snoc (x : Nm) : ∀ (l : List Nm) (b : Nm), bstG b (l ++ [x]) = if bstG b l = [] ∨ Op.bytesLess x (bstG b l) = true then x else bstG b l
  | [], b => rfl
  | y :: l, b => bst_snoc x l _
theorem bst_is : ∀ (l : List Nm), (∀ x ∈ l, x ≠ []) → ∀ (b : Nm), (b ≠ [] → bstG b l ≠ [] ∧ (bstG b l = b ∨ bstG b l ∈ l) ∧ bstG b l ≤ b ∧ ∀ x ∈ l, bstG b l ≤ x) ∧ (b = [] → (l = [] → bstG b l = []) ∧ (l ≠ [] → bstG b l ∈ l ∧ ∀ x ∈ l, bstG b l ≤ x))
  | [], _, b => ⟨fun h => ⟨h, .inl rfl, List.le_refl _, fun x hx => by cases hx⟩, fun h => ⟨fun _ => h, fun h => absurd rfl h⟩⟩
  | y :: l, hne, b => by
    have hy := hne y (List.mem_cons_self ..)
    have ih := bst_is l (fun x hx => hne x (List.mem_cons_of_mem _ hx))
    constructor
    · intro hb
      rw [bstG]
      by_cases h : b = [] ∨ Op.bytesLess y b = true
      · rw [if_pos h]
        have hyb : y ≤ b := by
          rcases h with h | h
          · exact absurd h hb
          · exact lt_le ((bl_lt _ _).1 h)
        obtain ⟨i1, i2, i3, i4⟩ := (ih y).1 hy
        refine ⟨i1, ?_, tx_trans i3 hyb, fun x hx => ?_⟩
        · rcases i2 with e | e
          · rw [e]; exact .inr (List.mem_cons_self ..)
          · exact .inr (List.mem_cons_of_mem _ e)
        · rcases List.mem_cons.1 hx with rfl | hx
          · exact i3
          · exact i4 x hx
      · rw [if_neg h]
        have hby : b ≤ y := bl_le fun hh => h (.inr hh)
        obtain ⟨i1, i2, i3, i4⟩ := (ih b).1 hb
        refine ⟨i1, ?_, i3, fun x hx => ?_⟩
        · rcases i2 with e | e
          · exact .inl e
          · exact .inr (List.mem_cons_of_mem _ e)
        · rcases List.mem_cons.1 hx with rfl | hx
          · exact tx_trans i3 hby
          · exact i4 x hx
    · intro hb
      refine ⟨(fun h => by cases h), fun _ => ?_⟩
      rw [bstG, if_pos (.inl hb)]
      obtain ⟨i1, i2, i3, i4⟩ := (ih y).1 hy
      refine ⟨?_, fun x hx => ?_⟩
      · rcases i2 with e | e
        · rw [e]; exact List.mem_cons_self ..
        · exact List.mem_cons_of_mem _ e
      · rcases List.mem_cons.1 hx with rfl | hx
        · exact i3
        · exact i4 x hx
theorem bst_next {nd : Nm → List Nm} {sm out : List Nm} (hne : ∀ x ∈ sm, x ≠ []) : nextG nd sm out = if bstG [] (rdyG nd sm out) = [] then none else some (bstG [] (rdyG nd sm out)) := by
  have hr : ∀ x ∈ rdyG nd sm out, x ≠ [] := fun x hx => hne x (rdy_iff.1 hx).1
  obtain ⟨h1, h2⟩ := (bst_is (rdyG nd sm out) hr []).2 rfl
  by_cases h : rdyG nd sm out = []
  · rw [h1 h, if_pos rfl]
    exact next_no fun x hx => by rw [h] at hx; cases hx
  · obtain ⟨h3, h4⟩ := h2 h
    rw [if_neg (hr _ h3)]
    unfold nextG
    exact sort_head h3 h4
def smG (l : List Tg) (P : Nat → Bool) (i : Nat) : List Nm := ((List.range i).filter P).map (nmAt l)
theorem smG_snoc (l : List Tg) (P : Nat → Bool) (i : Nat) : smG l P (i + 1) = smG l P i ++ if P i = true then [nmAt l i] else [] := by
  unfold smG
  rw [List.range_succ, List.filter_append, List.map_append]
  by_cases h : P i = true
  · rw [if_pos h, List.filter_cons_of_pos h]; rfl
  · rw [if_neg h, List.filter_cons_of_neg h]; rfl
theorem smG_nodup {l : List Tg} (hn : (nmsG l).Nodup) (P : Nat → Bool) : (smG l P l.length).Nodup := by
  unfold smG
  have h1 : ((List.range l.length).filter P).Nodup := List.nodup_range.filter _
  exact List.pairwise_map.2 (List.Pairwise.imp_of_mem (fun {a c} ha hc (hne : a ≠ c) e => hne (nmAt_inj hn (List.mem_range.1 (List.mem_filter.1 ha).1) (List.mem_range.1 (List.mem_filter.1 hc).1) e)) h1)
theorem smG_mem {l : List Tg} {P : Nat → Bool} {i : Nat} {x : Nm} : x ∈ smG l P i ↔ ∃ j, j < i ∧ P j = true ∧ nmAt l j = x := by
  unfold smG
  rw [List.mem_map]
  constructor
  · rintro ⟨j, hj, rfl⟩
    obtain ⟨h1, h2⟩ := List.mem_filter.1 hj
    exact ⟨j, List.mem_range.1 h1, h2, rfl⟩
  · rintro ⟨j, h1, h2, rfl⟩
    exact ⟨j, List.mem_filter.2 ⟨List.mem_range.2 h1, h2⟩, rfl⟩
end Go.Proofs.YtnfalbdnkgaelaaDoor
end
section
set_option linter.unusedVariables false
set_option linter.unusedSimpArgs false
set_option maxRecDepth 20000
set_option maxHeartbeats 1000000
namespace Go.Proofs.YtnfalbdnkgaelaaDoor
open Go Go.Ab
def okG (l : List Tg) (P : Nat → Bool) (out : List Nm) (i : Nat) (ks : List Nm) : Bool := (P i && !out.contains (nmAt l i)) && ks.all fun k => out.contains k
theorem rdy_snoc {l : List Tg} (hn : (nmsG l).Nodup) (P : Nat → Bool) (out : List Nm) {i : Nat} (hi : i < l.length) : rdyG (ndT l) (smG l P (i + 1)) out = rdyG (ndT l) (smG l P i) out ++ if okG l P out i l[i].needs = true then [nmAt l i] else [] := by
  rw [smG_snoc]
  unfold rdyG
  rw [List.filter_append]
  congr 1
  unfold okG
  by_cases hp : P i = true
  · rw [if_pos hp]
    have e : (decide (nmAt l i ∉ out) && (ndT l (nmAt l i)).all fun k => decide (k ∈ out)) = (P i && !out.contains (nmAt l i) && l[i].needs.all fun k => out.contains k) := by
      rw [ndT_nm hn hi, hp]; simp
    by_cases h : (P i && !out.contains (nmAt l i) && l[i].needs.all fun k => out.contains k) = true
    · rw [if_pos h, List.filter_cons_of_pos (by rw [e]; exact h)]; rfl
    · rw [if_neg h, List.filter_cons_of_neg (by rw [e]; exact h)]; rfl
  · rw [if_neg hp, if_neg (by simp [hp])]; rfl
theorem OrderOf_ok (st st' fl sb fb : Bool) (l : List Tg) (P : Nat → Bool) (hok : NmOk l) (hz : TgSz l) : Calc cx 16 [.sl st' fl 5 (tgs st l), .sl sb fb 1 (booA l.length P)] (.sl true false 1 (texts (ordG (ndT l) (smG l P l.length) (smG l P l.length).length []))) :=
  pure_intro (fun a w => Tryd.call16 a w) Tryd.func16 rfl Tryd.ntmps16 rfl (.sl (fun _ => rfl) (texts_any _)) fun B => by
    have hll := tgs_len st l
    have hl60 := hok.len
    have hil : ∀ (i : Nat), i < l.length → decide ((i : Int) < (((tgs st l).length : Nat) : Int)) = true := fun i h => decide_eq_true (by omega)
    have hex : ∀ (i : Nat), i = l.length → decide ((i : Int) < (((tgs st l).length : Nat) : Int)) = false := fun i h => decide_eq_false (by omega)
    have hget : ∀ (i : Nat) (h : i < l.length), (tgs st l)[(i : Int).toNat]? = some (tgA st l[i]) := fun i h => by rw [Int.toNat_natCast]; exact tgs_get h
    have hbg : ∀ i, i < l.length → (booA l.length P)[(i : Int).toNat]? = some (.bool (P i)) := fun i h => by rw [Int.toNat_natCast]; exact boo_get h
    have hsl : (smG l P l.length).length ≤ 60 := by
      have := List.Nodup.length_le_of_subset (smG_nodup hok.nd P) (l₂ := nmsG l) (fun x hx => by
        obtain ⟨j, h1, _, rfl⟩ := smG_mem.1 hx
        exact nmAt_mem h1)
      rw [nms_len] at this; omega
    have hne : ∀ x ∈ smG l P l.length, x ≠ [] := fun x hx e => by
      obtain ⟨j, h1, _, h3⟩ := smG_mem.1 hx
      have := hok.nam l[j] (List.getElem_mem h1)
      rw [nmAt_get h1] at h3
      rw [h3, e] at this
      exact absurd this (by decide)
    refine pB [] rfl ?_
    refine S_ghostF (t := 5) (gid := 0) (gver := 0) (σ' := [(0, some (.cells [] ⟨false, none⟩))]) 1 ⟨false, none⟩ rfl rfl ⟨_, _, .inl rfl⟩ ?_
    generalize hR : ordG (ndT l) (smG l P l.length) (smG l P l.length).length [] = R
    refine S_while (α := List Nm) (fun out => [(0, .sl st' fl 5 (tgs st l)), (1, .sl sb fb 1 (booA l.length P)), (5, .ms 0 out.length 0 out.length 1 false)]) (fun out => [(out.length, some (.cells (texts out) ⟨false, none⟩))])
      (fun out => Good (ndT l) out ∧ (∀ n ∈ out, n ∈ smG l P l.length) ∧ ordG (ndT l) (smG l P l.length) ((smG l P l.length).length - out.length) out = R) (fun out => (smG l P l.length).length - out.length) [] ⟨.nil, (fun n h => by cases h), hR⟩ (.cons rfl (.cons rfl (.cons rfl (.nil _)))) rfl ?_
    rintro out ⟨hg, hsub, hor⟩
    have hol : out.length ≤ (smG l P l.length).length := List.Nodup.length_le_of_subset hg.nodup hsub
    have hsize := texts_len out
    have hHT : ∀ (s : Nm) (σ : Heap), Frzs [(out.length, some (.cells (texts out) ⟨false, none⟩))] [.ms 0 out.length 0 out.length 1 false, .str s] [.sl false false 1 (texts out), .str s] := fun s σ =>
      .cons (.ms rfl (by rw [hsize]; omega) (by rw [ones_flat (texts_one out), List.drop_zero]; exact List.take_of_length_le (by rw [hsize]; omega)) (fun x hx => by rw [one_cells (texts_one out x hx)]; rfl) hsize (texts_any out)) (.cons (.refl .str) (.nil _))
    have hH := fun s => HasText_ok (st := false) (fl := false) out s (by omega)
    refine pB [] rfl ?_
    refine S_while (α := Nat) (fun i => [(0, .sl st' fl 5 (tgs st l)), (1, .sl sb fb 1 (booA l.length P)), (5, .ms 0 out.length 0 out.length 1 false), (6, .str (bstG [] (rdyG (ndT l) (smG l P i) out))), (7, .int .i64 (i : Nat))]) (fun i => [(out.length, some (.cells (texts out) ⟨false, none⟩))])
      (fun i => i ≤ l.length) (fun i => l.length - i) 0 (Nat.zero_le _) (.cons rfl (.cons rfl (.cons rfl (.cons rfl (.cons rfl (.nil _)))))) rfl ?_
    intro i hi
    by_cases hlt : i < l.length
    · have c2 := hil i hlt
      have c3 := hget i hlt
      have c4 := hbg i hlt
      have hsn := rdy_snoc hok.nd P out hlt
      have hbn := bst_snoc (nmAt l i) (rdyG (ndT l) (smG l P i) out) []
      have hnm : nmAt l i = l[i].name := nmAt_get hlt
      have hnl := hz.nd _ (List.getElem_mem hlt)
      have hdef : ∀ ks, okG l P out i ks = ((P i && !out.contains (nmAt l i)) && ks.all fun k => out.contains k) := fun ks => rfl
      generalize hbb : bstG [] (rdyG (ndT l) (smG l P i) out) = b at *
      rw [hnm] at hsn hbn hdef
      generalize l[i] = t at *
      have htl := texts_len t.needs
      have hHn := hH t.name
      refine' S_share [(0, .sl st' fl 5 (tgs st l)), (1, .sl sb fb 1 (booA l.length P)), (5, .ms 0 out.length 0 out.length 1 false), (6, .str b), (7, .int .i64 (i : Nat)), (8, .bool (okG l P out i [])), (9, .int .i64 0)] [(out.length, some (.cells (texts out) ⟨false, none⟩))] (fun tail => ?main) ?rest
      case main =>
        cases hp : P i with
        | false =>
          rw [hp] at c4
          refine pB [.b true, .v (.bool false), .b false] rfl ?_
          refine tail _ (.cons rfl (.cons rfl (.cons rfl (.cons rfl (.cons rfl (.cons ?_ (.cons rfl (.nil _))))))))
          rw [hdef, hp]; rfl
        | true =>
          rw [hp] at c4
          refine pa [.b true, .v (.bool true), .b true, .v (tgA st t), .v (.bool (out.contains t.name))] rfl ?_ ?_
          · (repeat' with_reducible apply AllP_cons) <;> try exact aC
            · exact ⟨_, hHn, hHT _ []⟩
          refine tail _ (.cons rfl (.cons rfl (.cons rfl (.cons rfl (.cons rfl (.cons ?_ (.cons rfl (.nil _))))))))
          rw [hdef, hp]
          show AV.bool (!out.contains t.name) = .bool ((true && !out.contains t.name) && true)
          simp
      case rest =>
        refine S_while (α := Nat) (fun j => [(0, .sl st' fl 5 (tgs st l)), (1, .sl sb fb 1 (booA l.length P)), (5, .ms 0 out.length 0 out.length 1 false), (6, .str b), (7, .int .i64 (i : Nat)), (8, .bool (okG l P out i (t.needs.take j))), (9, .int .i64 (j : Nat))]) (fun _ => [(out.length, some (.cells (texts out) ⟨false, none⟩))])
          (fun j => j ≤ t.needs.length) (fun j => t.needs.length - j) 0 (Nat.zero_le _) (.cons rfl (.cons rfl (.cons rfl (.cons rfl (.cons rfl (.cons rfl (.cons rfl (.nil _)))))))) rfl ?_
        intro j hj
        by_cases hjl : j < t.needs.length
        · have d2 : decide ((j : Int) < (((texts t.needs).length : Nat) : Int)) = true := decide_eq_true (by omega)
          have d3 : (texts t.needs)[(j : Int).toNat]? = some (.str t.needs[j]) := by rw [Int.toNat_natCast]; exact texts_get hjl
          have htk : t.needs.take (j + 1) = t.needs.take j ++ [t.needs[j]] := List.take_succ_eq_append_getElem hjl
          generalize t.needs[j] = k at *
          have hHk := hH k
          have hokn : okG l P out i (t.needs.take (j + 1)) = (okG l P out i (t.needs.take j) && out.contains k) := by
            rw [hdef, hdef, htk, List.all_append]
            simp [Bool.and_assoc]
          cases ho : okG l P out i (t.needs.take j) with
          | false =>
            refine pB [.v (tgA st t), .b true, .b false] rfl ?_
            refine S_round (j + 1) (by show t.needs.length - (j + 1) < t.needs.length - j; omega) hjl (.cons rfl (.cons rfl (.cons rfl (.cons rfl (.cons rfl (.cons ?_ (.cons (ai64 (by omega) (by omega)) (.nil _)))))))) rfl
            rw [hokn, ho]; rfl
          | true =>
            refine pa [.v (tgA st t), .b true, .b true, .v (tgA st t), .v (.str k), .v (.bool (out.contains k))] rfl ?_ ?_
            · (repeat' with_reducible apply AllP_cons) <;> try exact aC
              · exact ⟨_, hHk, hHT _ []⟩
            refine S_round (j + 1) (by show t.needs.length - (j + 1) < t.needs.length - j; omega) hjl (.cons rfl (.cons rfl (.cons rfl (.cons rfl (.cons rfl (.cons ?_ (.cons (ai64 (by omega) (by omega)) (.nil _)))))))) rfl
            rw [hokn, ho]; rfl
        · have hj : j ≤ t.needs.length := hj
          have hje : j = t.needs.length := by omega
          have d2 : decide ((j : Int) < (((texts t.needs).length : Nat) : Int)) = false := decide_eq_false (by omega)
          rw [show t.needs.take j = t.needs by rw [hje, List.take_length]]
          have fin : ∀ (q : Nm), (if okG l P out i t.needs = true then (if b = [] ∨ Op.bytesLess t.name b = true then t.name else b) else b) = q → bstG [] (rdyG (ndT l) (smG l P (i + 1)) out) = q := fun q hq => by
            rw [hsn, ← hq]
            by_cases h : okG l P out i t.needs = true
            · rw [if_pos h, if_pos h, hbn]
            · rw [if_neg h, if_neg h, List.append_nil, hbb]
          cases ho : okG l P out i t.needs with
          | false =>
            rw [ho] at fin
            refine pB [.v (tgA st t), .b false, .b false, .b false] rfl ?_
            exact S_round (i + 1) (by show l.length - (i + 1) < l.length - i; omega) hlt (.cons rfl (.cons rfl (.cons rfl (.cons (congrArg AV.str (fin b rfl).symm) (.cons (ai64 (by omega) (by omega)) (.nil _)))))) rfl
          | true =>
            rw [ho] at fin
            by_cases hb0 : b = []
            · have e1 : (b == []) = true := by rw [hb0]; rfl
              refine pB [.v (tgA st t), .b false, .b true, .b true, .b true, .v (tgA st t)] rfl ?_
              exact S_round (i + 1) (by show l.length - (i + 1) < l.length - i; omega) hlt (.cons rfl (.cons rfl (.cons rfl (.cons (congrArg AV.str (fin t.name (by rw [if_pos rfl, if_pos (.inl hb0)])).symm) (.cons (ai64 (by omega) (by omega)) (.nil _)))))) rfl
            · have e1 : (b == []) = false := by simpa using hb0
              cases hls : Op.bytesLess t.name b with
              | true =>
                refine pB [.v (tgA st t), .b false, .b true, .b false, .v (tgA st t), .b true, .v (tgA st t)] rfl ?_
                exact S_round (i + 1) (by show l.length - (i + 1) < l.length - i; omega) hlt (.cons rfl (.cons rfl (.cons rfl (.cons (congrArg AV.str (fin t.name (by rw [if_pos rfl, if_pos (.inr hls)])).symm) (.cons (ai64 (by omega) (by omega)) (.nil _)))))) rfl
              | false =>
                refine pB [.v (tgA st t), .b false, .b true, .b false, .v (tgA st t), .b false] rfl ?_
                exact S_round (i + 1) (by show l.length - (i + 1) < l.length - i; omega) hlt (.cons rfl (.cons rfl (.cons rfl (.cons (congrArg AV.str (fin b (by rw [if_pos rfl, if_neg (by rintro (h | h); exact hb0 h; rw [hls] at h; cases h)])).symm) (.cons (ai64 (by omega) (by omega)) (.nil _)))))) rfl
    · have hi : i ≤ l.length := hi
      have hie : i = l.length := by omega
      subst hie
      have c2 := hex _ rfl
      have hbx := bst_next (nd := ndT l) (out := out) hne
      generalize bstG [] (rdyG (ndT l) (smG l P l.length) out) = b at *
      by_cases hb0 : b = []
      · have e1 : (b == []) = true := by rw [hb0]; rfl
        rw [if_pos hb0] at hbx
        refine pB [.b false, .b true] rfl ?_
        refine S_ret ⟨_, _, rfl, trivial, _, rfl, ?_⟩
        rw [← hor, ordG_stop hbx]
        show Frz true [(out.length, some (.cells (texts out) ⟨false, none⟩))] (.ms 0 out.length 0 out.length 1 false) (.sl true false 1 (texts out))
        exact .ms rfl (by rw [hsize]; omega) (by rw [ones_flat (texts_one out), List.drop_zero]; exact List.take_of_length_le (by rw [hsize]; omega)) (fun x hx => by rw [one_cells (texts_one out x hx)]; rfl) hsize (texts_any out)
      · have e1 : (b == []) = false := by simpa using hb0
        rw [if_neg hb0] at hbx
        obtain ⟨b1, b2, b3⟩ := next_some hbx
        have hg2 := hg.step hbx
        have hlo : (out ++ [b]).length = out.length + 1 := by rw [List.length_append]; rfl
        have hsub2 : ∀ n ∈ out ++ [b], n ∈ smG l P l.length := fun n hn => by
          rcases List.mem_append.1 hn with hn | hn
          · exact hsub n hn
          · rw [List.mem_singleton.1 hn]; exact b1
        have hol2 := List.Nodup.length_le_of_subset hg2.nodup hsub2
        rw [hlo] at hol2
        have htx : texts (out ++ [b]) = texts out ++ [.str b] := by unfold texts; simp
        refine pa [.b false, .b false] rfl ?_ ?_
        · (repeat' with_reducible apply AllP_cons) <;> try exact aC
          · show 0 + out.length * 1 = (texts out).length
            omega
          · show (out.length + 1) * 16 ≤ 140737488355328
            omega
        refine S_round (out ++ [b]) (by show (smG l P l.length).length - (out ++ [b]).length < (smG l P l.length).length - out.length; rw [hlo]; omega) ⟨hg2, hsub2, ?_⟩ (.cons rfl (.cons rfl (.cons ?_ (.nil _)))) ?_
        · rw [← hor, hlo, show (smG l P l.length).length - out.length = ((smG l P l.length).length - (out.length + 1)) + 1 by omega, ordG_step hbx]
        · show AV.ms 0 (out.length + 1) 0 (out.length + 1) 1 false = .ms 0 (out ++ [b]).length 0 (out ++ [b]).length 1 false
          rw [hlo]
        · show [(out.length + 1, some (Box.cells (texts out ++ [.str b]) ⟨false, none⟩))] = [((out ++ [b]).length, some (Box.cells (texts (out ++ [b])) ⟨false, none⟩))]
          rw [hlo, htx]
end Go.Proofs.YtnfalbdnkgaelaaDoor
end
section
set_option linter.unusedVariables false
set_option linter.unusedSimpArgs false
set_option maxRecDepth 20000
namespace Go.Proofs.YtnfalbdnkgaelaaDoor
open Go Go.Ab
theorem textsAre_ok {st fl st' fl' : Bool} (p q : List (List UInt8)) (e w : Nat) (hp : p.length ≤ 9223372036854775806) (hq : q.length ≤ 9223372036854775806) : Calc cx 18 [.sl st fl 1 (texts p), .int .i64 e, .int .i64 w, .sl st' fl' 1 (texts q)] (.bool (e == w && p == (if w = 0 then q else []))) :=
  pure_intro (fun a w => Tryd.call18 a w) Tryd.func18 rfl Tryd.ntmps18 rfl .bool fun B => by
    have lend : ∀ σ : Heap, Frz false σ (.sl st fl 1 (texts p)) (.sl st fl 1 (texts p)) := fun σ => .refl (.sl (fun h => by cases h) (texts_any p))
    have lend' : ∀ σ : Heap, Frz false σ (.sl st' fl' 1 (texts q)) (.sl st' fl' 1 (texts q)) := fun σ => .refl (.sl (fun h => by cases h) (texts_any q))
    refine ab 1000 rfl trivial ?_
    have fin : ∀ (B : Bool), ((e : Int) == (w : Int)) = (e == w) := by
      intro _
      by_cases h : e = w
      · subst h; simp
      · have : (e : Int) ≠ w := by omega
        rw [beq_eq_false_iff_ne.2 this, beq_eq_false_iff_ne.2 h]
    refine S_bne rfl (fun h => ?_) (fun h => ?_)
    · have hw : w ≠ 0 := by omega
      rw [if_neg hw]
      refine ab 1000 rfl trivial ?_
      refine S_guard rfl rfl rfl rfl (fun hg => ?_) (fun hg => ?_)
      · refine ab 1000 rfl trivial ?_
        refine S_pure rfl rfl rfl (SameTexts_ok (st := st) (st' := false) (fl := fl) (fl' := false) p [] hp (by decide)) (.cons (lend _) (.cons .nils (.nil _))) ?_
        refine ab 1000 rfl trivial ?_
        refine S_retc .bool rfl trivial ?_
        rw [← fin true, hg]; rfl
      · refine ab 1000 rfl trivial ?_
        refine S_retc .bool rfl trivial ?_
        rw [← fin true, hg]; rfl
    · have hw : w = 0 := by omega
      rw [if_pos hw]
      refine ab 1000 rfl trivial ?_
      refine S_guard rfl rfl rfl rfl (fun hg => ?_) (fun hg => ?_)
      · refine ab 1000 rfl trivial ?_
        refine S_pure rfl rfl rfl (SameTexts_ok (st := st) (st' := st') (fl := fl) (fl' := fl') p q hp (by omega)) (.cons (lend _) (.cons (lend' _) (.nil _))) ?_
        refine ab 1000 rfl trivial ?_
        refine S_retc .bool rfl trivial ?_
        rw [← fin true, hg]; rfl
      · refine ab 1000 rfl trivial ?_
        refine S_retc .bool rfl trivial ?_
        rw [← fin true, hg]; rfl
end Go.Proofs.YtnfalbdnkgaelaaDoor
end
section
set_option linter.unusedVariables false
set_option linter.unusedSimpArgs false
namespace Go.Ab
open Go Go.WideShapes
def laidB (P : Program) : List Field → Nat → Option Nat
  | [], o => some o
  | f :: r, o => match Nat.beq f.offset o with
    | true => laidB P r (o + P.cellsOf f.type)
    | false => none
mutual
def plainB (P : Program) : Nat → TypeId → Bool
  | 0, _ => false
  | n + 1, t => match P.underlying t with
    | some .bool => Nat.beq (P.cellsOf t) 1
    | some (.int _) => Nat.beq (P.cellsOf t) 1
    | some .string => Nat.beq (P.cellsOf t) 1
    | some (.slice e) => match Nat.beq (P.cellsOf t) 1, Nat.beq (P.cellsOf e) 0 with
      | true, false => plainB P n e
      | _, _ => false
    | some (.struct fs) => match laidB P fs.toList 0 with
      | some m => match Nat.beq (P.cellsOf t) m with
        | true => plainAll P n fs.toList
        | false => false
      | none => false
    | _ => false
def plainAll (P : Program) : Nat → List Field → Bool
  | 0, _ => false
  | n + 1, fs => match fs with
    | [] => true
    | f :: r => match plainB P n f.type with
      | true => plainAll P n r
      | false => false
end
inductive RdD (P : Program) {H : Type} : TypeId → DataW H → AV → Prop
  | bool {t b} (ht : P.underlying t = some .bool) : RdD P t (.lit (.bool b)) (.bool b)
  | int {t k n} (ht : P.underlying t = some (.int k)) (hw : (Lit.int k n).wf = true) : RdD P t (.lit (.int k n)) (.int k n)
  | str {t s} (ht : P.underlying t = some .string) (hs : s.length ≤ maxLen) : RdD P t (.lit (.string s)) (.str s)
  | nils {t e} (ht : P.underlying t = some (.slice e)) : RdD P t .nil (.sl true false (P.cellsOf e) [])
  | sl {t e} {ds rest : List (DataW H)} {xs : List AV} (ht : P.underlying t = some (.slice e)) (hl : xs.length = ds.length) (hm : xs.length ≤ maxLen) (h : ∀ i (h1 : i < ds.length) (h2 : i < xs.length), RdD P e ds[i] xs[i]) : RdD P t (.slice ds rest) (.sl true false (P.cellsOf e) xs)
  | st {t} {fs : Array Field} {ds : List (DataW H)} {xs : List AV} (ht : P.underlying t = some (.struct fs)) (hd : ds.length = fs.size) (hx : xs.length = fs.size) (h : ∀ i (h1 : i < ds.length) (h2 : i < xs.length) (h3 : i < fs.size), RdD P fs[i].type ds[i] xs[i]) : RdD P t (.agg ds) (.agg (xs.flatMap AV.cells))
def CellsV (w : World) (cs : List Value) (az : List AV) : Prop := cs.length = az.length ∧ ∀ i (h1 : i < cs.length) (h2 : i < az.length), VRel (Rl.old w) w cs[i] az[i]
theorem CellsV.one {w : World} {v : Value} {a : AV} (h : VRel (Rl.old w) w v a) : CellsV w [v] [a] := by
  refine ⟨rfl, fun i h1 h2 => ?_⟩
  obtain rfl : i = 0 := by simpa using h1
  exact h
theorem laidB_flat {P : Program} : ∀ (fs : List Field) (o m : Nat) (w : World) (cs : List Value) (xs : List AV), laidB P fs o = some m → xs.length = fs.length → (∀ i (h1 : i < fs.length) (h2 : i < xs.length), CellsV w ((cs.drop fs[i].offset).take (P.cellsOf fs[i].type)) xs[i].cells ∧ xs[i].cells.length = P.cellsOf fs[i].type) →
    cs.length = m → o ≤ m ∧ CellsV w (cs.drop o) (xs.flatMap AV.cells)
  | [], o, m, w, cs, xs, h, hl, hc, hm => by
    simp only [laidB, Option.some.injEq] at h
    obtain rfl : xs = [] := List.eq_nil_of_length_eq_zero hl
    subst h
    refine ⟨Nat.le_refl _, ?_⟩
    rw [List.drop_of_length_le (by omega)]
    exact ⟨rfl, fun i h => absurd h (by simp)⟩
  | f :: r, o, m, w, cs, xs, h, hl, hc, hm => by
    rw [laidB] at h
    split at h
    case h_2 => cases h
    rename_i hb
    have ho := Nat.eq_of_beq_eq_true hb
    obtain ⟨x, xs, rfl⟩ : ∃ x xs', xs = x :: xs' := by
      cases xs with
      | nil => simp at hl
      | cons x xs => exact ⟨x, xs, rfl⟩
    have h0 := hc 0 (by simp) (by simp)
    simp only [List.getElem_cons_zero] at h0
    obtain ⟨h1, h2⟩ := laidB_flat r (o + P.cellsOf f.type) m w cs xs h (by simpa using hl) (fun i k1 k2 => hc (i + 1) (Nat.succ_lt_succ k1) (Nat.succ_lt_succ k2)) hm
    refine ⟨by omega, ?_⟩
    obtain ⟨⟨e1, e2⟩, e3⟩ := h0
    rw [ho] at e1 e2
    rw [List.flatMap_cons]
    have hsplit : cs.drop o = (cs.drop o).take (P.cellsOf f.type) ++ cs.drop (o + P.cellsOf f.type) := by
      rw [← List.drop_drop, List.take_append_drop]
    rw [hsplit]
    refine ⟨by rw [List.length_append, List.length_append, e1, h2.1], fun i k1 k2 => ?_⟩
    by_cases hi : i < x.cells.length
    · rw [List.getElem_append_left (by omega), List.getElem_append_left hi]
      exact e2 i (by omega) hi
    · rw [List.getElem_append_right (by omega), List.getElem_append_right (by omega)]
      have : i - ((cs.drop o).take (P.cellsOf f.type)).length = i - x.cells.length := by omega
      simp only [this]
      exact h2.2 _ _ _
theorem read_cells {H : Type} {enc : TypeId × Value → H} {P : Program} {W : World} : ∀ (fuel n : Nat) (t : TypeId) (cs : List Value) (d : DataW H) (ps : List MemPlace), DataW.trod enc P W 0 (fun _ => true) true fuel t cs = some (d, ps) → plainB P n t = true →
    ∃ a, RdD P t d a ∧ a.cells.length = P.cellsOf t ∧ CellsV W cs a.cells ∧ (∀ v, (∃ xs, v = .agg xs ∧ xs.toList = cs ∧ aggT P t = some true) ∨ ([v] = cs ∧ aggT P t = some false) → VRel (Rl.old W) W v a) := by
  intro fuel
  induction fuel with
  | zero => intro n t cs d ps h _; simp [DataW.trod] at h
  | succ fuel ih =>
    intro n t cs d ps h hp
    have hall : ∀ (n : Nat) (fs : List Field), plainAll P n fs = true → ∀ i (hi : i < fs.length), ∃ m, plainB P m fs[i].type = true := by
      intro n
      induction n with
      | zero => intro fs h; simp [plainAll] at h
      | succ n ihn =>
        intro fs h i hi
        cases fs with
        | nil => simp at hi
        | cons f r =>
          rw [plainAll] at h
          split at h
          · rename_i hb
            cases i with
            | zero => exact ⟨n, hb⟩
            | succ i => exact ihn r h i (by simpa using hi)
          · cases h
    cases n with
    | zero => simp [plainB] at hp
    | succ n =>
      rw [plainB] at hp
      split at hp
      ·
        rename_i ht
        obtain ⟨b, rfl, hx⟩ := DataW.trod_bool ht h
        cases hx
        refine ⟨.bool b, .bool ht, (Nat.eq_of_beq_eq_true hp).symm, .one .bool, ?_⟩
        rintro v (⟨xs, rfl, h1, h2⟩ | ⟨h1, h2⟩)
        · simp [aggT, ht] at h2
        · cases h1; exact .bool
      · rename_i k ht
        obtain ⟨m, rfl, hx, hw⟩ := DataW.trod_int ht h
        cases hx
        refine ⟨.int _ m, .int ht hw, (Nat.eq_of_beq_eq_true hp).symm, .one .int, ?_⟩
        rintro v (⟨xs, rfl, h1, h2⟩ | ⟨h1, h2⟩)
        · simp [aggT, ht] at h2
        · cases h1; exact .int
      · rename_i ht
        obtain ⟨s, rfl, hx, hw⟩ := DataW.trod_string ht h
        cases hx
        refine ⟨.str s.data.toList, .str ht (by rw [Array.length_toList]; exact hw), (Nat.eq_of_beq_eq_true hp).symm, .one (.str rfl), ?_⟩
        rintro v (⟨xs, rfl, h1, h2⟩ | ⟨h1, h2⟩)
        · simp [aggT, ht] at h2
        · cases h1; exact .str rfl
      ·
        rename_i e ht
        split at hp
        case h_2 => cases hp
        rename_i hc1 hc0
        have hc1 := Nat.eq_of_beq_eq_true hc1
        have hpos : 0 < P.cellsOf e := by
          rcases Nat.eq_zero_or_pos (P.cellsOf e) with h0 | h0
          · rw [h0] at hc0; cases hc0
          · exact h0
        rcases DataW.trod_slice ht h with ⟨rfl, hx⟩ | ⟨a, len, cap, elems, rest, fu, hfu, rfl, hx, _, hl, hm, hlen, hel, hsp, hns⟩
        · cases hx
          refine ⟨_, .nils ht, hc1.symm, .one (.sl0 (fun h => by cases h)), ?_⟩
          rintro v (⟨xs, rfl, h1, h2⟩ | ⟨h1, h2⟩)
          · simp [aggT, ht] at h2
          · cases h1; exact .sl0 (fun h => by cases h)
        · cases hx
          obtain rfl : fuel = fu := by omega
          have each : ∀ i (hi : i < elems.length), ∃ x, RdD P e (elems[i]).1 x ∧ x.cells.length = P.cellsOf e ∧ ∃ ecs : List Value, W.cells? 0 (a.add (i * P.cellsOf e)) (P.cellsOf e) = some ecs ∧ CellsV W ecs x.cells := by
            intro i hi
            have h1 := hel i (by omega)
            rw [List.getElem?_eq_getElem hi, Option.bind_eq_some_iff] at h1
            obtain ⟨ecs, h2, h3⟩ := h1
            obtain ⟨x, k1, k2, k3, _⟩ := ih n e ecs (elems[i]).1 (elems[i]).2 h3 hp
            exact ⟨x, k1, k2, ecs, h2, k3⟩
          have : ∃ xs : List AV, xs.length = elems.length ∧ ∀ i (hi : i < elems.length) (hx : i < xs.length), RdD P e (elems[i]).1 xs[i] ∧ xs[i].cells.length = P.cellsOf e ∧ ∃ ecs : List Value, W.cells? 0 (a.add (i * P.cellsOf e)) (P.cellsOf e) = some ecs ∧ CellsV W ecs xs[i].cells := by
            refine ⟨(List.finRange elems.length).map fun i => Classical.choose (each i.1 i.2), by simp, fun i hi hx => ?_⟩
            simp only [List.getElem_map, List.getElem_finRange]
            exact Classical.choose_spec (each i hi)
          obtain ⟨xs, hxl, hxs⟩ := this
          have hv : VRel (Rl.old W) W (.slice (some a) len cap) (.sl true false (P.cellsOf e) xs) := by
            rcases Nat.eq_zero_or_pos len with h0 | h0
            · subst h0
              obtain rfl : xs = [] := List.eq_nil_of_length_eq_zero (by omega)
              exact .sl0 (fun h => by cases h)
            · obtain ⟨b, o, sp⟩ := a
              obtain ⟨_, _, ecs0, hc, _⟩ := hxs 0 (by omega) (by omega)
              obtain ⟨_, hcl, hcc⟩ := World.cells?_some hc
              have hcell0 := hcc 0 hpos
              rw [List.getElem?_eq_getElem (by omega)] at hcell0
              have hsp : sp = none := by
                cases sp with
                | none => rfl
                | some s =>
                  simp [Addr.add, World.cell?] at hcell0
                  split at hcell0 <;> cases hcell0
              subst hsp
              have hb : b < W.heap.size := by
                rw [Addr.add_lit] at hcell0
                rcases Nat.lt_or_ge b W.heap.size with h | h
                · exact h
                · simp [World.cell?, Addr.add, Array.getElem?_eq_none h] at hcell0
              have hcel : ∀ i, i < xs.length → ∀ j, j < P.cellsOf e → ∃ v, W.cell? ⟨b, o + i * P.cellsOf e + j, none⟩ = some v ∧ ∀ (hi : i < xs.length) (hj : j < (AV.cells xs[i]).length), VRel (Rl.old W) W v (AV.cells xs[i])[j] := by
                intro i hi j hj
                obtain ⟨_, hxc, ecs, hc, hcv⟩ := hxs i (by omega) hi
                obtain ⟨_, hcl, hcc⟩ := World.cells?_some hc
                have h1 := hcc j hj
                rw [List.getElem?_eq_getElem (by omega)] at h1
                rw [Addr.add_lit, Addr.add_lit] at h1
                refine ⟨ecs[j], h1, fun _ hj' => hcv.2 j _ hj'⟩
              refine .sl (by omega) hl (fun h => by cases h) hb (fun _ => hb) (fun x hx => ?_) (fun i j => (W.cell? ⟨b, o + i * P.cellsOf e + j, none⟩).getD undef) (fun i hi j hj => ?_) (fun i hi j hj => ?_)
              · obtain ⟨i, hi, rfl⟩ := List.getElem_of_mem hx
                exact (hxs i (by omega) hi).2.1
              · obtain ⟨v, h1, _⟩ := hcel i hi j hj
                rw [h1]; rfl
              · obtain ⟨v, h1, h2⟩ := hcel i hi j (by rw [(hxs i (by omega) hi).2.1] at hj; exact hj)
                rw [h1]
                exact h2 hi hj
          refine ⟨.sl true false (P.cellsOf e) xs, .sl ht (by simp [hxl]) (by omega) (fun i h1 h2 => by simpa using (hxs i (by simpa using h1) h2).1), hc1.symm, .one hv, ?_⟩
          rintro v (⟨ys, rfl, h1, h2⟩ | ⟨h1, h2⟩)
          · simp [aggT, ht] at h2
          · cases h1; exact hv
      ·
        rename_i fs ht
        split at hp
        case h_2 => cases hp
        rename_i m hm
        split at hp
        case h_2 => cases hp
        rename_i hcm
        have hcm := Nat.eq_of_beq_eq_true hcm
        obtain ⟨ys, fu, hfu, hx, hl, hyl, hy⟩ := DataW.trod_struct ht h
        obtain rfl : fuel = fu := by omega
        cases hx
        have each : ∀ i (hi : i < fs.toList.length) (hi' : i < ys.length), ∃ x, RdD P (fs.toList[i]).type (ys[i]).1 x ∧ x.cells.length = P.cellsOf (fs.toList[i]).type ∧ CellsV W ((cs.drop (fs.toList[i]).offset).take (P.cellsOf (fs.toList[i]).type)) x.cells := by
          intro i hi hi'
          have h1 := hy i (fs.toList[i]) (by simp at hi; simp [hi])
          rw [List.getElem?_eq_getElem hi'] at h1
          obtain ⟨k, hk⟩ := hall n fs.toList hp i hi
          obtain ⟨x, k1, k2, k3, _⟩ := ih k _ _ (ys[i]).1 (ys[i]).2 h1 hk
          exact ⟨x, k1, k2, k3⟩
        have hfl : fs.toList.length = ys.length := by simp [hyl]
        have : ∃ xs : List AV, xs.length = fs.toList.length ∧ ∀ i (hi : i < fs.toList.length) (hi' : i < ys.length) (hx : i < xs.length), RdD P (fs.toList[i]).type (ys[i]).1 xs[i] ∧ xs[i].cells.length = P.cellsOf (fs.toList[i]).type ∧ CellsV W ((cs.drop (fs.toList[i]).offset).take (P.cellsOf (fs.toList[i]).type)) xs[i].cells := by
          refine ⟨(List.finRange fs.toList.length).map fun i => Classical.choose (each i.1 i.2 (by omega)), by simp, fun i hi hi' hx => ?_⟩
          simp only [List.getElem_map, List.getElem_finRange]
          exact Classical.choose_spec (each i hi hi')
        obtain ⟨xs, hxl, hxs⟩ := this
        obtain ⟨_, hcv⟩ := laidB_flat fs.toList 0 m W cs xs hm hxl (fun i h1 h2 => ⟨(hxs i h1 (by omega) h2).2.2, (hxs i h1 (by omega) h2).2.1⟩) (by omega)
        rw [List.drop_zero] at hcv
        refine ⟨.agg (xs.flatMap AV.cells), .st ht (by simp [hyl]) (by simpa using hxl) (fun i h1 h2 h3 => by
          have := (hxs i (by simpa using h3) (by simpa using h1) h2).1
          simp only [Array.getElem_toList, List.getElem_map] at this ⊢
          exact this), by show (xs.flatMap AV.cells).length = _; rw [← hcv.1]; omega, hcv, ?_⟩
        rintro v (⟨zs, rfl, h1, h2⟩ | ⟨h1, h2⟩)
        · refine .agg (by rw [← hcv.1, ← h1]; simp) (fun i hi => ?_)
          have h3 : i < cs.length := by rw [hcv.1]; exact hi
          have := hcv.2 i h3 hi
          subst h1
          rw [Array.getD_eq_getD_getElem?, Array.getElem?_eq_getElem (by simpa using h3)]
          simpa using this
        · simp [aggT, ht] at h2
      · cases hp
theorem read_plain {H : Type} {enc : TypeId × Value → H} {P : Program} {W : World} {r : Reach} {base : Nat} {n : Nat} {t : TypeId} {v : Value} {d : DataW H} {ps : List MemPlace} (hp : plainB P n t = true) (hv : Value.okWide P W r base t v)
    (h : DataW.Trod enc P W 0 (fun _ => true) true t v d ps) : ∃ a, VRel (Rl.old W) W v a ∧ RdD P t d a := by
  obtain ⟨fuel, hf⟩ := h
  obtain ⟨a, h1, _, _, h2⟩ := read_cells fuel n t _ d ps hf hp
  refine ⟨a, h2 v ?_, h1⟩
  cases n with
  | zero => simp [plainB] at hp
  | succ n =>
    rw [plainB] at hp
    split at hp
    · rename_i ht
      obtain ⟨b, rfl⟩ := okWide_bool ht hv
      exact .inr ⟨rfl, by simp [aggT, ht]⟩
    · rename_i k ht
      obtain ⟨b, rfl⟩ := okWide_int ht hv
      exact .inr ⟨rfl, by simp [aggT, ht]⟩
    · rename_i ht
      obtain ⟨b, rfl⟩ := okWide_string ht hv
      exact .inr ⟨rfl, by simp [aggT, ht]⟩
    · rename_i e ht
      obtain ⟨a, len, cap, rfl⟩ := okWide_slice ht hv
      exact .inr ⟨rfl, by simp [aggT, ht]⟩
    · rename_i fs ht
      obtain ⟨cs, rfl, _⟩ := okWide_struct ht hv
      exact .inl ⟨cs, rfl, rfl, by simp [aggT, ht]⟩
    · cases hp
def RdDAll (P : Program) {H : Type} : List Field → List (DataW H) → List AV → Prop
  | [], [], [] => True
  | f :: fs, d :: ds, x :: xs => RdD P f.type d x ∧ RdDAll P fs ds xs
  | _, _, _ => False
theorem RdDAll.of {P : Program} {H : Type} : ∀ {fs : List Field} {ds : List (DataW H)} {xs : List AV}, ds.length = fs.length → xs.length = fs.length → (∀ i (h1 : i < ds.length) (h2 : i < xs.length) (h3 : i < fs.length), RdD P fs[i].type ds[i] xs[i]) → RdDAll P fs ds xs
  | [], ds, xs, h1, h2, _ => by
    obtain rfl : ds = [] := List.eq_nil_of_length_eq_zero h1
    obtain rfl : xs = [] := List.eq_nil_of_length_eq_zero h2
    trivial
  | f :: fs, ds, xs, h1, h2, h => by
    cases ds with
    | nil => simp at h1
    | cons d ds =>
      cases xs with
      | nil => simp at h2
      | cons x xs =>
        exact ⟨h 0 (by simp) (by simp) (by simp), RdDAll.of (by simpa using h1) (by simpa using h2) (fun i k1 k2 k3 => h (i + 1) (Nat.succ_lt_succ k1) (Nat.succ_lt_succ k2) (Nat.succ_lt_succ k3))⟩
theorem RdDAll.cons {P : Program} {H : Type} {f : Field} {fs : List Field} {ds : List (DataW H)} {xs : List AV} (h : RdDAll P (f :: fs) ds xs) : ∃ d ds' x xs', ds = d :: ds' ∧ xs = x :: xs' ∧ RdD P f.type d x ∧ RdDAll P fs ds' xs' := by
  match ds, xs, h with
  | d :: ds', x :: xs', ⟨h1, h2⟩ => exact ⟨d, ds', x, xs', rfl, rfl, h1, h2⟩
theorem RdDAll.nil {P : Program} {H : Type} {ds : List (DataW H)} {xs : List AV} (h : RdDAll P [] ds xs) : ds = [] ∧ xs = [] := by
  match ds, xs, h with
  | [], [], _ => exact ⟨rfl, rfl⟩
section
variable {P : Program} {H : Type} {t : TypeId} {d : DataW H} {a : AV}
theorem RdD.inv_st {fs : Array Field} (h : RdD P t d a) (ht : P.underlying t = some (.struct fs)) : ∃ ds xs, d = .agg ds ∧ a = .agg (xs.flatMap AV.cells) ∧ RdDAll P fs.toList ds xs := by
  cases h with
  | st ht' hd hx h =>
    rw [ht] at ht'
    cases ht'
    exact ⟨_, _, rfl, rfl, .of (by simpa using hd) (by simpa using hx) (fun i h1 h2 h3 => by simpa using h i h1 h2 (by simpa using h3))⟩
  | bool ht' => rw [ht] at ht'; cases ht'
  | str ht' => rw [ht] at ht'; cases ht'
  | int ht' => rw [ht] at ht'; cases ht'
  | nils ht' => rw [ht] at ht'; cases ht'
  | sl ht' => rw [ht] at ht'; cases ht'
theorem RdD.inv_str (h : RdD P t d a) (ht : P.underlying t = some .string) : ∃ s, d = .lit (.string s) ∧ a = .str s ∧ s.length ≤ maxLen := by
  cases h with
  | str ht' hs => exact ⟨_, rfl, rfl, hs⟩
  | bool ht' => rw [ht] at ht'; cases ht'
  | int ht' => rw [ht] at ht'; cases ht'
  | nils ht' => rw [ht] at ht'; cases ht'
  | sl ht' => rw [ht] at ht'; cases ht'
  | st ht' => rw [ht] at ht'; cases ht'
theorem RdD.inv_sl {e : TypeId} (h : RdD P t d a) (ht : P.underlying t = some (.slice e)) :
    ∃ (ds : List (DataW H)) (xs : List AV), a = .sl true false (P.cellsOf e) xs ∧ xs.length = ds.length ∧ xs.length ≤ maxLen ∧ (∀ i (h1 : i < ds.length) (h2 : i < xs.length), RdD P e ds[i] xs[i]) ∧ ((d = .nil ∧ ds = []) ∨ ∃ rest, d = .slice ds rest) := by
  cases h with
  | nils ht' => rw [ht] at ht'; cases ht'; exact ⟨[], [], rfl, rfl, Nat.zero_le _, fun i h => absurd h (by simp), .inl ⟨rfl, rfl⟩⟩
  | sl ht' hl hm h => rw [ht] at ht'; cases ht'; exact ⟨_, _, rfl, hl, hm, h, .inr ⟨_, rfl⟩⟩
  | bool ht' => rw [ht] at ht'; cases ht'
  | int ht' => rw [ht] at ht'; cases ht'
  | str ht' => rw [ht] at ht'; cases ht'
  | st ht' => rw [ht] at ht'; cases ht'
theorem RdD.each {α : Type} {e : TypeId} (f : α → AV) (g : α → DataW H → Prop) {ds : List (DataW H)} {xs : List AV} (hl : xs.length = ds.length) (h : ∀ i (h1 : i < ds.length) (h2 : i < xs.length), RdD P e ds[i] xs[i])
    (hf : ∀ d x, RdD P e d x → ∃ y, x = f y ∧ g y d) : ∃ ys : List α, xs = ys.map f ∧ ys.length = ds.length ∧ ∀ i (h1 : i < ds.length) (h2 : i < ys.length), g ys[i] ds[i] := by
  induction xs generalizing ds with
  | nil =>
    obtain rfl : ds = [] := List.eq_nil_of_length_eq_zero (by simpa using hl.symm)
    exact ⟨[], rfl, rfl, fun i h => absurd h (by simp)⟩
  | cons x xs ih =>
    cases ds with
    | nil => simp at hl
    | cons d ds =>
      obtain ⟨y, hy, hg⟩ := hf d x (h 0 (by simp) (by simp))
      obtain ⟨ys, h1, h2, h3⟩ := ih (ds := ds) (by simpa using hl) (fun i k1 k2 => h (i + 1) (Nat.succ_lt_succ k1) (Nat.succ_lt_succ k2))
      refine ⟨y :: ys, by rw [hy, h1]; rfl, by simp [h2], fun i k1 k2 => ?_⟩
      cases i with
      | zero => exact hg
      | succ i => exact h3 i (Nat.lt_of_succ_lt_succ k1) (Nat.lt_of_succ_lt_succ k2)
end
end Go.Ab
end
section
set_option linter.unusedVariables false
set_option linter.unusedSimpArgs false
namespace Go.Ab
open Go Go.WideShapes
mutual
def avB : AV → Nat
  | .str s => s.length
  | .sl _ _ _ xs => avS xs
  | .agg cs => avC cs
  | _ => 0
def avS : List AV → Nat
  | [] => 0
  | x :: r => avB x + 1 + avS r
def avC : List AV → Nat
  | [] => 0
  | x :: r => avB x + avC r
end
theorem avC_append (a b : List AV) : avC (a ++ b) = avC a + avC b := by
  induction a with
  | nil => simp [avC]
  | cons x a ih => simp only [List.cons_append, avC, ih]; omega
theorem avC_cells (x : AV) : avC x.cells ≤ avB x := by
  cases x <;> simp [AV.cells, avC, avB]
theorem avC_flat (xs : List AV) : avC (xs.flatMap AV.cells) ≤ avC xs := by
  induction xs with
  | nil => simp
  | cons x xs ih =>
    have := avC_cells x
    simp only [List.flatMap_cons, avC_append, avC]; omega
theorem avC_le_avS (xs : List AV) : avC xs ≤ avS xs := by
  induction xs with
  | nil => simp [avC, avS]
  | cons x xs ih => simp only [avC, avS]; omega
theorem avS_mem {x : AV} : ∀ {xs : List AV}, x ∈ xs → avB x + 1 ≤ avS xs
  | y :: ys, h => by
    rcases List.mem_cons.1 h with rfl | h
    · simp only [avS]; omega
    · have := avS_mem h; simp only [avS]; omega
theorem bulk_all {P : Program} {H : Type} {B : DataW H → Nat} {BA : List (DataW H) → Nat} (hn : BA [] = 0) (hc : ∀ d r, BA (d :: r) = B d + BA r) : ∀ {ds : List (DataW H)} {xs : List AV}, xs.length = ds.length →
    (∀ i (h1 : i < ds.length) (h2 : i < xs.length), avB xs[i] + 1 ≤ B ds[i]) → avS xs ≤ BA ds
  | [], xs, hl, h => by
    obtain rfl : xs = [] := List.eq_nil_of_length_eq_zero (by simpa using hl)
    simp [avS]
  | d :: ds, xs, hl, h => by
    cases xs with
    | nil => simp at hl
    | cons x xs =>
      have h0 := h 0 (by simp) (by simp)
      have := bulk_all (P := P) (B := B) hn hc (ds := ds) (xs := xs) (by simpa using hl) (fun i h1 h2 => h (i + 1) (Nat.succ_lt_succ h1) (Nat.succ_lt_succ h2))
      simp only [avS, hc]
      simp only [List.getElem_cons_zero] at h0
      omega
theorem RdD.bulk {P : Program} {H : Type} {B : DataW H → Nat} {BA : List (DataW H) → Nat} (hn : BA [] = 0) (hc : ∀ d r, BA (d :: r) = B d + BA r) (h1 : ∀ d, 1 ≤ B d) (hs : ∀ s, B (.lit (.string s)) = s.length + 1)
    (hsl : ∀ a b, B (.slice a b) = BA a + BA b + 1) (hag : ∀ a, B (.agg a) = BA a + 1) {t : TypeId} {d : DataW H} {a : AV} (h : RdD P t d a) : avB a + 1 ≤ B d := by
  induction h with
  | bool => simpa [avB] using h1 _
  | int => simpa [avB] using h1 _
  | str => simp [avB, hs]
  | nils => simpa [avB, avS] using h1 _
  | sl ht hl hm h ih =>
    have := bulk_all (P := P) (B := B) hn hc hl ih
    rw [hsl]; simp only [avB]; omega
  | st ht hd hx h ih =>
    have := bulk_all (P := P) (B := B) hn hc (by omega) (fun i a b => ih i a b (by omega))
    rw [hag]; simp only [avB]
    rename_i t fs ds xs
    have k1 := avC_flat xs
    have k2 := avC_le_avS xs
    omega
end Go.Ab
end
section
set_option linter.unusedVariables false
set_option linter.unusedSimpArgs false
set_option maxRecDepth 20000
set_option maxHeartbeats 1000000
namespace Go.Proofs.YtnfalbdnkgaelaaDoor
open Go Go.Ab
theorem text_avB {x : List (List UInt8)} : ∀ s ∈ x, s.length ≤ avS (texts x) := fun s hs => by
  have : avB (.str s) + 1 ≤ avS (texts x) := avS_mem (by simp [texts, hs])
  simp only [avB] at this; omega
theorem len_avS : ∀ (xs : List AV), xs.length ≤ avS xs
  | [] => Nat.zero_le _
  | x :: r => by have := len_avS r; simp only [avS, List.length_cons]; omega
theorem tg_of {l : List Tg} {k : Nat} (h : avB (.sl true false 5 (tgs true l)) ≤ k) : l.length ≤ k ∧ ∀ t ∈ l, t.name.length ≤ k ∧ t.needs.length ≤ k ∧ t.outs.length ≤ k ∧ t.srcs.length ≤ k ∧ t.cmd.length ≤ k ∧ (∀ s ∈ t.srcs, s.length ≤ k) ∧ (∀ s ∈ t.outs, s.length ≤ k) := by
  have h : avS (tgs true l) ≤ k := h
  refine ⟨by have := len_avS (tgs true l); rw [tgs_len] at this; omega, fun t ht => ?_⟩
  have h1 : avB (tgA true t) + 1 ≤ avS (tgs true l) := avS_mem (List.mem_map_of_mem ht)
  have h2 : avB (AV.agg [.str t.name, .sl true false 1 (texts t.srcs), .sl true false 1 (texts t.needs), .sl true false 1 (texts t.outs), .sl true false 1 (texts t.cmd)]) + 1 ≤ avS (tgs true l) := h1
  simp only [avB, avC] at h2
  have e1 := len_avS (texts t.srcs)
  have e2 := len_avS (texts t.needs)
  have e3 := len_avS (texts t.outs)
  have e4 := len_avS (texts t.cmd)
  rw [texts_len] at e1 e2 e3 e4
  refine ⟨by omega, by omega, by omega, by omega, by omega, fun s hs => ?_, fun s hs => ?_⟩
  · have := text_avB s hs; omega
  · have := text_avB s hs; omega
theorem tgSz_of {l : List Tg} (h : avB (.sl true false 5 (tgs true l)) ≤ 1048576) : l.length ≤ 1000000000 ∧ TgSz l := by
  obtain ⟨h1, h2⟩ := tg_of h
  exact ⟨by omega, fun t ht => by have := (h2 t ht).1; omega, fun t ht => (h2 t ht).2.1⟩
theorem ord_full {l : List Tg} (hok : NmOk l) (P : Nat → Bool) (hcl : ∀ n ∈ smG l P l.length, ∀ k ∈ ndT l n, k ∈ smG l P l.length) : (ordG (ndT l) (smG l P l.length) (smG l P l.length).length []).length = (smG l P l.length).length ↔ hcG l P = false := by
  obtain ⟨g1, g2, g3⟩ := ord_good (needs := ndT l) (sm := smG l P l.length) (smG l P l.length).length [] .nil (fun n hn => by cases hn) (by simp)
  have h1 := ord_all hcl
  have h2 : (∀ c ∈ smG l P l.length, ¬ Way (NeedR (ndT l)) c c) ↔ hcG l P = false := by
    rw [hcG, List.any_eq_false]
    constructor
    · intro h i hi hh
      obtain ⟨p1, p2⟩ := Bool.and_eq_true_iff.1 hh
      have hi := List.mem_range.1 hi
      exact h (nmAt l i) (smG_mem.2 ⟨i, hi, p1, rfl⟩) ((rch_nm hok hi hi).1 p2)
    · intro h c hc hw
      obtain ⟨i, hi, p1, rfl⟩ := smG_mem.1 hc
      exact h i (List.mem_range.2 hi) (by rw [p1, (rch_nm hok hi hi).2 hw]; rfl)
  rw [← h2, ← h1]
  generalize ordG (ndT l) (smG l P l.length) (smG l P l.length).length [] = od at *
  constructor
  · intro hlen n hn
    refine Classical.byContradiction fun hno => ?_
    have := List.Nodup.length_le_of_subset (List.nodup_cons.2 ⟨hno, g1.nodup⟩) (l₂ := smG l P l.length) (fun x hx => by
      rcases List.mem_cons.1 hx with rfl | hx
      · exact hn
      · exact g2 x hx)
    rw [List.length_cons] at this; omega
  · intro hall
    have h3 := List.Nodup.length_le_of_subset g1.nodup (l₂ := smG l P l.length) g2
    have h4 := List.Nodup.length_le_of_subset (smG_nodup hok.nd P) (l₂ := od) hall
    omega
theorem ord_len (nd : Nm → List Nm) (sm : List Nm) : (ordG nd sm sm.length []).length ≤ sm.length := by
  obtain ⟨g1, g2, g3⟩ := ord_good (needs := nd) (sm := sm) sm.length [] .nil (fun n hn => by cases hn) (by simp)
  exact List.Nodup.length_le_of_subset g1.nodup g2
theorem begun_ok {σ : Heap} : ∃ args', Calc cx 17 args' (.bool true) ∧ Frzs σ [] args' := ⟨[], graphBegun_ok, .nil _⟩
end Go.Proofs.YtnfalbdnkgaelaaDoor
end
section
set_option linter.unusedVariables false
set_option linter.unusedSimpArgs false
set_option maxRecDepth 20000
set_option maxHeartbeats 1000000
namespace Go.Proofs.YtnfalbdnkgaelaaDoor
open Go Go.Ab
theorem sm_cone (l : List Tg) (at_ : Nat) : smG l (inG l at_) l.length = coneG l at_ := rfl
theorem cE_is {l : List Tg} {name : Nm} (h : akE l name = 0) : cE l name = if hcG l (inG l (atG l name)) = true then 10 else 0 := by
  obtain ⟨hok, hnm⟩ := ak_ok h
  have := ord_full hok (inG l (atG l name)) (by rw [sm_cone]; exact coneG_closed hok (atG_lt hnm))
  rw [sm_cone] at this
  unfold cE
  rw [if_pos h]
  show (if (ordG (ndT l) (coneG l (atG l name)) (coneG l (atG l name)).length []).length = (coneG l (atG l name)).length then 0 else 10) = _
  cases hc : hcG l (inG l (atG l name)) with
  | true =>
    rw [hc] at this
    rw [if_neg (fun e => by cases this.1 e), if_pos rfl]
  | false =>
    rw [if_pos (this.2 hc), if_neg (by simp)]
theorem cE_ak {l : List Tg} {name : Nm} (h : akE l name ≠ 0) : cE l name = akE l name := by unfold cE; rw [if_neg h]
theorem ordC_len {l : List Tg} {name : Nm} (hok : NmOk l) : (ordC l name).length ≤ 60 := by
  have h1 := ord_len (ndT l) (cnG l name)
  have h2 := List.Nodup.length_le_of_subset (coneG_nodup hok.nd (atG l name)) (l₂ := nmsG l) (fun x hx => coneG_sub x hx)
  have h3 := hok.len
  rw [nms_len] at h2
  have h2 : (cnG l name).length ≤ l.length := h2
  have h1 : (ordC l name).length ≤ (cnG l name).length := h1
  omega
theorem usQ_iff2 {l : List Tg} (hok : NmOk l) {name n : Nm} (hn : n ∈ nmsG l) : usQ l name n = true ↔ Way (NeedR (ndT l)) n name := by
  unfold usQ
  rw [List.any_eq_true]
  constructor
  · rintro ⟨k, hk, h⟩
    have h := of_decide_eq_true h
    rw [(bfsR_is (hok.ndT n hn k hk) hok.ndT).2] at h
    rcases h with rfl | h
    · exact .one hk
    · exact .cons hk h
  · intro h
    cases h with
    | one h => exact ⟨name, h, decide_eq_true (((bfsR_is (hok.ndT n hn name h) hok.ndT).2 name).2 (.inl rfl))⟩
    | cons h r =>
      rename_i k
      exact ⟨k, h, decide_eq_true (((bfsR_is (hok.ndT n hn k h) hok.ndT).2 name).2 (.inr r))⟩
theorem GraphCones_ok (l : List Tg) (name : List UInt8) (hk : avB (.sl true false 5 (tgs true l)) ≤ 1048576) (hname : name.length ≤ 1048576) : Calc cx 4 [.sl true false 5 (tgs true l), .str name] (.bool true) :=
  pure_intro (fun a w => Tryd.call4 a w) Tryd.func4 rfl Tryd.ntmps4 rfl .bool fun B => by
    obtain ⟨hl, hz⟩ := tgSz_of hk
    have hO := Cone_ok true true false l name hl hz
    have hC := askedR_ok true true false l name hl hz
    have harg : ∀ σ : Heap, Frzs σ [.sl true false 5 (tgs true l), .str name] [.sl true false 5 (tgs true l), .str name] := fun σ => .cons (tgs_arg ..) (.cons (.refl .str) (.nil _))
    have lend : ∀ (σ : Heap) (x : List Nm), Frz false σ (.sl true false 1 (texts x)) (.sl true false 1 (texts x)) := fun σ x => .refl (.sl (fun h => by cases h) (texts_any x))
    by_cases h : akE l name = 0
    · obtain ⟨hok, hnm⟩ := ak_ok h
      have hl60 := hok.len
      have hat := atG_lt hnm
      have htA : tAt l name = ((atG l name : Nat) : Int) := by unfold tAt; rw [if_pos hnm]
      have hI := InCone_ok true true false l (atG l name) hat hok hz
      have hH := HasCircle_ok true true false true false l (inG l (atG l name)) hok hz
      have hF := OrderOf_ok true true false true false l (inG l (atG l name)) hok hz
      rw [sm_cone, show ordG (ndT l) (coneG l (atG l name)) (coneG l (atG l name)).length [] = ordC l name from rfl] at hF
      rw [h, htA] at hC
      have hoe := cE_is h
      have hol := ordC_len (name := name) hok
      generalize inG l (atG l name) = P at *
      have hbo : ∀ σ : Heap, Frz false σ (.sl true false 1 (booA l.length P)) (.sl true false 1 (booA l.length P)) := fun σ => .refl (.sl (fun h => by cases h) (boo_free _ _))
      have hia : ∀ σ : Heap, Frzs σ [.sl true false 5 (tgs true l), .int .i64 ((atG l name : Nat) : Int)] [.sl true false 5 (tgs true l), .int .i64 ((atG l name : Nat) : Int)] := fun σ => .cons (tgs_arg ..) (.cons (.refl .int) (.nil _))
      have hpa : ∀ σ : Heap, Frzs σ [.sl true false 5 (tgs true l), .sl true false 1 (booA l.length P)] [.sl true false 5 (tgs true l), .sl true false 1 (booA l.length P)] := fun σ => .cons (tgs_arg ..) (.cons (hbo σ) (.nil _))
      cases hc : hcG l P with
      | true =>
        rw [hc] at hH hoe
        rw [if_pos rfl] at hoe
        rw [hoe] at hO
        have hA := textsAre_ok (st := true) (fl := false) (st' := true) (fl' := false) [] [] 10 10 (by simp) (by simp)
        refine pa [.v (outAV (ordC l name) 10), .v (.tup [.int .i64 ((atG l name : Nat) : Int), .int .i64 0]), .b true, .v (.sl true false 1 (booA l.length P)), .v (.bool true), .b true, .v (.bool true), .b true, .v (.bool true)] rfl ?_ ?_
        · (repeat' with_reducible apply AllP_cons) <;> try exact aC
          · exact ⟨_, hO, harg _⟩
          · exact ⟨_, hC, harg _⟩
          · exact ⟨_, hI, hia _⟩
          · exact ⟨_, hH, hpa _⟩
          · exact begun_ok
          · exact ⟨_, hA, .cons (lend _ []) (.cons (.refl .int) (.cons (.refl .int) (.cons .nils (.nil _))))⟩
        exact S_retc .bool rfl trivial rfl
      | false =>
        rw [hc] at hH hoe
        rw [if_neg (by simp)] at hoe
        rw [hoe] at hO
        have hA := textsAre_ok (st := true) (fl := false) (st' := true) (fl' := false) (ordC l name) (ordC l name) 0 0 (by omega) (by omega)
        have e : (((0 : Nat) == 0) && (ordC l name == if 0 = 0 then ordC l name else [])) = true := by simp
        rw [e] at hA
        refine pa [.v (outAV (ordC l name) 0), .v (.tup [.int .i64 ((atG l name : Nat) : Int), .int .i64 0]), .b true, .v (.sl true false 1 (booA l.length P)), .v (.bool false), .b false, .v (.sl true false 1 (texts (ordC l name))), .v (.bool true), .b true, .v (.bool true)] rfl ?_ ?_
        · (repeat' with_reducible apply AllP_cons) <;> try exact aC
          · exact ⟨_, hO, harg _⟩
          · exact ⟨_, hC, harg _⟩
          · exact ⟨_, hI, hia _⟩
          · exact ⟨_, hH, hpa _⟩
          · exact ⟨_, hF, hpa _⟩
          · exact begun_ok
          · exact ⟨_, hA, .cons (lend _ (ordC l name)) (.cons (.refl .int) (.cons (.refl .int) (.cons (lend _ (ordC l name)) (.nil _))))⟩
        exact S_retc .bool rfl trivial rfl
    · have hoe := cE_ak h
      rw [hoe] at hO
      have hne : (((akE l name : Nat) : Int) == 0) = false := by simpa using h
      have hA := textsAre_ok (st := true) (fl := false) (st' := true) (fl' := false) [] [] (akE l name) (akE l name) (by simp) (by simp)
      have e : ((akE l name == akE l name) && (([] : List Nm) == if akE l name = 0 then [] else [])) = true := by simp
      rw [e] at hA
      have hov : outAV (ordC l name) (akE l name) = .tup [.sl true false 1 (texts []), .int .i64 (akE l name : Nat)] := by unfold outAV; rw [if_neg h]
      rw [hov] at hO
      refine pa [.v (.tup [.sl true false 1 (texts []), .int .i64 (akE l name : Nat)]), .v (.tup [.int .i64 (tAt l name), .int .i64 (akE l name : Nat)]), .b false, .v (.bool true), .b true, .v (.bool true)] rfl ?_ ?_
      · (repeat' with_reducible apply AllP_cons) <;> try exact aC
        · exact ⟨_, hO, harg _⟩
        · exact ⟨_, hC, harg _⟩
        · exact begun_ok
        · exact ⟨_, hA, .cons (lend _ []) (.cons (.refl .int) (.cons (.refl .int) (.cons .nils (.nil _))))⟩
      exact S_retc .bool rfl trivial rfl
end Go.Proofs.YtnfalbdnkgaelaaDoor
end
section
set_option linter.unusedVariables false
set_option linter.unusedSimpArgs false
set_option maxRecDepth 20000
namespace Go.Proofs.YtnfalbdnkgaelaaDoor
open Go Go.Ab
theorem open_l {H : Type} {d : DataW H} {a : AV} (h : RdD Tryd.prog 23 d a) : ∃ l : List (List UInt8), a = .sl true false 1 (texts l) := by
  obtain ⟨ds, xs, rfl, hl, hm, hall, _⟩ := h.inv_sl Tryd.underlying23
  obtain ⟨ys, rfl, hy, hg⟩ := RdD.each AV.str (fun _ _ => True) hl hall (fun d x h => by
    obtain ⟨s, _, rfl, _⟩ := h.inv_str Tryd.underlying9
    exact ⟨s, rfl, trivial⟩)
  have hc : Tryd.prog.cellsOf 9 = 1 := by kernel_rfl
  exact ⟨ys, by rw [hc]; rfl⟩
end Go.Proofs.YtnfalbdnkgaelaaDoor
end
section
set_option linter.unusedVariables false
set_option linter.unusedSimpArgs false
set_option maxRecDepth 20000
namespace Go.Proofs.YtnfalbdnkgaelaaDoor
open Go Go.Ab
theorem open_tg {H : Type} {d : DataW H} {a : AV} (h : RdD Tryd.prog 44 d a) : ∃ f : Tg, a = tgA true f := by
  obtain ⟨ds, xs, rfl, rfl, hall⟩ := h.inv_st Tryd.underlying44
  obtain ⟨d0, ds, x0, xs, rfl, rfl, h0, hall⟩ := hall.cons
  obtain ⟨d1, ds, x1, xs, rfl, rfl, h1, hall⟩ := hall.cons
  obtain ⟨d2, ds, x2, xs, rfl, rfl, h2, hall⟩ := hall.cons
  obtain ⟨d3, ds, x3, xs, rfl, rfl, h3, hall⟩ := hall.cons
  obtain ⟨d4, ds, x4, xs, rfl, rfl, h4, hall⟩ := hall.cons
  obtain ⟨rfl, rfl⟩ := hall.nil
  obtain ⟨s0, rfl, rfl, _⟩ := h0.inv_str Tryd.underlying9
  obtain ⟨l1, rfl⟩ := open_l h1
  obtain ⟨l2, rfl⟩ := open_l h2
  obtain ⟨l3, rfl⟩ := open_l h3
  obtain ⟨l4, rfl⟩ := open_l h4
  exact ⟨⟨s0, l1, l2, l3, l4⟩, rfl⟩
theorem open_T {H : Type} {d : DataW H} {a : AV} (h : RdD Tryd.prog 22 d a) : ∃ l : List Tg, a = .sl true false 5 (tgs true l) := by
  obtain ⟨ds, xs, rfl, hl, hm, hall, _⟩ := h.inv_sl Tryd.underlying22
  obtain ⟨ys, rfl, hy, hg⟩ := RdD.each (tgA true) (fun _ _ => True) hl hall (fun d x h => by
    obtain ⟨f, rfl⟩ := open_tg h
    exact ⟨f, rfl, trivial⟩)
  have hc : Tryd.prog.cellsOf 44 = 5 := by kernel_rfl
  exact ⟨ys, by rw [hc]; rfl⟩
end Go.Proofs.YtnfalbdnkgaelaaDoor
end
section
set_option linter.unusedVariables false
set_option linter.unusedSimpArgs false
set_option maxRecDepth 20000
set_option maxHeartbeats 4000000
namespace Go.Proofs.YtnfalbdnkgaelaaDoor
open Go Go.Ab
def lessN (s : List UInt8) : List (List UInt8) → Nat
  | [] => 0
  | x :: r => if Op.bytesLess x s = true then lessN s r + 1 else 0
def addT (l : List (List UInt8)) (s : List UInt8) : List (List UInt8) := if l[lessN s l]? = some s then l else l.take (lessN s l) ++ s :: l.drop (lessN s l)
theorem lessN_le (s : List UInt8) : ∀ l : List (List UInt8), lessN s l ≤ l.length
  | [] => Nat.le_refl _
  | x :: r => by
    rw [lessN]
    split
    · have := lessN_le s r; rw [List.length_cons]; omega
    · exact Nat.zero_le _
theorem lessN_lt {s : List UInt8} : ∀ {l : List (List UInt8)} {i : Nat} (hi : i < l.length), i < lessN s l → Op.bytesLess l[i] s = true
  | x :: r, i, hi, h => by
    rw [lessN] at h
    split at h
    · rename_i hx
      cases i with
      | zero => exact hx
      | succ i => exact lessN_lt (l := r) (by simpa using hi) (by omega)
    · omega
theorem lessN_at {s : List UInt8} : ∀ {l : List (List UInt8)} (h : lessN s l < l.length), Op.bytesLess l[lessN s l] s = false
  | x :: r, h => by
    by_cases hx : Op.bytesLess x s = true
    · have e : lessN s (x :: r) = lessN s r + 1 := by rw [lessN, if_pos hx]
      have h' : lessN s r < r.length := by rw [e, List.length_cons] at h; omega
      have := lessN_at h'
      simp only [e, List.getElem_cons_succ]
      exact this
    · have e : lessN s (x :: r) = 0 := by rw [lessN, if_neg hx]
      simp only [e, List.getElem_cons_zero]
      simpa using hx
theorem txl (x : List (List UInt8)) : (texts x).length = x.length := List.length_map ..
theorem AddText_ok {fl : Bool} (l : List (List UInt8)) (s : List UInt8) (hl : l.length ≤ 1000000000) : Calc cx 24 [.sl true fl 1 (texts l), .str s] (.sl true false 1 (texts (addT l s))) :=
  pure_intro (fun a w => Tryd.call24 a w) Tryd.func24 rfl Tryd.ntmps24 rfl (.sl (fun _ => rfl) (texts_any _)) fun B => by
    have htl : (texts l).length = l.length := by simp [texts]
    have hle := lessN_le s l
    refine pB [] rfl ?_
    refine S_while (α := Nat) (fun i => [(0, .sl true fl 1 (texts l)), (1, .str s), (5, .int .i64 (i : Nat))]) (fun _ => []) (fun i => i ≤ lessN s l) (fun i => l.length - i) 0
      (Nat.zero_le _) (.cons rfl (.cons rfl (.cons rfl (.nil _)))) rfl ?_
    intro i hi
    have hi : i ≤ lessN s l := hi
    have hT : cutL (some (i : Int)) none (texts l) = texts (l.drop i) := by simp [cutL, texts]
    have hD : cutL none (some (i : Int)) (texts l) = texts (l.take i) := by simp [cutL, texts]
    have hone' : ∀ (x : List (List UInt8)), ∀ y ∈ texts x, y.one = true := by
      intro x y hy
      obtain ⟨t, _, rfl⟩ := List.mem_map.1 hy; rfl
    have hone : ∀ {xs : List AV} (x : List (List UInt8)), xs = texts x → ∀ y ∈ flatA 1 xs, y.one = true := by
      intro xs x hx y hy
      have hy : y ∈ xs := hy
      rw [hx] at hy
      exact hone' x y hy
    by_cases hlt : i < l.length
    · have e1 : decide ((i : Int) < (((texts l).length : Nat) : Int)) = true := decide_eq_true (by omega)
      have g1 : (texts l)[(i : Int).toNat]? = some (.str l[i]) := by rw [Int.toNat_natCast]; simp [texts, List.getElem?_eq_getElem hlt]
      by_cases hil : i < lessN s l
      · have e2 := lessN_lt hlt hil
        refine pB [.b true, .v (.str l[i]), .b true] rfl ?_
        exact S_round (i + 1) (by show l.length - (i + 1) < l.length - i; omega) hil (.cons rfl (.cons rfl (.cons (nX (by omega)) (.nil _)))) rfl
      · have hie : i = lessN s l := by omega
        have e2 : Op.bytesLess l[i] s = false := by subst hie; exact lessN_at hlt
        by_cases heq : l[i] = s
        · have e3 : (l[i] == s) = true := by simpa using heq
          have hres : addT l s = l := by unfold addT; rw [← hie, List.getElem?_eq_getElem hlt, heq, if_pos rfl]
          rw [hres]
          refine pB [.b true, .v (.str l[i]), .b false, .b true, .v (.str l[i]), .b true] rfl ?_
          refine S_ret ⟨_, _, rfl, trivial, _, rfl, ?_⟩
          show Frz true [] (.sl true fl 1 (texts l)) (.sl true false 1 (texts l))
          exact .full (fun _ => rfl) (texts_any l)
        · have e3 : (l[i] == s) = false := by simpa using heq
          have hres : addT l s = l.take i ++ s :: l.drop i := by unfold addT; rw [← hie, List.getElem?_eq_getElem hlt, if_neg (fun h => heq (Option.some.inj h))]
          rw [hres]
          refine pa [.b true, .v (.str l[i]), .b false, .b true, .v (.str l[i]), .b false, .d 9 10 [] (fun _ => [(0, some (.cells (.str s :: texts (l.drop i)) ⟨false, none⟩))]) [.ms 0 0 0 ((l.drop i).length + 1) 1 false]] rfl ?_ ?_
          · (repeat' with_reducible apply AllP_cons) <;> try exact aC
            · exact hone _ hT
            · exact hone _ hT
            · rw [hT, txl, List.length_drop]; left; omega
            · show (1 + (cutL (some (i : Int)) none (texts l)).length) * 16 ≤ 140737488355328
              rw [hT, txl, List.length_drop]; omega
            · show 1 + (cutL (some (i : Int)) none (texts l)).length ≤ 9223372036854775807
              rw [hT, txl, List.length_drop]; omega
            · show AV.ms 0 0 0 (1 + (cutL (some (i : Int)) none (texts l)).length) 1 false = _
              rw [hT, txl, Nat.add_comm]
            · show ([(0, some (.cells ([.str s] ++ cutL (some (i : Int)) none (texts l)) ⟨false, none⟩))] : Heap) = _
              rw [hT]; rfl
            · show 0 + ((l.drop i).length + 1) * 1 ≤ (AV.str s :: texts (l.drop i)).length
              rw [List.length_cons, txl]; omega
            · intro y hy
              have hy : y ∈ (AV.str s :: texts (l.drop i)) := List.mem_of_mem_take hy
              rcases List.mem_cons.1 hy with rfl | hy
              · rfl
              · obtain ⟨t, _, rfl⟩ := List.mem_map.1 hy; rfl
            · exact hone _ hD
            · show ((cutL none (some (i : Int)) (texts l)).length + ((l.drop i).length + 1)) * 16 ≤ 140737488355328
              rw [hD, txl, List.length_take, List.length_drop]; omega
            · rw [hD, txl, List.length_take, List.length_drop]; omega
          refine S_ret ⟨_, _, rfl, trivial, _, rfl, ?_⟩
          show Frz true [(0, some (.cells (.str s :: texts (l.drop i)) ⟨false, none⟩)), (0, some (.cells (cutL none (some (i : Int)) (texts l) ++ (AV.str s :: texts (l.drop i)).take (((l.drop i).length + 1) * 1)) ⟨false, none⟩))] (.ms 1 0 0 ((cutL none (some (i : Int)) (texts l)).length + ((l.drop i).length + 1)) 1 false) _
          have hxs : texts (l.take i ++ s :: l.drop i) = texts (l.take i) ++ (AV.str s :: texts (l.drop i)) := by simp [texts]
          rw [hD, List.take_of_length_le (l := (AV.str s :: texts (l.drop i))) (by rw [List.length_cons, txl]; omega), ← hxs]
          exact Frz.ms1 rfl (hone' _) (by rw [hxs, List.length_append, List.length_cons, txl, txl]) (texts_any _)
    · have hie : i = l.length := by omega
      have hin : lessN s l = l.length := by omega
      have e1 : decide ((i : Int) < (((texts l).length : Nat) : Int)) = false := decide_eq_false (by omega)
      have hres : addT l s = l ++ [s] := by unfold addT; rw [hin, List.getElem?_eq_none (Nat.le_refl _), if_neg (by simp), List.take_length, List.drop_length]
      rw [hres]
      refine pa [.b false, .b false, .b false, .b false, .d 9 10 [1000001] (fun σ => σ) [.sl true true 1 [.str s]]] rfl ?_ ?_
      · (repeat' with_reducible apply AllP_cons) <;> try exact aC
        · exact OpSpec.append0 (st := true) (fl := true) (st' := true) (fl' := _) (sz := 1) rfl rfl rfl rfl (by show AV.sl true _ 1 (cutL (some (i : Int)) none (texts l)) = _; rw [hT, hie, List.drop_length]; rfl)
        · exact hone _ hD
        · show ((cutL none (some (i : Int)) (texts l)).length + 1) * 16 ≤ 140737488355328
          rw [hD, txl, List.length_take]; omega
        · show (cutL none (some (i : Int)) (texts l)).length + 1 ≤ 9223372036854775807
          rw [hD, txl, List.length_take]; omega
      refine S_ret ⟨_, _, rfl, trivial, _, rfl, ?_⟩
      show Frz true [(0, some (.cells (cutL none (some (i : Int)) (texts l) ++ [.str s]) ⟨false, none⟩))] (.ms 0 0 0 ((cutL none (some (i : Int)) (texts l)).length + 1) 1 false) _
      have hxs : texts (l ++ [s]) = texts l ++ [.str s] := by simp [texts]
      rw [hD, hie, List.take_length, ← hxs]
      exact Frz.ms1 rfl (hone' _) (by rw [hxs, List.length_append]; rfl) (texts_any _)
end Go.Proofs.YtnfalbdnkgaelaaDoor
end
section
set_option linter.unusedVariables false
set_option linter.unusedSimpArgs false
set_option maxRecDepth 20000
set_option maxHeartbeats 1000000
namespace Go.Proofs.YtnfalbdnkgaelaaDoor
open Go Go.Ab
theorem addT_new {m : List Nm} {s : Nm} (hs : s ∉ m) : addT (sortT m) s = sortT (m ++ [s]) := by
  obtain ⟨l, hl⟩ : ∃ l, l = sortT m := ⟨_, rfl⟩
  have hmem : ∀ x, x ∈ l ↔ x ∈ m := fun x => by rw [hl]; exact (sortT_perm m).mem_iff
  have hpw : l.Pairwise (fun x y => x ≤ y) := by rw [hl]; exact sortT_pw m
  have hpg : ∀ i j (hi : i < l.length) (hj : j < l.length), i ≤ j → l[i] ≤ l[j] := fun i j hi hj hij => by
    rcases Nat.lt_or_ge i j with h | h
    · exact List.pairwise_iff_getElem.1 hpw i j hi hj h
    · have : i = j := by omega
      subst this; exact List.le_refl _
  rw [← hl]
  have hsl : ¬ l[lessN s l]? = some s := fun h => hs ((hmem s).1 (List.mem_of_getElem? h))
  have hbefore : ∀ i (hi : i < l.length), i < lessN s l → l[i] < s := fun i hi h => (bl_lt _ _).1 (lessN_lt hi h)
  have hafter : ∀ i (hi : i < l.length), lessN s l ≤ i → s ≤ l[i] := fun i hi h => by
    have hk2 : lessN s l < l.length := by omega
    have h1 := lessN_at hk2
    exact tx_trans (bl_le (by rw [h1]; simp)) (hpg _ _ hk2 hi h)
  rw [addT, if_neg hsl]
  refine perm_sorted ?_ ?_ (sortT_pw _)
  · refine List.perm_middle.trans ?_
    rw [List.take_append_drop]
    refine List.Perm.trans ?_ (sortT_perm _).symm
    rw [hl]
    refine ((sortT_perm m).cons s).trans ?_
    exact (List.perm_append_singleton s m).symm
  · rw [List.pairwise_append]
    refine ⟨hpw.sublist (List.take_sublist _ _), ?_, ?_⟩
    · rw [List.pairwise_cons]
      refine ⟨fun x hx => ?_, hpw.sublist (List.drop_sublist _ _)⟩
      obtain ⟨i, hi, rfl⟩ := List.getElem_of_mem hx
      rw [List.getElem_drop]
      rw [List.length_drop] at hi
      exact hafter _ (by omega) (by omega)
    · intro x hx y hy
      obtain ⟨i, hi, rfl⟩ := List.getElem_of_mem hx
      rw [List.length_take] at hi
      rw [List.getElem_take]
      have h1 := lt_le (hbefore i (by omega) (by omega))
      rcases List.mem_cons.1 hy with rfl | hy
      · exact h1
      · obtain ⟨j, hj, rfl⟩ := List.getElem_of_mem hy
        rw [List.length_drop] at hj
        rw [List.getElem_drop]
        exact tx_trans h1 (hafter _ (by omega) (by omega))
theorem usr_is {l : List Tg} (hok : NmOk l) {name : Nm} (hnm : name ∈ nmsG l) : usrL l name = sortT (smG l (fun i => rchG l i (atG l name)) l.length) := by
  unfold usrL
  refine sortT_eq ((List.perm_ext_iff_of_nodup (hok.nd.filter _) (smG_nodup hok.nd _)).2 fun x => ?_)
  rw [List.mem_filter, smG_mem]
  constructor
  · rintro ⟨h1, h2⟩
    refine ⟨atG l x, atG_lt h1, ?_, nmAt_at h1⟩
    rw [rch_nm hok (atG_lt h1) (atG_lt hnm), nmAt_at h1, nmAt_at hnm]
    exact (usQ_iff2 hok h1).1 h2
  · rintro ⟨j, h1, h2, rfl⟩
    refine ⟨nmAt_mem h1, (usQ_iff2 hok (nmAt_mem h1)).2 ?_⟩
    rw [rch_nm hok h1 (atG_lt hnm), nmAt_at hnm] at h2
    exact h2
theorem GraphUsers_ok (l : List Tg) (name : List UInt8) (hk : avB (.sl true false 5 (tgs true l)) ≤ 1048576) (hname : name.length ≤ 1048576) : Calc cx 5 [.sl true false 5 (tgs true l), .str name] (.bool true) :=
  pure_intro (fun a w => Tryd.call5 a w) Tryd.func5 rfl Tryd.ntmps5 rfl .bool fun B => by
    obtain ⟨hl, hz⟩ := tgSz_of hk
    have hll := tgs_len true l
    have hO := Users_ok true true false l name hl hz
    have hC := askedR_ok true true false l name hl hz
    have harg : ∀ σ : Heap, Frzs σ [.sl true false 5 (tgs true l), .str name] [.sl true false 5 (tgs true l), .str name] := fun σ => .cons (tgs_arg ..) (.cons (.refl .str) (.nil _))
    have lend : ∀ (σ : Heap) (x : List Nm), Frz false σ (.sl true false 1 (texts x)) (.sl true false 1 (texts x)) := fun σ x => .refl (.sl (fun h => by cases h) (texts_any x))
    by_cases h : akE l name = 0
    · obtain ⟨hok, hnm⟩ := ak_ok h
      have hl60 := hok.len
      have hat := atG_lt hnm
      have htA : tAt l name = ((atG l name : Nat) : Int) := by unfold tAt; rw [if_pos hnm]
      have hR := Reach_ok true true false l hok hz
      have hu := usr_is hok hnm
      rw [h, htA] at hC
      rw [h] at hO
      generalize atG l name = a at *
      have hul : (usrL l name).length ≤ 60 := by
        have h1 := (sortT_perm ((nmsG l).filter (usQ l name))).length_eq
        have h2 := List.length_filter_le (usQ l name) (nmsG l)
        rw [nms_len] at h2
        have h1 : (usrL l name).length = ((nmsG l).filter (usQ l name)).length := h1
        omega
      refine pa [.v (outAV (usrL l name) 0), .v (.tup [.int .i64 (a : Int), .int .i64 0]), .b true, .v (.sl true false 1 (rowsA l.length l.length (rchG l)))] rfl ?_ ?_
      · (repeat' with_reducible apply AllP_cons) <;> try exact aC
        · exact ⟨_, hO, harg _⟩
        · exact ⟨_, hC, harg _⟩
        · exact ⟨_, hR, .cons (tgs_arg ..) (.nil _)⟩
      refine S_nilF 9 1 true false rfl ⟨_, _, .inl rfl⟩ ?_
      refine S_while (α := Nat) (fun i => [(0, .sl true false 5 (tgs true l)), (5, .sl true false 1 (texts (usrL l name))), (6, .int .i64 0), (7, .int .i64 (a : Int)), (8, .int .i64 0), (9, .sl true false 1 (texts (sortT (smG l (fun i => rchG l i a) i)))), (10, .sl true false 1 (rowsA l.length l.length (rchG l))), (11, .int .i64 (i : Nat))]) (fun _ => [])
        (fun i => i ≤ l.length) (fun i => l.length - i) 0 (Nat.zero_le _) (.cons rfl (.cons rfl (.cons rfl (.cons rfl (.cons rfl (.cons (by show AV.sl true false 1 [] = .sl true false 1 (texts (sortT [])); rw [List.nil_perm.1 (sortT_perm []).symm]; rfl) (.cons rfl (.cons rfl (.nil _))))))))) rfl ?_
      intro i hi
      by_cases hlt : i < l.length
      · have c2 : decide ((i : Int) < (((tgs true l).length : Nat) : Int)) = true := decide_eq_true (by omega)
        have c3 : (tgs true l)[(i : Int).toNat]? = some (tgA true l[i]) := by rw [Int.toNat_natCast]; exact tgs_get hlt
        have c4 : (rowsA l.length l.length (rchG l))[(i : Int).toNat]? = some (.sl true false 1 (booA l.length (rchG l i))) := by rw [Int.toNat_natCast]; simp [rowsA, hlt]
        have c5 : (booA l.length (rchG l i))[(a : Int).toNat]? = some (.bool (rchG l i a)) := by rw [Int.toNat_natCast]; exact boo_get hat
        have hsn := smG_snoc l (fun i => rchG l i a) i
        cases hr : rchG l i a with
        | false =>
          rw [hr] at c5
          refine pB [.b true, .v (.sl true false 1 (booA l.length (rchG l i))), .v (.bool false), .b false] rfl ?_
          refine S_round (i + 1) (by show l.length - (i + 1) < l.length - i; omega) hlt (.cons rfl (.cons rfl (.cons rfl (.cons rfl (.cons rfl (.cons ?_ (.cons rfl (.cons (ai64 (by omega) (by omega)) (.nil _))))))))) rfl
          rw [hsn, if_neg (by show ¬ rchG l i a = true; rw [hr]; simp), List.append_nil]; rfl
        | true =>
          rw [hr] at c5
          have hnew : nmAt l i ∉ smG l (fun i => rchG l i a) i := fun hm => by
            obtain ⟨j, h1, _, h3⟩ := smG_mem.1 hm
            have := nmAt_inj hok.nd (by omega) hlt h3
            omega
          have hT := AddText_ok (fl := false) (sortT (smG l (fun i => rchG l i a) i)) l[i].name (by
            rw [(sortT_perm _).length_eq]
            unfold smG
            rw [List.length_map]
            have := List.length_filter_le (fun i => rchG l i a) (List.range i)
            rw [List.length_range] at this; omega)
          rw [← nmAt_get hlt, addT_new hnew] at hT
          have e2 : smG l (fun i => rchG l i a) (i + 1) = smG l (fun i => rchG l i a) i ++ [nmAt l i] := by rw [hsn, if_pos hr]
          rw [← e2] at hT
          have hnm2 : nmAt l i = l[i].name := nmAt_get hlt
          rw [hnm2] at hT
          refine pa [.b true, .v (.sl true false 1 (booA l.length (rchG l i))), .v (.bool true), .b true, .v (tgA true l[i]), .v (.sl true false 1 (texts (sortT (smG l (fun i => rchG l i a) (i + 1)))))] rfl ?_ ?_
          · (repeat' with_reducible apply AllP_cons) <;> try exact aC
            · exact ⟨_, hT, .cons (lend _ _) (.cons (.refl .str) (.nil _))⟩
          exact S_round (i + 1) (by show l.length - (i + 1) < l.length - i; omega) hlt (.cons rfl (.cons rfl (.cons rfl (.cons rfl (.cons rfl (.cons rfl (.cons rfl (.cons (ai64 (by omega) (by omega)) (.nil _))))))))) rfl
      · have hi : i ≤ l.length := hi
        have hie : i = l.length := by omega
        have c2 : decide ((i : Int) < (((tgs true l).length : Nat) : Int)) = false := decide_eq_false (by omega)
        have hA := textsAre_ok (st := true) (fl := false) (st' := true) (fl' := false) (usrL l name) (usrL l name) 0 0 (by omega) (by omega)
        have e : (((0 : Nat) == 0) && (usrL l name == if 0 = 0 then usrL l name else [])) = true := by simp
        rw [e] at hA
        rw [hie, ← hu]
        rw [hie] at c2
        refine pa [.b false, .v (.bool true), .b true, .v (.bool true)] rfl ?_ ?_
        · (repeat' with_reducible apply AllP_cons) <;> try exact aC
          · exact begun_ok
          · exact ⟨_, hA, .cons (lend _ (usrL l name)) (.cons (.refl .int) (.cons (.refl .int) (.cons (lend _ (usrL l name)) (.nil _))))⟩
        exact S_retc .bool rfl trivial rfl
    · have hne : (((akE l name : Nat) : Int) == 0) = false := by simpa using h
      have hA := textsAre_ok (st := true) (fl := false) (st' := true) (fl' := false) [] [] (akE l name) (akE l name) (by simp) (by simp)
      have e : ((akE l name == akE l name) && (([] : List Nm) == if akE l name = 0 then [] else [])) = true := by simp
      rw [e] at hA
      have hov : outAV (usrL l name) (akE l name) = .tup [.sl true false 1 (texts []), .int .i64 (akE l name : Nat)] := by unfold outAV; rw [if_neg h]
      rw [hov] at hO
      refine pa [.v (.tup [.sl true false 1 (texts []), .int .i64 (akE l name : Nat)]), .v (.tup [.int .i64 (tAt l name), .int .i64 (akE l name : Nat)]), .b false, .v (.bool true), .b true, .v (.bool true)] rfl ?_ ?_
      · (repeat' with_reducible apply AllP_cons) <;> try exact aC
        · exact ⟨_, hO, harg _⟩
        · exact ⟨_, hC, harg _⟩
        · exact begun_ok
        · exact ⟨_, hA, .cons (lend _ []) (.cons (.refl .int) (.cons (.refl .int) (.cons .nils (.nil _))))⟩
      exact S_retc .bool rfl trivial rfl
end Go.Proofs.YtnfalbdnkgaelaaDoor
end
