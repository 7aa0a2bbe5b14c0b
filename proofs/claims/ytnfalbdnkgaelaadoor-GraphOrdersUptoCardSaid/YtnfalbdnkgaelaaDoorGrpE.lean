/-
  Texts of our own, in one file.
-/
import Derived.Test.YtnfalbdnkgaelaaDoorGrpD
import Derived.WideShapes
section
set_option linter.unusedVariables false
set_option linter.unusedSimpArgs false
set_option maxRecDepth 20000
set_option maxHeartbeats 1000000
namespace Go.Proofs.YtnfalbdnkgaelaaDoor
open Go Go.Ab
def okG (l : List Tg) (P : Nat → Bool) (out : List Nm) (i : Nat) (ks : List Nm) : Bool := (P i && !out.contains (nmAt l i)) && ks.all fun k => out.contains k
theorem rdy_snoc {l : List Tg} (hn : (nmsG l).Nodup) (P : Nat → Bool) (out : List Nm) {i : Nat} (hi : i < l.length) : rdyG (ndT l) (smG l P (i + 1)) out = rdyG (ndT l) (smG l P i) out ++ if okG l P out i l[i].needs = true then [nmAt l i] else [] := by
  rw [smG_snoc]
  unfold rdyG
  rw [List.filter_append]
  congr 1
  unfold okG
  by_cases hp : P i = true
  · rw [if_pos hp]
    have e : (decide (nmAt l i ∉ out) && (ndT l (nmAt l i)).all fun k => decide (k ∈ out)) = (P i && !out.contains (nmAt l i) && l[i].needs.all fun k => out.contains k) := by
      rw [ndT_nm hn hi, hp]; simp
    by_cases h : (P i && !out.contains (nmAt l i) && l[i].needs.all fun k => out.contains k) = true
    · rw [if_pos h, List.filter_cons_of_pos (by rw [e]; exact h)]; rfl
    · rw [if_neg h, List.filter_cons_of_neg (by rw [e]; exact h)]; rfl
  · rw [if_neg hp, if_neg (by simp [hp])]; rfl
theorem OrderOf_ok (st st' fl sb fb : Bool) (l : List Tg) (P : Nat → Bool) (hok : NmOk l) (hz : TgSz l) : Calc cx 16 [.sl st' fl 5 (tgs st l), .sl sb fb 1 (booA l.length P)] (.sl true false 1 (texts (ordG (ndT l) (smG l P l.length) (smG l P l.length).length []))) :=
  pure_intro (fun a w => Tryd.call16 a w) Tryd.func16 rfl Tryd.ntmps16 rfl (.sl (fun _ => rfl) (texts_any _)) fun B => by
    have hll := tgs_len st l
    have hl60 := hok.len
    have hil : ∀ (i : Nat), i < l.length → decide ((i : Int) < (((tgs st l).length : Nat) : Int)) = true := fun i h => decide_eq_true (by omega)
    have hex : ∀ (i : Nat), i = l.length → decide ((i : Int) < (((tgs st l).length : Nat) : Int)) = false := fun i h => decide_eq_false (by omega)
    have hget : ∀ (i : Nat) (h : i < l.length), (tgs st l)[(i : Int).toNat]? = some (tgA st l[i]) := fun i h => by rw [Int.toNat_natCast]; exact tgs_get h
    have hbg : ∀ i, i < l.length → (booA l.length P)[(i : Int).toNat]? = some (.bool (P i)) := fun i h => by rw [Int.toNat_natCast]; exact boo_get h
    have hsl : (smG l P l.length).length ≤ 60 := by
      have := List.Nodup.length_le_of_subset (smG_nodup hok.nd P) (l₂ := nmsG l) (fun x hx => by
        obtain ⟨j, h1, _, rfl⟩ := smG_mem.1 hx
        exact nmAt_mem h1)
      rw [nms_len] at this; omega
    have hne : ∀ x ∈ smG l P l.length, x ≠ [] := fun x hx e => by
      obtain ⟨j, h1, _, h3⟩ := smG_mem.1 hx
      have := hok.nam l[j] (List.getElem_mem h1)
      rw [nmAt_get h1] at h3
      rw [h3, e] at this
      exact absurd this (by decide)
    refine pB [] rfl ?_
    refine S_ghostF (t := 5) (gid := 0) (gver := 0) (σ' := [(0, some (.cells [] ⟨false, none⟩))]) 1 ⟨false, none⟩ rfl rfl ⟨_, _, .inl rfl⟩ ?_
    generalize hR : ordG (ndT l) (smG l P l.length) (smG l P l.length).length [] = R
    refine S_while (α := List Nm) (fun out => [(0, .sl st' fl 5 (tgs st l)), (1, .sl sb fb 1 (booA l.length P)), (5, .ms 0 out.length 0 out.length 1 false)]) (fun out => [(out.length, some (.cells (texts out) ⟨false, none⟩))])
      (fun out => Good (ndT l) out ∧ (∀ n ∈ out, n ∈ smG l P l.length) ∧ ordG (ndT l) (smG l P l.length) ((smG l P l.length).length - out.length) out = R) (fun out => (smG l P l.length).length - out.length) [] ⟨.nil, (fun n h => by cases h), hR⟩ (.cons rfl (.cons rfl (.cons rfl (.nil _)))) rfl ?_
    rintro out ⟨hg, hsub, hor⟩
    have hol : out.length ≤ (smG l P l.length).length := List.Nodup.length_le_of_subset hg.nodup hsub
    have hsize := texts_len out
    have hHT : ∀ (s : Nm) (σ : Heap), Frzs [(out.length, some (.cells (texts out) ⟨false, none⟩))] [.ms 0 out.length 0 out.length 1 false, .str s] [.sl false false 1 (texts out), .str s] := fun s σ =>
      .cons (.ms rfl (by rw [hsize]; omega) (by rw [ones_flat (texts_one out), List.drop_zero]; exact List.take_of_length_le (by rw [hsize]; omega)) (fun x hx => by rw [one_cells (texts_one out x hx)]; rfl) hsize (texts_any out)) (.cons (.refl .str) (.nil _))
    have hH := fun s => HasText_ok (st := false) (fl := false) out s (by omega)
    refine pB [] rfl ?_
    refine S_while (α := Nat) (fun i => [(0, .sl st' fl 5 (tgs st l)), (1, .sl sb fb 1 (booA l.length P)), (5, .ms 0 out.length 0 out.length 1 false), (6, .str (bstG [] (rdyG (ndT l) (smG l P i) out))), (7, .int .i64 (i : Nat))]) (fun i => [(out.length, some (.cells (texts out) ⟨false, none⟩))])
      (fun i => i ≤ l.length) (fun i => l.length - i) 0 (Nat.zero_le _) (.cons rfl (.cons rfl (.cons rfl (.cons rfl (.cons rfl (.nil _)))))) rfl ?_
    intro i hi
    by_cases hlt : i < l.length
    · have c2 := hil i hlt
      have c3 := hget i hlt
      have c4 := hbg i hlt
      have hsn := rdy_snoc hok.nd P out hlt
      have hbn := bst_snoc (nmAt l i) (rdyG (ndT l) (smG l P i) out) []
      have hnm : nmAt l i = l[i].name := nmAt_get hlt
      have hnl := hz.nd _ (List.getElem_mem hlt)
      have hdef : ∀ ks, okG l P out i ks = ((P i && !out.contains (nmAt l i)) && ks.all fun k => out.contains k) := fun ks => rfl
      generalize hbb : bstG [] (rdyG (ndT l) (smG l P i) out) = b at *
      rw [hnm] at hsn hbn hdef
      generalize l[i] = t at *
      have htl := texts_len t.needs
      have hHn := hH t.name
      refine' S_share [(0, .sl st' fl 5 (tgs st l)), (1, .sl sb fb 1 (booA l.length P)), (5, .ms 0 out.length 0 out.length 1 false), (6, .str b), (7, .int .i64 (i : Nat)), (8, .bool (okG l P out i [])), (9, .int .i64 0)] [(out.length, some (.cells (texts out) ⟨false, none⟩))] (fun tail => ?main) ?rest
      case main =>
        cases hp : P i with
        | false =>
          rw [hp] at c4
          refine pB [.b true, .v (.bool false), .b false] rfl ?_
          refine tail _ (.cons rfl (.cons rfl (.cons rfl (.cons rfl (.cons rfl (.cons ?_ (.cons rfl (.nil _))))))))
          rw [hdef, hp]; rfl
        | true =>
          rw [hp] at c4
          refine pa [.b true, .v (.bool true), .b true, .v (tgA st t), .v (.bool (out.contains t.name))] rfl ?_ ?_
          · (repeat' with_reducible apply AllP_cons) <;> try exact aC
            · exact ⟨_, hHn, hHT _ []⟩
          refine tail _ (.cons rfl (.cons rfl (.cons rfl (.cons rfl (.cons rfl (.cons ?_ (.cons rfl (.nil _))))))))
          rw [hdef, hp]
          show AV.bool (!out.contains t.name) = .bool ((true && !out.contains t.name) && true)
          simp
      case rest =>
        refine S_while (α := Nat) (fun j => [(0, .sl st' fl 5 (tgs st l)), (1, .sl sb fb 1 (booA l.length P)), (5, .ms 0 out.length 0 out.length 1 false), (6, .str b), (7, .int .i64 (i : Nat)), (8, .bool (okG l P out i (t.needs.take j))), (9, .int .i64 (j : Nat))]) (fun _ => [(out.length, some (.cells (texts out) ⟨false, none⟩))])
          (fun j => j ≤ t.needs.length) (fun j => t.needs.length - j) 0 (Nat.zero_le _) (.cons rfl (.cons rfl (.cons rfl (.cons rfl (.cons rfl (.cons rfl (.cons rfl (.nil _)))))))) rfl ?_
        intro j hj
        by_cases hjl : j < t.needs.length
        · have d2 : decide ((j : Int) < (((texts t.needs).length : Nat) : Int)) = true := decide_eq_true (by omega)
          have d3 : (texts t.needs)[(j : Int).toNat]? = some (.str t.needs[j]) := by rw [Int.toNat_natCast]; exact texts_get hjl
          have htk : t.needs.take (j + 1) = t.needs.take j ++ [t.needs[j]] := List.take_succ_eq_append_getElem hjl
          generalize t.needs[j] = k at *
          have hHk := hH k
          have hokn : okG l P out i (t.needs.take (j + 1)) = (okG l P out i (t.needs.take j) && out.contains k) := by
            rw [hdef, hdef, htk, List.all_append]
            simp [Bool.and_assoc]
          cases ho : okG l P out i (t.needs.take j) with
          | false =>
            refine pB [.v (tgA st t), .b true, .b false] rfl ?_
            refine S_round (j + 1) (by show t.needs.length - (j + 1) < t.needs.length - j; omega) hjl (.cons rfl (.cons rfl (.cons rfl (.cons rfl (.cons rfl (.cons ?_ (.cons (ai64 (by omega) (by omega)) (.nil _)))))))) rfl
            rw [hokn, ho]; rfl
          | true =>
            refine pa [.v (tgA st t), .b true, .b true, .v (tgA st t), .v (.str k), .v (.bool (out.contains k))] rfl ?_ ?_
            · (repeat' with_reducible apply AllP_cons) <;> try exact aC
              · exact ⟨_, hHk, hHT _ []⟩
            refine S_round (j + 1) (by show t.needs.length - (j + 1) < t.needs.length - j; omega) hjl (.cons rfl (.cons rfl (.cons rfl (.cons rfl (.cons rfl (.cons ?_ (.cons (ai64 (by omega) (by omega)) (.nil _)))))))) rfl
            rw [hokn, ho]; rfl
        · have hj : j ≤ t.needs.length := hj
          have hje : j = t.needs.length := by omega
          have d2 : decide ((j : Int) < (((texts t.needs).length : Nat) : Int)) = false := decide_eq_false (by omega)
          rw [show t.needs.take j = t.needs by rw [hje, List.take_length]]
          have fin : ∀ (q : Nm), (if okG l P out i t.needs = true then (if b = [] ∨ Op.bytesLess t.name b = true then t.name else b) else b) = q → bstG [] (rdyG (ndT l) (smG l P (i + 1)) out) = q := fun q hq => by
            rw [hsn, ← hq]
            by_cases h : okG l P out i t.needs = true
            · rw [if_pos h, if_pos h, hbn]
            · rw [if_neg h, if_neg h, List.append_nil, hbb]
          cases ho : okG l P out i t.needs with
          | false =>
            rw [ho] at fin
            refine pB [.v (tgA st t), .b false, .b false, .b false] rfl ?_
            exact S_round (i + 1) (by show l.length - (i + 1) < l.length - i; omega) hlt (.cons rfl (.cons rfl (.cons rfl (.cons (congrArg AV.str (fin b rfl).symm) (.cons (ai64 (by omega) (by omega)) (.nil _)))))) rfl
          | true =>
            rw [ho] at fin
            by_cases hb0 : b = []
            · have e1 : (b == []) = true := by rw [hb0]; rfl
              refine pB [.v (tgA st t), .b false, .b true, .b true, .b true, .v (tgA st t)] rfl ?_
              exact S_round (i + 1) (by show l.length - (i + 1) < l.length - i; omega) hlt (.cons rfl (.cons rfl (.cons rfl (.cons (congrArg AV.str (fin t.name (by rw [if_pos rfl, if_pos (.inl hb0)])).symm) (.cons (ai64 (by omega) (by omega)) (.nil _)))))) rfl
            · have e1 : (b == []) = false := by simpa using hb0
              cases hls : Op.bytesLess t.name b with
              | true =>
                refine pB [.v (tgA st t), .b false, .b true, .b false, .v (tgA st t), .b true, .v (tgA st t)] rfl ?_
                exact S_round (i + 1) (by show l.length - (i + 1) < l.length - i; omega) hlt (.cons rfl (.cons rfl (.cons rfl (.cons (congrArg AV.str (fin t.name (by rw [if_pos rfl, if_pos (.inr hls)])).symm) (.cons (ai64 (by omega) (by omega)) (.nil _)))))) rfl
              | false =>
                refine pB [.v (tgA st t), .b false, .b true, .b false, .v (tgA st t), .b false] rfl ?_
                exact S_round (i + 1) (by show l.length - (i + 1) < l.length - i; omega) hlt (.cons rfl (.cons rfl (.cons rfl (.cons (congrArg AV.str (fin b (by rw [if_pos rfl, if_neg (by rintro (h | h); exact hb0 h; rw [hls] at h; cases h)])).symm) (.cons (ai64 (by omega) (by omega)) (.nil _)))))) rfl
    · have hi : i ≤ l.length := hi
      have hie : i = l.length := by omega
      subst hie
      have c2 := hex _ rfl
      have hbx := bst_next (nd := ndT l) (out := out) hne
      generalize bstG [] (rdyG (ndT l) (smG l P l.length) out) = b at *
      by_cases hb0 : b = []
      · have e1 : (b == []) = true := by rw [hb0]; rfl
        rw [if_pos hb0] at hbx
        refine pB [.b false, .b true] rfl ?_
        refine S_ret ⟨_, _, rfl, trivial, _, rfl, ?_⟩
        rw [← hor, ordG_stop hbx]
        show Frz true [(out.length, some (.cells (texts out) ⟨false, none⟩))] (.ms 0 out.length 0 out.length 1 false) (.sl true false 1 (texts out))
        exact .ms rfl (by rw [hsize]; omega) (by rw [ones_flat (texts_one out), List.drop_zero]; exact List.take_of_length_le (by rw [hsize]; omega)) (fun x hx => by rw [one_cells (texts_one out x hx)]; rfl) hsize (texts_any out)
      · have e1 : (b == []) = false := by simpa using hb0
        rw [if_neg hb0] at hbx
        obtain ⟨b1, b2, b3⟩ := next_some hbx
        have hg2 := hg.step hbx
        have hlo : (out ++ [b]).length = out.length + 1 := by rw [List.length_append]; rfl
        have hsub2 : ∀ n ∈ out ++ [b], n ∈ smG l P l.length := fun n hn => by
          rcases List.mem_append.1 hn with hn | hn
          · exact hsub n hn
          · rw [List.mem_singleton.1 hn]; exact b1
        have hol2 := List.Nodup.length_le_of_subset hg2.nodup hsub2
        rw [hlo] at hol2
        have htx : texts (out ++ [b]) = texts out ++ [.str b] := by unfold texts; simp
        refine pa [.b false, .b false] rfl ?_ ?_
        · (repeat' with_reducible apply AllP_cons) <;> try exact aC
          · show 0 + out.length * 1 = (texts out).length
            omega
          · show (out.length + 1) * 16 ≤ 140737488355328
            omega
        refine S_round (out ++ [b]) (by show (smG l P l.length).length - (out ++ [b]).length < (smG l P l.length).length - out.length; rw [hlo]; omega) ⟨hg2, hsub2, ?_⟩ (.cons rfl (.cons rfl (.cons ?_ (.nil _)))) ?_
        · rw [← hor, hlo, show (smG l P l.length).length - out.length = ((smG l P l.length).length - (out.length + 1)) + 1 by omega, ordG_step hbx]
        · show AV.ms 0 (out.length + 1) 0 (out.length + 1) 1 false = .ms 0 (out ++ [b]).length 0 (out ++ [b]).length 1 false
          rw [hlo]
        · show [(out.length + 1, some (Box.cells (texts out ++ [.str b]) ⟨false, none⟩))] = [((out ++ [b]).length, some (Box.cells (texts (out ++ [b])) ⟨false, none⟩))]
          rw [hlo, htx]
end Go.Proofs.YtnfalbdnkgaelaaDoor
end
section
set_option linter.unusedVariables false
set_option linter.unusedSimpArgs false
set_option maxRecDepth 20000
namespace Go.Proofs.YtnfalbdnkgaelaaDoor
open Go Go.Ab
theorem textsAre_ok {st fl st' fl' : Bool} (p q : List (List UInt8)) (e w : Nat) (hp : p.length ≤ 9223372036854775806) (hq : q.length ≤ 9223372036854775806) : Calc cx 18 [.sl st fl 1 (texts p), .int .i64 e, .int .i64 w, .sl st' fl' 1 (texts q)] (.bool (e == w && p == (if w = 0 then q else []))) :=
  pure_intro (fun a w => Tryd.call18 a w) Tryd.func18 rfl Tryd.ntmps18 rfl .bool fun B => by
    have lend : ∀ σ : Heap, Frz false σ (.sl st fl 1 (texts p)) (.sl st fl 1 (texts p)) := fun σ => .refl (.sl (fun h => by cases h) (texts_any p))
    have lend' : ∀ σ : Heap, Frz false σ (.sl st' fl' 1 (texts q)) (.sl st' fl' 1 (texts q)) := fun σ => .refl (.sl (fun h => by cases h) (texts_any q))
    refine ab 1000 rfl trivial ?_
    have fin : ∀ (B : Bool), ((e : Int) == (w : Int)) = (e == w) := by
      intro _
      by_cases h : e = w
      · subst h; simp
      · have : (e : Int) ≠ w := by omega
        rw [beq_eq_false_iff_ne.2 this, beq_eq_false_iff_ne.2 h]
    refine S_bne rfl (fun h => ?_) (fun h => ?_)
    · have hw : w ≠ 0 := by omega
      rw [if_neg hw]
      refine ab 1000 rfl trivial ?_
      refine S_guard rfl rfl rfl rfl (fun hg => ?_) (fun hg => ?_)
      · refine ab 1000 rfl trivial ?_
        refine S_pure rfl rfl rfl (SameTexts_ok (st := st) (st' := false) (fl := fl) (fl' := false) p [] hp (by decide)) (.cons (lend _) (.cons .nils (.nil _))) ?_
        refine ab 1000 rfl trivial ?_
        refine S_retc .bool rfl trivial ?_
        rw [← fin true, hg]; rfl
      · refine ab 1000 rfl trivial ?_
        refine S_retc .bool rfl trivial ?_
        rw [← fin true, hg]; rfl
    · have hw : w = 0 := by omega
      rw [if_pos hw]
      refine ab 1000 rfl trivial ?_
      refine S_guard rfl rfl rfl rfl (fun hg => ?_) (fun hg => ?_)
      · refine ab 1000 rfl trivial ?_
        refine S_pure rfl rfl rfl (SameTexts_ok (st := st) (st' := st') (fl := fl) (fl' := fl') p q hp (by omega)) (.cons (lend _) (.cons (lend' _) (.nil _))) ?_
        refine ab 1000 rfl trivial ?_
        refine S_retc .bool rfl trivial ?_
        rw [← fin true, hg]; rfl
      · refine ab 1000 rfl trivial ?_
        refine S_retc .bool rfl trivial ?_
        rw [← fin true, hg]; rfl
end Go.Proofs.YtnfalbdnkgaelaaDoor
end
section
set_option linter.unusedVariables false
set_option linter.unusedSimpArgs false
namespace Go.Ab
open Go Go.WideShapes
def laidB (P : Program) : List Field → Nat → Option Nat
  | [], o => some o
  | f :: r, o => match Nat.beq f.offset o with
    | true => laidB P r (o + P.cellsOf f.type)
    | false => none
mutual
def plainB (P : Program) : Nat → TypeId → Bool
  | 0, _ => false
  | n + 1, t => match P.underlying t with
    | some .bool => Nat.beq (P.cellsOf t) 1
    | some (.int _) => Nat.beq (P.cellsOf t) 1
    | some .string => Nat.beq (P.cellsOf t) 1
    | some (.slice e) => match Nat.beq (P.cellsOf t) 1, Nat.beq (P.cellsOf e) 0 with
      | true, false => plainB P n e
      | _, _ => false
    | some (.struct fs) => match laidB P fs.toList 0 with
      | some m => match Nat.beq (P.cellsOf t) m with
        | true => plainAll P n fs.toList
        | false => false
      | none => false
    | _ => false
def plainAll (P : Program) : Nat → List Field → Bool
  | 0, _ => false
  | n + 1, fs => match fs with
    | [] => true
    | f :: r => match plainB P n f.type with
      | true => plainAll P n r
      | false => false
end
inductive RdD (P : Program) {H : Type} : TypeId → DataW H → AV → Prop
  | bool {t b} (ht : P.underlying t = some .bool) : RdD P t (.lit (.bool b)) (.bool b)
  | int {t k n} (ht : P.underlying t = some (.int k)) (hw : (Lit.int k n).wf = true) : RdD P t (.lit (.int k n)) (.int k n)
  | str {t s} (ht : P.underlying t = some .string) (hs : s.length ≤ maxLen) : RdD P t (.lit (.string s)) (.str s)
  | nils {t e} (ht : P.underlying t = some (.slice e)) : RdD P t .nil (.sl true false (P.cellsOf e) [])
  | sl {t e} {ds rest : List (DataW H)} {xs : List AV} (ht : P.underlying t = some (.slice e)) (hl : xs.length = ds.length) (hm : xs.length ≤ maxLen) (h : ∀ i (h1 : i < ds.length) (h2 : i < xs.length), RdD P e ds[i] xs[i]) : RdD P t (.slice ds rest) (.sl true false (P.cellsOf e) xs)
  | st {t} {fs : Array Field} {ds : List (DataW H)} {xs : List AV} (ht : P.underlying t = some (.struct fs)) (hd : ds.length = fs.size) (hx : xs.length = fs.size) (h : ∀ i (h1 : i < ds.length) (h2 : i < xs.length) (h3 : i < fs.size), RdD P fs[i].type ds[i] xs[i]) : RdD P t (.agg ds) (.agg (xs.flatMap AV.cells))
def CellsV (w : World) (cs : List Value) (az : List AV) : Prop := cs.length = az.length ∧ ∀ i (h1 : i < cs.length) (h2 : i < az.length), VRel (Rl.old w) w cs[i] az[i]
theorem CellsV.one {w : World} {v : Value} {a : AV} (h : VRel (Rl.old w) w v a) : CellsV w [v] [a] := by
  refine ⟨rfl, fun i h1 h2 => ?_⟩
  obtain rfl : i = 0 := by simpa using h1
  exact h
theorem laidB_flat {P : Program} : ∀ (fs : List Field) (o m : Nat) (w : World) (cs : List Value) (xs : List AV), laidB P fs o = some m → xs.length = fs.length → (∀ i (h1 : i < fs.length) (h2 : i < xs.length), CellsV w ((cs.drop fs[i].offset).take (P.cellsOf fs[i].type)) xs[i].cells ∧ xs[i].cells.length = P.cellsOf fs[i].type) →
    cs.length = m → o ≤ m ∧ CellsV w (cs.drop o) (xs.flatMap AV.cells)
  | [], o, m, w, cs, xs, h, hl, hc, hm => by
    simp only [laidB, Option.some.injEq] at h
    obtain rfl : xs = [] := List.eq_nil_of_length_eq_zero hl
    subst h
    refine ⟨Nat.le_refl _, ?_⟩
    rw [List.drop_of_length_le (by omega)]
    exact ⟨rfl, fun i h => absurd h (by simp)⟩
  | f :: r, o, m, w, cs, xs, h, hl, hc, hm => by
    rw [laidB] at h
    split at h
    case h_2 => cases h
    rename_i hb
    have ho := Nat.eq_of_beq_eq_true hb
    obtain ⟨x, xs, rfl⟩ : ∃ x xs', xs = x :: xs' := by
      cases xs with
      | nil => simp at hl
      | cons x xs => exact ⟨x, xs, rfl⟩
    have h0 := hc 0 (by simp) (by simp)
    simp only [List.getElem_cons_zero] at h0
    obtain ⟨h1, h2⟩ := laidB_flat r (o + P.cellsOf f.type) m w cs xs h (by simpa using hl) (fun i k1 k2 => hc (i + 1) (Nat.succ_lt_succ k1) (Nat.succ_lt_succ k2)) hm
    refine ⟨by omega, ?_⟩
    obtain ⟨⟨e1, e2⟩, e3⟩ := h0
    rw [ho] at e1 e2
    rw [List.flatMap_cons]
    have hsplit : cs.drop o = (cs.drop o).take (P.cellsOf f.type) ++ cs.drop (o + P.cellsOf f.type) := by
      rw [← List.drop_drop, List.take_append_drop]
    rw [hsplit]
    refine ⟨by rw [List.length_append, List.length_append, e1, h2.1], fun i k1 k2 => ?_⟩
    by_cases hi : i < x.cells.length
    · rw [List.getElem_append_left (by omega), List.getElem_append_left hi]
      exact e2 i (by omega) hi
    · rw [List.getElem_append_right (by omega), List.getElem_append_right (by omega)]
      have : i - ((cs.drop o).take (P.cellsOf f.type)).length = i - x.cells.length := by omega
      simp only [this]
      exact h2.2 _ _ _
theorem read_cells {H : Type} {enc : TypeId × Value → H} {P : Program} {W : World} : ∀ (fuel n : Nat) (t : TypeId) (cs : List Value) (d : DataW H) (ps : List MemPlace), DataW.trod enc P W 0 (fun _ => true) true fuel t cs = some (d, ps) → plainB P n t = true →
    ∃ a, RdD P t d a ∧ a.cells.length = P.cellsOf t ∧ CellsV W cs a.cells ∧ (∀ v, (∃ xs, v = .agg xs ∧ xs.toList = cs ∧ aggT P t = some true) ∨ ([v] = cs ∧ aggT P t = some false) → VRel (Rl.old W) W v a) := by
  intro fuel
  induction fuel with
  | zero => intro n t cs d ps h _; simp [DataW.trod] at h
  | succ fuel ih =>
    intro n t cs d ps h hp
    have hall : ∀ (n : Nat) (fs : List Field), plainAll P n fs = true → ∀ i (hi : i < fs.length), ∃ m, plainB P m fs[i].type = true := by
      intro n
      induction n with
      | zero => intro fs h; simp [plainAll] at h
      | succ n ihn =>
        intro fs h i hi
        cases fs with
        | nil => simp at hi
        | cons f r =>
          rw [plainAll] at h
          split at h
          · rename_i hb
            cases i with
            | zero => exact ⟨n, hb⟩
            | succ i => exact ihn r h i (by simpa using hi)
          · cases h
    cases n with
    | zero => simp [plainB] at hp
    | succ n =>
      rw [plainB] at hp
      split at hp
      ·
        rename_i ht
        obtain ⟨b, rfl, hx⟩ := DataW.trod_bool ht h
        cases hx
        refine ⟨.bool b, .bool ht, (Nat.eq_of_beq_eq_true hp).symm, .one .bool, ?_⟩
        rintro v (⟨xs, rfl, h1, h2⟩ | ⟨h1, h2⟩)
        · simp [aggT, ht] at h2
        · cases h1; exact .bool
      · rename_i k ht
        obtain ⟨m, rfl, hx, hw⟩ := DataW.trod_int ht h
        cases hx
        refine ⟨.int _ m, .int ht hw, (Nat.eq_of_beq_eq_true hp).symm, .one .int, ?_⟩
        rintro v (⟨xs, rfl, h1, h2⟩ | ⟨h1, h2⟩)
        · simp [aggT, ht] at h2
        · cases h1; exact .int
      · rename_i ht
        obtain ⟨s, rfl, hx, hw⟩ := DataW.trod_string ht h
        cases hx
        refine ⟨.str s.data.toList, .str ht (by rw [Array.length_toList]; exact hw), (Nat.eq_of_beq_eq_true hp).symm, .one (.str rfl), ?_⟩
        rintro v (⟨xs, rfl, h1, h2⟩ | ⟨h1, h2⟩)
        · simp [aggT, ht] at h2
        · cases h1; exact .str rfl
      ·
        rename_i e ht
        split at hp
        case h_2 => cases hp
        rename_i hc1 hc0
        have hc1 := Nat.eq_of_beq_eq_true hc1
        have hpos : 0 < P.cellsOf e := by
          rcases Nat.eq_zero_or_pos (P.cellsOf e) with h0 | h0
          · rw [h0] at hc0; cases hc0
          · exact h0
        rcases DataW.trod_slice ht h with ⟨rfl, hx⟩ | ⟨a, len, cap, elems, rest, fu, hfu, rfl, hx, _, hl, hm, hlen, hel, hsp, hns⟩
        · cases hx
          refine ⟨_, .nils ht, hc1.symm, .one (.sl0 (fun h => by cases h)), ?_⟩
          rintro v (⟨xs, rfl, h1, h2⟩ | ⟨h1, h2⟩)
          · simp [aggT, ht] at h2
          · cases h1; exact .sl0 (fun h => by cases h)
        · cases hx
          obtain rfl : fuel = fu := by omega
          have each : ∀ i (hi : i < elems.length), ∃ x, RdD P e (elems[i]).1 x ∧ x.cells.length = P.cellsOf e ∧ ∃ ecs : List Value, W.cells? 0 (a.add (i * P.cellsOf e)) (P.cellsOf e) = some ecs ∧ CellsV W ecs x.cells := by
            intro i hi
            have h1 := hel i (by omega)
            rw [List.getElem?_eq_getElem hi, Option.bind_eq_some_iff] at h1
            obtain ⟨ecs, h2, h3⟩ := h1
            obtain ⟨x, k1, k2, k3, _⟩ := ih n e ecs (elems[i]).1 (elems[i]).2 h3 hp
            exact ⟨x, k1, k2, ecs, h2, k3⟩
          have : ∃ xs : List AV, xs.length = elems.length ∧ ∀ i (hi : i < elems.length) (hx : i < xs.length), RdD P e (elems[i]).1 xs[i] ∧ xs[i].cells.length = P.cellsOf e ∧ ∃ ecs : List Value, W.cells? 0 (a.add (i * P.cellsOf e)) (P.cellsOf e) = some ecs ∧ CellsV W ecs xs[i].cells := by
            refine ⟨(List.finRange elems.length).map fun i => Classical.choose (each i.1 i.2), by simp, fun i hi hx => ?_⟩
            simp only [List.getElem_map, List.getElem_finRange]
            exact Classical.choose_spec (each i hi)
          obtain ⟨xs, hxl, hxs⟩ := this
          have hv : VRel (Rl.old W) W (.slice (some a) len cap) (.sl true false (P.cellsOf e) xs) := by
            rcases Nat.eq_zero_or_pos len with h0 | h0
            · subst h0
              obtain rfl : xs = [] := List.eq_nil_of_length_eq_zero (by omega)
              exact .sl0 (fun h => by cases h)
            · obtain ⟨b, o, sp⟩ := a
              obtain ⟨_, _, ecs0, hc, _⟩ := hxs 0 (by omega) (by omega)
              obtain ⟨_, hcl, hcc⟩ := World.cells?_some hc
              have hcell0 := hcc 0 hpos
              rw [List.getElem?_eq_getElem (by omega)] at hcell0
              have hsp : sp = none := by
                cases sp with
                | none => rfl
                | some s =>
                  simp [Addr.add, World.cell?] at hcell0
                  split at hcell0 <;> cases hcell0
              subst hsp
              have hb : b < W.heap.size := by
                rw [Addr.add_lit] at hcell0
                rcases Nat.lt_or_ge b W.heap.size with h | h
                · exact h
                · simp [World.cell?, Addr.add, Array.getElem?_eq_none h] at hcell0
              have hcel : ∀ i, i < xs.length → ∀ j, j < P.cellsOf e → ∃ v, W.cell? ⟨b, o + i * P.cellsOf e + j, none⟩ = some v ∧ ∀ (hi : i < xs.length) (hj : j < (AV.cells xs[i]).length), VRel (Rl.old W) W v (AV.cells xs[i])[j] := by
                intro i hi j hj
                obtain ⟨_, hxc, ecs, hc, hcv⟩ := hxs i (by omega) hi
                obtain ⟨_, hcl, hcc⟩ := World.cells?_some hc
                have h1 := hcc j hj
                rw [List.getElem?_eq_getElem (by omega)] at h1
                rw [Addr.add_lit, Addr.add_lit] at h1
                refine ⟨ecs[j], h1, fun _ hj' => hcv.2 j _ hj'⟩
              refine .sl (by omega) hl (fun h => by cases h) hb (fun _ => hb) (fun x hx => ?_) (fun i j => (W.cell? ⟨b, o + i * P.cellsOf e + j, none⟩).getD undef) (fun i hi j hj => ?_) (fun i hi j hj => ?_)
              · obtain ⟨i, hi, rfl⟩ := List.getElem_of_mem hx
                exact (hxs i (by omega) hi).2.1
              · obtain ⟨v, h1, _⟩ := hcel i hi j hj
                rw [h1]; rfl
              · obtain ⟨v, h1, h2⟩ := hcel i hi j (by rw [(hxs i (by omega) hi).2.1] at hj; exact hj)
                rw [h1]
                exact h2 hi hj
          refine ⟨.sl true false (P.cellsOf e) xs, .sl ht (by simp [hxl]) (by omega) (fun i h1 h2 => by simpa using (hxs i (by simpa using h1) h2).1), hc1.symm, .one hv, ?_⟩
          rintro v (⟨ys, rfl, h1, h2⟩ | ⟨h1, h2⟩)
          · simp [aggT, ht] at h2
          · cases h1; exact hv
      ·
        rename_i fs ht
        split at hp
        case h_2 => cases hp
        rename_i m hm
        split at hp
        case h_2 => cases hp
        rename_i hcm
        have hcm := Nat.eq_of_beq_eq_true hcm
        obtain ⟨ys, fu, hfu, hx, hl, hyl, hy⟩ := DataW.trod_struct ht h
        obtain rfl : fuel = fu := by omega
        cases hx
        have each : ∀ i (hi : i < fs.toList.length) (hi' : i < ys.length), ∃ x, RdD P (fs.toList[i]).type (ys[i]).1 x ∧ x.cells.length = P.cellsOf (fs.toList[i]).type ∧ CellsV W ((cs.drop (fs.toList[i]).offset).take (P.cellsOf (fs.toList[i]).type)) x.cells := by
          intro i hi hi'
          have h1 := hy i (fs.toList[i]) (by simp at hi; simp [hi])
          rw [List.getElem?_eq_getElem hi'] at h1
          obtain ⟨k, hk⟩ := hall n fs.toList hp i hi
          obtain ⟨x, k1, k2, k3, _⟩ := ih k _ _ (ys[i]).1 (ys[i]).2 h1 hk
          exact ⟨x, k1, k2, k3⟩
        have hfl : fs.toList.length = ys.length := by simp [hyl]
        have : ∃ xs : List AV, xs.length = fs.toList.length ∧ ∀ i (hi : i < fs.toList.length) (hi' : i < ys.length) (hx : i < xs.length), RdD P (fs.toList[i]).type (ys[i]).1 xs[i] ∧ xs[i].cells.length = P.cellsOf (fs.toList[i]).type ∧ CellsV W ((cs.drop (fs.toList[i]).offset).take (P.cellsOf (fs.toList[i]).type)) xs[i].cells := by
          refine ⟨(List.finRange fs.toList.length).map fun i => Classical.choose (each i.1 i.2 (by omega)), by simp, fun i hi hi' hx => ?_⟩
          simp only [List.getElem_map, List.getElem_finRange]
          exact Classical.choose_spec (each i hi hi')
        obtain ⟨xs, hxl, hxs⟩ := this
        obtain ⟨_, hcv⟩ := laidB_flat fs.toList 0 m W cs xs hm hxl (fun i h1 h2 => ⟨(hxs i h1 (by omega) h2).2.2, (hxs i h1 (by omega) h2).2.1⟩) (by omega)
        rw [List.drop_zero] at hcv
        refine ⟨.agg (xs.flatMap AV.cells), .st ht (by simp [hyl]) (by simpa using hxl) (fun i h1 h2 h3 => by
          have := (hxs i (by simpa using h3) (by simpa using h1) h2).1
          simp only [Array.getElem_toList, List.getElem_map] at this ⊢
          exact this), by show (xs.flatMap AV.cells).length = _; rw [← hcv.1]; omega, hcv, ?_⟩
        rintro v (⟨zs, rfl, h1, h2⟩ | ⟨h1, h2⟩)
        · refine .agg (by rw [← hcv.1, ← h1]; simp) (fun i hi => ?_)
          have h3 : i < cs.length := by rw [hcv.1]; exact hi
          have := hcv.2 i h3 hi
          subst h1
          rw [Array.getD_eq_getD_getElem?, Array.getElem?_eq_getElem (by simpa using h3)]
          simpa using this
        · simp [aggT, ht] at h2
      · cases hp
theorem read_plain {H : Type} {enc : TypeId × Value → H} {P : Program} {W : World} {r : Reach} {base : Nat} {n : Nat} {t : TypeId} {v : Value} {d : DataW H} {ps : List MemPlace} (hp : plainB P n t = true) (hv : Value.okWide P W r base t v)
    (h : DataW.Trod enc P W 0 (fun _ => true) true t v d ps) : ∃ a, VRel (Rl.old W) W v a ∧ RdD P t d a := by
  obtain ⟨fuel, hf⟩ := h
  obtain ⟨a, h1, _, _, h2⟩ := read_cells fuel n t _ d ps hf hp
  refine ⟨a, h2 v ?_, h1⟩
  cases n with
  | zero => simp [plainB] at hp
  | succ n =>
    rw [plainB] at hp
    split at hp
    · rename_i ht
      obtain ⟨b, rfl⟩ := okWide_bool ht hv
      exact .inr ⟨rfl, by simp [aggT, ht]⟩
    · rename_i k ht
      obtain ⟨b, rfl⟩ := okWide_int ht hv
      exact .inr ⟨rfl, by simp [aggT, ht]⟩
    · rename_i ht
      obtain ⟨b, rfl⟩ := okWide_string ht hv
      exact .inr ⟨rfl, by simp [aggT, ht]⟩
    · rename_i e ht
      obtain ⟨a, len, cap, rfl⟩ := okWide_slice ht hv
      exact .inr ⟨rfl, by simp [aggT, ht]⟩
    · rename_i fs ht
      obtain ⟨cs, rfl, _⟩ := okWide_struct ht hv
      exact .inl ⟨cs, rfl, rfl, by simp [aggT, ht]⟩
    · cases hp
def RdDAll (P : Program) {H : Type} : List Field → List (DataW H) → List AV → Prop
  | [], [], [] => True
  | f :: fs, d :: ds, x :: xs => RdD P f.type d x ∧ RdDAll P fs ds xs
  | _, _, _ => False
theorem RdDAll.of {P : Program} {H : Type} : ∀ {fs : List Field} {ds : List (DataW H)} {xs : List AV}, ds.length = fs.length → xs.length = fs.length → (∀ i (h1 : i < ds.length) (h2 : i < xs.length) (h3 : i < fs.length), RdD P fs[i].type ds[i] xs[i]) → RdDAll P fs ds xs
  | [], ds, xs, h1, h2, _ => by
    obtain rfl : ds = [] := List.eq_nil_of_length_eq_zero h1
    obtain rfl : xs = [] := List.eq_nil_of_length_eq_zero h2
    trivial
  | f :: fs, ds, xs, h1, h2, h => by
    cases ds with
    | nil => simp at h1
    | cons d ds =>
      cases xs with
      | nil => simp at h2
      | cons x xs =>
        exact ⟨h 0 (by simp) (by simp) (by simp), RdDAll.of (by simpa using h1) (by simpa using h2) (fun i k1 k2 k3 => h (i + 1) (Nat.succ_lt_succ k1) (Nat.succ_lt_succ k2) (Nat.succ_lt_succ k3))⟩
theorem RdDAll.cons {P : Program} {H : Type} {f : Field} {fs : List Field} {ds : List (DataW H)} {xs : List AV} (h : RdDAll P (f :: fs) ds xs) : ∃ d ds' x xs', ds = d :: ds' ∧ xs = x :: xs' ∧ RdD P f.type d x ∧ RdDAll P fs ds' xs' := by
  match ds, xs, h with
  | d :: ds', x :: xs', ⟨h1, h2⟩ => exact ⟨d, ds', x, xs', rfl, rfl, h1, h2⟩
theorem RdDAll.nil {P : Program} {H : Type} {ds : List (DataW H)} {xs : List AV} (h : RdDAll P [] ds xs) : ds = [] ∧ xs = [] := by
  match ds, xs, h with
  | [], [], _ => exact ⟨rfl, rfl⟩
section
variable {P : Program} {H : Type} {t : TypeId} {d : DataW H} {a : AV}
theorem RdD.inv_st {fs : Array Field} (h : RdD P t d a) (ht : P.underlying t = some (.struct fs)) : ∃ ds xs, d = .agg ds ∧ a = .agg (xs.flatMap AV.cells) ∧ RdDAll P fs.toList ds xs := by
  cases h with
  | st ht' hd hx h =>
    rw [ht] at ht'
    cases ht'
    exact ⟨_, _, rfl, rfl, .of (by simpa using hd) (by simpa using hx) (fun i h1 h2 h3 => by simpa using h i h1 h2 (by simpa using h3))⟩
  | bool ht' => rw [ht] at ht'; cases ht'
  | str ht' => rw [ht] at ht'; cases ht'
  | int ht' => rw [ht] at ht'; cases ht'
  | nils ht' => rw [ht] at ht'; cases ht'
  | sl ht' => rw [ht] at ht'; cases ht'
theorem RdD.inv_str (h : RdD P t d a) (ht : P.underlying t = some .string) : ∃ s, d = .lit (.string s) ∧ a = .str s ∧ s.length ≤ maxLen := by
  cases h with
  | str ht' hs => exact ⟨_, rfl, rfl, hs⟩
  | bool ht' => rw [ht] at ht'; cases ht'
  | int ht' => rw [ht] at ht'; cases ht'
  | nils ht' => rw [ht] at ht'; cases ht'
  | sl ht' => rw [ht] at ht'; cases ht'
  | st ht' => rw [ht] at ht'; cases ht'
theorem RdD.inv_sl {e : TypeId} (h : RdD P t d a) (ht : P.underlying t = some (.slice e)) :
    ∃ (ds : List (DataW H)) (xs : List AV), a = .sl true false (P.cellsOf e) xs ∧ xs.length = ds.length ∧ xs.length ≤ maxLen ∧ (∀ i (h1 : i < ds.length) (h2 : i < xs.length), RdD P e ds[i] xs[i]) ∧ ((d = .nil ∧ ds = []) ∨ ∃ rest, d = .slice ds rest) := by
  cases h with
  | nils ht' => rw [ht] at ht'; cases ht'; exact ⟨[], [], rfl, rfl, Nat.zero_le _, fun i h => absurd h (by simp), .inl ⟨rfl, rfl⟩⟩
  | sl ht' hl hm h => rw [ht] at ht'; cases ht'; exact ⟨_, _, rfl, hl, hm, h, .inr ⟨_, rfl⟩⟩
  | bool ht' => rw [ht] at ht'; cases ht'
  | int ht' => rw [ht] at ht'; cases ht'
  | str ht' => rw [ht] at ht'; cases ht'
  | st ht' => rw [ht] at ht'; cases ht'
theorem RdD.each {α : Type} {e : TypeId} (f : α → AV) (g : α → DataW H → Prop) {ds : List (DataW H)} {xs : List AV} (hl : xs.length = ds.length) (h : ∀ i (h1 : i < ds.length) (h2 : i < xs.length), RdD P e ds[i] xs[i])
    (hf : ∀ d x, RdD P e d x → ∃ y, x = f y ∧ g y d) : ∃ ys : List α, xs = ys.map f ∧ ys.length = ds.length ∧ ∀ i (h1 : i < ds.length) (h2 : i < ys.length), g ys[i] ds[i] := by
  induction xs generalizing ds with
  | nil =>
    obtain rfl : ds = [] := List.eq_nil_of_length_eq_zero (by simpa using hl.symm)
    exact ⟨[], rfl, rfl, fun i h => absurd h (by simp)⟩
  | cons x xs ih =>
    cases ds with
    | nil => simp at hl
    | cons d ds =>
      obtain ⟨y, hy, hg⟩ := hf d x (h 0 (by simp) (by simp))
      obtain ⟨ys, h1, h2, h3⟩ := ih (ds := ds) (by simpa using hl) (fun i k1 k2 => h (i + 1) (Nat.succ_lt_succ k1) (Nat.succ_lt_succ k2))
      refine ⟨y :: ys, by rw [hy, h1]; rfl, by simp [h2], fun i k1 k2 => ?_⟩
      cases i with
      | zero => exact hg
      | succ i => exact h3 i (Nat.lt_of_succ_lt_succ k1) (Nat.lt_of_succ_lt_succ k2)
end
end Go.Ab
end
section
set_option linter.unusedVariables false
set_option linter.unusedSimpArgs false
namespace Go.Ab
open Go Go.WideShapes
mutual
def avB : AV → Nat
  | .str s => s.length
  | .sl _ _ _ xs => avS xs
  | .agg cs => avC cs
  | _ => 0
def avS : List AV → Nat
  | [] => 0
  | x :: r => avB x + 1 + avS r
def avC : List AV → Nat
  | [] => 0
  | x :: r => avB x + avC r
end
theorem avC_append (a b : List AV) : avC (a ++ b) = avC a + avC b := by
  induction a with
  | nil => simp [avC]
  | cons x a ih => simp only [List.cons_append, avC, ih]; omega
theorem avC_cells (x : AV) : avC x.cells ≤ avB x := by
  cases x <;> simp [AV.cells, avC, avB]
theorem avC_flat (xs : List AV) : avC (xs.flatMap AV.cells) ≤ avC xs := by
  induction xs with
  | nil => simp
  | cons x xs ih =>
    have := avC_cells x
    simp only [List.flatMap_cons, avC_append, avC]; omega
theorem avC_le_avS (xs : List AV) : avC xs ≤ avS xs := by
  induction xs with
  | nil => simp [avC, avS]
  | cons x xs ih => simp only [avC, avS]; omega
theorem avS_mem {x : AV} : ∀ {xs : List AV}, x ∈ xs → avB x + 1 ≤ avS xs
  | y :: ys, h => by
    rcases List.mem_cons.1 h with rfl | h
    · simp only [avS]; omega
    · have := avS_mem h; simp only [avS]; omega
theorem bulk_all {P : Program} {H : Type} {B : DataW H → Nat} {BA : List (DataW H) → Nat} (hn : BA [] = 0) (hc : ∀ d r, BA (d :: r) = B d + BA r) : ∀ {ds : List (DataW H)} {xs : List AV}, xs.length = ds.length →
    (∀ i (h1 : i < ds.length) (h2 : i < xs.length), avB xs[i] + 1 ≤ B ds[i]) → avS xs ≤ BA ds
  | [], xs, hl, h => by
    obtain rfl : xs = [] := List.eq_nil_of_length_eq_zero (by simpa using hl)
    simp [avS]
  | d :: ds, xs, hl, h => by
    cases xs with
    | nil => simp at hl
    | cons x xs =>
      have h0 := h 0 (by simp) (by simp)
      have := bulk_all (P := P) (B := B) hn hc (ds := ds) (xs := xs) (by simpa using hl) (fun i h1 h2 => h (i + 1) (Nat.succ_lt_succ h1) (Nat.succ_lt_succ h2))
      simp only [avS, hc]
      simp only [List.getElem_cons_zero] at h0
      omega
theorem RdD.bulk {P : Program} {H : Type} {B : DataW H → Nat} {BA : List (DataW H) → Nat} (hn : BA [] = 0) (hc : ∀ d r, BA (d :: r) = B d + BA r) (h1 : ∀ d, 1 ≤ B d) (hs : ∀ s, B (.lit (.string s)) = s.length + 1)
    (hsl : ∀ a b, B (.slice a b) = BA a + BA b + 1) (hag : ∀ a, B (.agg a) = BA a + 1) {t : TypeId} {d : DataW H} {a : AV} (h : RdD P t d a) : avB a + 1 ≤ B d := by
  induction h with
  | bool => simpa [avB] using h1 _
  | int => simpa [avB] using h1 _
  | str => simp [avB, hs]
  | nils => simpa [avB, avS] using h1 _
  | sl ht hl hm h ih =>
    have := bulk_all (P := P) (B := B) hn hc hl ih
    rw [hsl]; simp only [avB]; omega
  | st ht hd hx h ih =>
    have := bulk_all (P := P) (B := B) hn hc (by omega) (fun i a b => ih i a b (by omega))
    rw [hag]; simp only [avB]
    rename_i t fs ds xs
    have k1 := avC_flat xs
    have k2 := avC_le_avS xs
    omega
end Go.Ab
end
section
set_option linter.unusedVariables false
set_option linter.unusedSimpArgs false
set_option maxRecDepth 20000
set_option maxHeartbeats 1000000
namespace Go.Proofs.YtnfalbdnkgaelaaDoor
open Go Go.Ab
theorem text_avB {x : List (List UInt8)} : ∀ s ∈ x, s.length ≤ avS (texts x) := fun s hs => by
  have : avB (.str s) + 1 ≤ avS (texts x) := avS_mem (by simp [texts, hs])
  simp only [avB] at this; omega
theorem len_avS : ∀ (xs : List AV), xs.length ≤ avS xs
  | [] => Nat.zero_le _
  | x :: r => by have := len_avS r; simp only [avS, List.length_cons]; omega
theorem tg_of {l : List Tg} {k : Nat} (h : avB (.sl true false 5 (tgs true l)) ≤ k) : l.length ≤ k ∧ ∀ t ∈ l, t.name.length ≤ k ∧ t.needs.length ≤ k ∧ t.outs.length ≤ k ∧ t.srcs.length ≤ k ∧ t.cmd.length ≤ k ∧ (∀ s ∈ t.srcs, s.length ≤ k) ∧ (∀ s ∈ t.outs, s.length ≤ k) := by
  have h : avS (tgs true l) ≤ k := h
  refine ⟨by have := len_avS (tgs true l); rw [tgs_len] at this; omega, fun t ht => ?_⟩
  have h1 : avB (tgA true t) + 1 ≤ avS (tgs true l) := avS_mem (List.mem_map_of_mem ht)
  have h2 : avB (AV.agg [.str t.name, .sl true false 1 (texts t.srcs), .sl true false 1 (texts t.needs), .sl true false 1 (texts t.outs), .sl true false 1 (texts t.cmd)]) + 1 ≤ avS (tgs true l) := h1
  simp only [avB, avC] at h2
  have e1 := len_avS (texts t.srcs)
  have e2 := len_avS (texts t.needs)
  have e3 := len_avS (texts t.outs)
  have e4 := len_avS (texts t.cmd)
  rw [texts_len] at e1 e2 e3 e4
  refine ⟨by omega, by omega, by omega, by omega, by omega, fun s hs => ?_, fun s hs => ?_⟩
  · have := text_avB s hs; omega
  · have := text_avB s hs; omega
theorem tgSz_of {l : List Tg} (h : avB (.sl true false 5 (tgs true l)) ≤ 1048576) : l.length ≤ 1000000000 ∧ TgSz l := by
  obtain ⟨h1, h2⟩ := tg_of h
  exact ⟨by omega, fun t ht => by have := (h2 t ht).1; omega, fun t ht => (h2 t ht).2.1⟩
theorem ord_full {l : List Tg} (hok : NmOk l) (P : Nat → Bool) (hcl : ∀ n ∈ smG l P l.length, ∀ k ∈ ndT l n, k ∈ smG l P l.length) : (ordG (ndT l) (smG l P l.length) (smG l P l.length).length []).length = (smG l P l.length).length ↔ hcG l P = false := by
  obtain ⟨g1, g2, g3⟩ := ord_good (needs := ndT l) (sm := smG l P l.length) (smG l P l.length).length [] .nil (fun n hn => by cases hn) (by simp)
  have h1 := ord_all hcl
  have h2 : (∀ c ∈ smG l P l.length, ¬ Way (NeedR (ndT l)) c c) ↔ hcG l P = false := by
    rw [hcG, List.any_eq_false]
    constructor
    · intro h i hi hh
      obtain ⟨p1, p2⟩ := Bool.and_eq_true_iff.1 hh
      have hi := List.mem_range.1 hi
      exact h (nmAt l i) (smG_mem.2 ⟨i, hi, p1, rfl⟩) ((rch_nm hok hi hi).1 p2)
    · intro h c hc hw
      obtain ⟨i, hi, p1, rfl⟩ := smG_mem.1 hc
      exact h i (List.mem_range.2 hi) (by rw [p1, (rch_nm hok hi hi).2 hw]; rfl)
  rw [← h2, ← h1]
  generalize ordG (ndT l) (smG l P l.length) (smG l P l.length).length [] = od at *
  constructor
  · intro hlen n hn
    refine Classical.byContradiction fun hno => ?_
    have := List.Nodup.length_le_of_subset (List.nodup_cons.2 ⟨hno, g1.nodup⟩) (l₂ := smG l P l.length) (fun x hx => by
      rcases List.mem_cons.1 hx with rfl | hx
      · exact hn
      · exact g2 x hx)
    rw [List.length_cons] at this; omega
  · intro hall
    have h3 := List.Nodup.length_le_of_subset g1.nodup (l₂ := smG l P l.length) g2
    have h4 := List.Nodup.length_le_of_subset (smG_nodup hok.nd P) (l₂ := od) hall
    omega
theorem sm_all (l : List Tg) : smG l (fun _ => true) l.length = nmsG l := by
  unfold smG
  rw [List.filter_eq_self.2 (fun _ _ => rfl)]
  refine List.ext_getElem (by simp [nms_len]) fun i h1 h2 => ?_
  have hi : i < l.length := by simpa using h1
  rw [List.getElem_map, List.getElem_range, nmAt_get hi, nms_get hi]
theorem oE_is {l : List Tg} (h : nmE l = 0) : oE l = if hcG l (fun _ => true) = true then 10 else 0 := by
  have hok := nmE_ok.1 h
  have := ord_full hok (fun _ => true) (by rw [sm_all]; exact hok.ndT)
  rw [sm_all] at this
  unfold oE ordL
  rw [if_pos h]
  rw [nms_len] at this
  cases hc : hcG l (fun _ => true) with
  | true =>
    rw [hc] at this
    rw [nms_len, if_neg (fun e => by cases this.1 e), if_pos rfl]
  | false =>
    rw [nms_len, if_pos (this.2 hc), if_neg (by simp)]
theorem ord_len (nd : Nm → List Nm) (sm : List Nm) : (ordG nd sm sm.length []).length ≤ sm.length := by
  obtain ⟨g1, g2, g3⟩ := ord_good (needs := nd) (sm := sm) sm.length [] .nil (fun n hn => by cases hn) (by simp)
  exact List.Nodup.length_le_of_subset g1.nodup g2
theorem begun_ok {σ : Heap} : ∃ args', Calc cx 17 args' (.bool true) ∧ Frzs σ [] args' := ⟨[], graphBegun_ok, .nil _⟩
theorem GraphOrders_ok (l : List Tg) (hk : avB (.sl true false 5 (tgs true l)) ≤ 1048576) : Calc cx 3 [.sl true false 5 (tgs true l)] (.bool true) :=
  pure_intro (fun a w => Tryd.call3 a w) Tryd.func3 rfl Tryd.ntmps3 rfl .bool fun B => by
    obtain ⟨hl, hz⟩ := tgSz_of hk
    have hO := Order_ok true true false l hl hz
    have hC := CheckNames_ok true true false l hl hz
    have harg : ∀ σ : Heap, Frzs σ [.sl true false 5 (tgs true l)] [.sl true false 5 (tgs true l)] := fun σ => .cons (tgs_arg ..) (.nil _)
    have lend : ∀ (σ : Heap) (x : List Nm), Frz false σ (.sl true false 1 (texts x)) (.sl true false 1 (texts x)) := fun σ x => .refl (.sl (fun h => by cases h) (texts_any x))
    by_cases h : nmE l = 0
    · have hok := nmE_ok.1 h
      have hl60 := hok.len
      have hE := Everyone_ok true true false l (by omega)
      have hH := HasCircle_ok true true false true false l (fun _ => true) hok hz
      have hF := OrderOf_ok true true false true false l (fun _ => true) hok hz
      rw [sm_all] at hF
      rw [h] at hC
      have hoe := oE_is h
      have hol : (ordL l).length ≤ 60 := by have := ord_len (ndT l) (nmsG l); rw [nms_len] at this; unfold ordL; rw [nms_len]; omega
      have hbo : ∀ σ : Heap, Frz false σ (.sl true false 1 (booA l.length fun _ => true)) (.sl true false 1 (booA l.length fun _ => true)) := fun σ => .refl (.sl (fun h => by cases h) (boo_free _ _))
      cases hc : hcG l (fun _ => true) with
      | true =>
        rw [hc] at hH hoe
        rw [if_pos rfl] at hoe
        rw [hoe] at hO
        have hA := textsAre_ok (st := true) (fl := false) (st' := true) (fl' := false) [] [] 10 10 (by simp) (by simp)
        refine pa [.v (outAV (ordL l) 10), .v (.int .i64 0), .b true, .v (.sl true false 1 (booA l.length fun _ => true)), .v (.bool true), .b true, .v (.bool true), .b true, .v (.bool true)] rfl ?_ ?_
        · (repeat' with_reducible apply AllP_cons) <;> try exact aC
          · exact ⟨_, hO, harg _⟩
          · exact ⟨_, hC, harg _⟩
          · exact ⟨_, hE, harg _⟩
          · exact ⟨_, hH, .cons (tgs_arg ..) (.cons (hbo _) (.nil _))⟩
          · exact begun_ok
          · exact ⟨_, hA, .cons (lend _ []) (.cons (.refl .int) (.cons (.refl .int) (.cons .nils (.nil _))))⟩
        exact S_retc .bool rfl trivial rfl
      | false =>
        rw [hc] at hH hoe
        rw [if_neg (by simp)] at hoe
        rw [hoe] at hO
        have hA := textsAre_ok (st := true) (fl := false) (st' := true) (fl' := false) (ordL l) (ordL l) 0 0 (by omega) (by omega)
        have e : (((0 : Nat) == 0) && (ordL l == if 0 = 0 then ordL l else [])) = true := by simp
        rw [e] at hA
        refine pa [.v (outAV (ordL l) 0), .v (.int .i64 0), .b true, .v (.sl true false 1 (booA l.length fun _ => true)), .v (.bool false), .b false, .v (.sl true false 1 (booA l.length fun _ => true)), .v (.sl true false 1 (texts (ordL l))), .v (.bool true), .b true, .v (.bool true)] rfl ?_ ?_
        · (repeat' with_reducible apply AllP_cons) <;> try exact aC
          · exact ⟨_, hO, harg _⟩
          · exact ⟨_, hC, harg _⟩
          · exact ⟨_, hE, harg _⟩
          · exact ⟨_, hH, .cons (tgs_arg ..) (.cons (hbo _) (.nil _))⟩
          · exact ⟨_, hE, harg _⟩
          · exact ⟨_, hF, .cons (tgs_arg ..) (.cons (hbo _) (.nil _))⟩
          · exact begun_ok
          · exact ⟨_, hA, .cons (lend _ (ordL l)) (.cons (.refl .int) (.cons (.refl .int) (.cons (lend _ (ordL l)) (.nil _))))⟩
        exact S_retc .bool rfl trivial rfl
    · have hoe : oE l = nmE l := by unfold oE; rw [if_neg h]
      rw [hoe] at hO
      have hne : (((nmE l : Nat) : Int) == 0) = false := by simpa using h
      have hA := textsAre_ok (st := true) (fl := false) (st' := true) (fl' := false) [] [] (nmE l) (nmE l) (by simp) (by simp)
      have e : ((nmE l == nmE l) && (([] : List Nm) == if nmE l = 0 then [] else [])) = true := by simp
      rw [e] at hA
      have hov : outAV (ordL l) (nmE l) = .tup [.sl true false 1 (texts []), .int .i64 (nmE l : Nat)] := by unfold outAV; rw [if_neg h]
      rw [hov] at hO
      refine pa [.v (.tup [.sl true false 1 (texts []), .int .i64 (nmE l : Nat)]), .v (.int .i64 (nmE l : Nat)), .b false, .v (.bool true), .b true, .v (.bool true)] rfl ?_ ?_
      · (repeat' with_reducible apply AllP_cons) <;> try exact aC
        · exact ⟨_, hO, harg _⟩
        · exact ⟨_, hC, harg _⟩
        · exact begun_ok
        · exact ⟨_, hA, .cons (lend _ []) (.cons (.refl .int) (.cons (.refl .int) (.cons .nils (.nil _))))⟩
      exact S_retc .bool rfl trivial rfl
end Go.Proofs.YtnfalbdnkgaelaaDoor
end
section
set_option linter.unusedVariables false
set_option linter.unusedSimpArgs false
set_option maxRecDepth 20000
namespace Go.Proofs.YtnfalbdnkgaelaaDoor
open Go Go.Ab
theorem open_l {H : Type} {d : DataW H} {a : AV} (h : RdD Tryd.prog 23 d a) : ∃ l : List (List UInt8), a = .sl true false 1 (texts l) := by
  obtain ⟨ds, xs, rfl, hl, hm, hall, _⟩ := h.inv_sl Tryd.underlying23
  obtain ⟨ys, rfl, hy, hg⟩ := RdD.each AV.str (fun _ _ => True) hl hall (fun d x h => by
    obtain ⟨s, _, rfl, _⟩ := h.inv_str Tryd.underlying9
    exact ⟨s, rfl, trivial⟩)
  have hc : Tryd.prog.cellsOf 9 = 1 := by kernel_rfl
  exact ⟨ys, by rw [hc]; rfl⟩
end Go.Proofs.YtnfalbdnkgaelaaDoor
end
section
set_option linter.unusedVariables false
set_option linter.unusedSimpArgs false
set_option maxRecDepth 20000
namespace Go.Proofs.YtnfalbdnkgaelaaDoor
open Go Go.Ab
theorem open_tg {H : Type} {d : DataW H} {a : AV} (h : RdD Tryd.prog 44 d a) : ∃ f : Tg, a = tgA true f := by
  obtain ⟨ds, xs, rfl, rfl, hall⟩ := h.inv_st Tryd.underlying44
  obtain ⟨d0, ds, x0, xs, rfl, rfl, h0, hall⟩ := hall.cons
  obtain ⟨d1, ds, x1, xs, rfl, rfl, h1, hall⟩ := hall.cons
  obtain ⟨d2, ds, x2, xs, rfl, rfl, h2, hall⟩ := hall.cons
  obtain ⟨d3, ds, x3, xs, rfl, rfl, h3, hall⟩ := hall.cons
  obtain ⟨d4, ds, x4, xs, rfl, rfl, h4, hall⟩ := hall.cons
  obtain ⟨rfl, rfl⟩ := hall.nil
  obtain ⟨s0, rfl, rfl, _⟩ := h0.inv_str Tryd.underlying9
  obtain ⟨l1, rfl⟩ := open_l h1
  obtain ⟨l2, rfl⟩ := open_l h2
  obtain ⟨l3, rfl⟩ := open_l h3
  obtain ⟨l4, rfl⟩ := open_l h4
  exact ⟨⟨s0, l1, l2, l3, l4⟩, rfl⟩
theorem open_T {H : Type} {d : DataW H} {a : AV} (h : RdD Tryd.prog 22 d a) : ∃ l : List Tg, a = .sl true false 5 (tgs true l) := by
  obtain ⟨ds, xs, rfl, hl, hm, hall, _⟩ := h.inv_sl Tryd.underlying22
  obtain ⟨ys, rfl, hy, hg⟩ := RdD.each (tgA true) (fun _ _ => True) hl hall (fun d x h => by
    obtain ⟨f, rfl⟩ := open_tg h
    exact ⟨f, rfl, trivial⟩)
  have hc : Tryd.prog.cellsOf 44 = 5 := by kernel_rfl
  exact ⟨ys, by rw [hc]; rfl⟩
end Go.Proofs.YtnfalbdnkgaelaaDoor
end
