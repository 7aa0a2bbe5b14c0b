/-
  Texts of our own, in one file.
-/
import Derived.Test.YtonjhfeabphaaaaGreatDoorGrpE
section
set_option linter.unusedVariables false
set_option linter.unusedSimpArgs false
set_option maxRecDepth 20000
namespace Go.Proofs.YtonjhfeabphaaaaGreatDoor
open Go Go.Ab
theorem top_len : ∀ (F : Nat) (ls : List St) (r : List Tok) (l : List St) (u : List Tok), stmtsS F true 0 0 ls r = .ok l u → (r = [] ∧ l = ls) ∨ ls.length < l.length
 | 0, _, _, _, _, h => by cases h
 | F + 1, ls, r, l, u, h => by
  rw [stmtsS] at h
  have h : (if r.isEmpty = true then .ok ls r else (stmtS F 0 0 r).bind fun s r => stmtsS F true 0 0 (ls ++ [s]) r) = Pr.ok l u := h
  by_cases h1 : r.isEmpty = true
  ·rw [if_pos h1] at h; cases h; exact .inl ⟨by simpa using h1, rfl⟩
  ·rw [if_neg h1] at h
   cases hy : stmtS F 0 0 r with
   | out => rw [hy] at h; cases h
   | bad k w => rw [hy] at h; cases h
   | ok s w =>
    rw [hy] at h
    rcases top_len F (ls ++ [s]) w l u h with ⟨_, rfl⟩ | h
    ·right; simp
    ·right; simp at h; omega
section
variable {w : List Tok} (hw : 6 ≤ hdK w)
include hw
theorem end_is (s : List UInt8) : isS s w = false := by
 unfold isS
 rw [beq_false_of_ne (show hdK w ≠ 4 by omega), beq_false_of_ne (show hdK w ≠ 5 by omega)]; rfl
theorem end_of (l : List (List UInt8)) : isOf l w = false := by
 unfold isOf
 rw [beq_false_of_ne (show hdK w ≠ 4 by omega), beq_false_of_ne (show hdK w ≠ 5 by omega)]; rfl
theorem end_loop (F k n : Nat) (x : Ex) : loopS (F + 1) k n x w = .ok x w := by rw [loopS, end_of hw, if_neg (by decide)]
theorem end_post (F n : Nat) (x : Ex) : postS (F + 1) n x w = .ok x w := by rw [postS, end_is hw, end_is hw, if_neg (by decide), if_neg (by decide)]
theorem atom_expr {F n : Nat} {r : List Tok} {x : Ex} (hn : n ≠ 30) (h1 : isS [45] r = false) (h2 : isS wNot r = false) (h : atomS (F + 1) (n + 1) r = .ok x w) : exprS (F + 8) n r = .ok x w := by
 have e5 : levS (F + 2) 5 (n + 1) r = .ok x w := by
  rw [levS_5, h1, if_neg (by decide), h]; exact end_post hw F _ x
 have e4 : levS (F + 3) 4 (n + 1) r = .ok x w := by rw [levS_d 4 (by decide) (by decide), e5]; exact end_loop hw (F + 1) 4 _ x
 have e3 : levS (F + 4) 3 (n + 1) r = .ok x w := by rw [levS_d 3 (by decide) (by decide), e4]; exact end_loop hw (F + 2) 3 _ x
 have e2 : levS (F + 5) 2 (n + 1) r = .ok x w := by
  rw [levS_2, h2, if_neg (by decide), e3]
  show (if isOf (binS 2) w = true then _ else Pr.ok x w) = _
  rw [end_of hw, if_neg (by decide)]
 have e1 : levS (F + 6) 1 (n + 1) r = .ok x w := by rw [levS_d 1 (by decide) (by decide), e2]; exact end_loop hw (F + 4) 1 _ x
 have e0 : levS (F + 7) 0 (n + 1) r = .ok x w := by rw [levS_d 0 (by decide) (by decide), e1]; exact end_loop hw (F + 5) 0 _ x
 rw [exprS, if_neg hn, e0]
end
theorem atom_bad {F n k : Nat} {r u : List Tok} (hn : n ≠ 30) (h1 : isS [45] r = false) (h2 : isS wNot r = false) (h : atomS (F + 1) (n + 1) r = .bad k u) : exprS (F + 8) n r = .bad k u := by
 have e5 : levS (F + 2) 5 (n + 1) r = .bad k u := by rw [levS_5, h1, if_neg (by decide), h]; rfl
 have e4 : levS (F + 3) 4 (n + 1) r = .bad k u := by rw [levS_d 4 (by decide) (by decide), e5]; rfl
 have e3 : levS (F + 4) 3 (n + 1) r = .bad k u := by rw [levS_d 3 (by decide) (by decide), e4]; rfl
 have e2 : levS (F + 5) 2 (n + 1) r = .bad k u := by rw [levS_2, h2, if_neg (by decide), e3]; rfl
 have e1 : levS (F + 6) 1 (n + 1) r = .bad k u := by rw [levS_d 1 (by decide) (by decide), e2]; rfl
 have e0 : levS (F + 7) 0 (n + 1) r = .bad k u := by rw [levS_d 0 (by decide) (by decide), e1]; rfl
 rw [exprS, if_neg hn, e0]
theorem set_stmt {F : Nat} {tx te : Tok} {r : List Tok} (hx : tx.kind = 1) (he : te.kind = 4) (het : te.text = [61]) :
  stmtS (F + 1) 0 0 (tx :: te :: r) = ((exprS F 0 r).bind fun x r' => .ok (.mk 3 tx.text [] x [] []) r').bind fun s r => (takeS 6 r).bind fun _ r => .ok s r := by
 have hi : ∀ s, isS s (tx :: te :: r) = false := fun s => by
  show ((tx.kind == 4 || tx.kind == 5) && tx.text == s) = false
  rw [hx]; rfl
 have hn : nameS (tx :: te :: r) = true := by
  show (tx.kind == 1 && te.kind == 4 && te.text == [61]) = true
  rw [hx, he, het]; rfl
 rw [stmtS, hi, hi, hi, if_neg (by decide), if_neg (by decide), if_neg (by decide)]
 unfold smallS
 rw [hi, hi, hi, hn, if_neg (by decide), if_neg (by decide), if_neg (by decide), if_pos rfl]
 rfl
theorem parse_br {tx te l1 tx2 te2 tp tc l2 : Tok} {S1 S2 : List Tok} (hx : tx.kind = 1) (he : te.kind = 4) (het : te.text = [61]) (hx2 : tx2.kind = 1) (hxt : tx2.text = tx.text) (he2 : te2.kind = 4) (het2 : te2.text = [61])
  (hp : tp.kind = 4) (hpt : tp.text = [40]) (hc : tc.kind = 4) (hct : tc.text = [41]) (hl1 : l1.kind = 6) (hl2 : l2.kind = 6) (hb : bareL S2 = bareL S1) {l : List St}
  (h : stmtsS (fuelS (tx :: te :: (S1 ++ [l1]))) true 0 0 [] (tx :: te :: (S1 ++ [l1])) = .ok l []) (hll : l.length = 1) :
  stmtsS (fuelS (tx2 :: te2 :: tp :: (S2 ++ [tc, l2]))) true 0 0 [] (tx2 :: te2 :: tp :: (S2 ++ [tc, l2])) = .ok l [] ∨ ∃ u, stmtsS (fuelS (tx2 :: te2 :: tp :: (S2 ++ [tc, l2]))) true 0 0 [] (tx2 :: te2 :: tp :: (S2 ++ [tc, l2])) = .bad 2 u := by
 have hlen : S2.length = S1.length := by have := congrArg List.length hb; simpa [bareL] using this
 obtain ⟨f, hf⟩ : ∃ f, fuelS (tx :: te :: (S1 ++ [l1])) = f + 2 := ⟨16 * (S1.length + 3) + 38, by unfold fuelS; simp⟩
 have hg : fuelS (tx2 :: te2 :: tp :: (S2 ++ [tc, l2])) = f + 34 := by
  unfold fuelS at hf ⊢
  simp at hf ⊢
  omega
 rw [hf] at h
 rw [hg]
 have h : (stmtS (f + 1) 0 0 (tx :: te :: (S1 ++ [l1]))).bind (fun s r => stmtsS (f + 1) true 0 0 ([] ++ [s]) r) = .ok l [] := h
 rw [set_stmt hx he het] at h
 show (stmtS (f + 33) 0 0 (tx2 :: te2 :: tp :: (S2 ++ [tc, l2]))).bind (fun s r => stmtsS (f + 33) true 0 0 ([] ++ [s]) r) = .ok l [] ∨ ∃ u, (stmtS (f + 33) 0 0 (tx2 :: te2 :: tp :: (S2 ++ [tc, l2]))).bind (fun s r => stmtsS (f + 33) true 0 0 ([] ++ [s]) r) = .bad 2 u
 rw [set_stmt hx2 he2 het2, hxt]
 cases hE : exprS f 0 (S1 ++ [l1]) with
 | out => rw [hE] at h; cases h
 | bad k u => rw [hE] at h; cases h
 | ok x r' =>
  rw [hE] at h
  have hsuf := (allS f).expr 0 _ _ _ hE
  have h : ((takeS 6 r').bind fun _ r => Pr.ok (St.mk 3 tx.text [] x [] []) r).bind (fun s r => stmtsS (f + 1) true 0 0 ([] ++ [s]) r) = .ok l [] := h
  cases r' with
  | nil => cases h
  | cons t6 v =>
   have h : ((if t6.kind = 6 then Pr.ok t6 v else .bad 1 (t6 :: v)).bind (fun _ r => Pr.ok (St.mk 3 tx.text [] x [] []) r)).bind (fun s r => stmtsS (f + 1) true 0 0 ([] ++ [s]) r) = .ok l [] := h
   by_cases h6 : t6.kind = 6
   ·rw [if_pos h6] at h
    have h : stmtsS (f + 1) true 0 0 [St.mk 3 tx.text [] x [] []] v = .ok l [] := h
    rcases top_len _ _ _ _ _ h with ⟨rfl, rfl⟩ | hlt
    ·
     have ht : t6 = l1 := by
      obtain ⟨a, ha⟩ := hsuf
      have := congrArg List.getLast? ha
      simpa using this
     subst ht
     have hben : Ben [t6] [tc, l2] True := ⟨by show (t6.kind == 4 && _) = false; rw [hl1]; rfl, by show (tc.kind == 4 && tc.text == [61]) = false; rw [hct, hc]; rfl,
      fun _ k => by
       show ((tc.kind == 4 || tc.kind == 5) && (binS k).contains tc.text) = false
       rw [hct, hc]
       match k with
       | 0 => rfl
       | 1 => rfl
       | 2 => rfl
       | 3 => rfl
       | 4 => rfl
       | k + 5 => rfl, fun _ => by show ((tc.kind == 4 || tc.kind == 5) && tc.text == [40]) = false; rw [hct, hc]; rfl, fun _ => by show ((tc.kind == 4 || tc.kind == 5) && tc.text == [91]) = false; rw [hct, hc]; rfl⟩
     have hS := (allM hben f (f + 24) (by omega) 1).expr 0 (S1 ++ [t6]) (S2 ++ [tc, l2]) (by omega)
     have hp1 : isS [45] (tp :: (S2 ++ [tc, l2])) = false := by show ((tp.kind == 4 || tp.kind == 5) && tp.text == [45]) = false; rw [hp, hpt]; rfl
     have hp2 : isS wNot (tp :: (S2 ++ [tc, l2])) = false := by show ((tp.kind == 4 || tp.kind == 5) && tp.text == wNot) = false; rw [hp, hpt]; rfl
     have hat : atomS (f + 25) 1 (tp :: (S2 ++ [tc, l2])) = (exprS (f + 24) 1 (S2 ++ [tc, l2])).bind fun x r => (mustS [41] r).bind fun _ r => .ok x r := by
      have hi : ∀ s, isS s (tp :: (S2 ++ [tc, l2])) = (([40] : List UInt8) == s) := fun s => by
       show ((tp.kind == 4 || tp.kind == 5) && tp.text == s) = _
       rw [hp, hpt]; rfl
      rw [atomS_eq, if_neg (by show ¬ tp.kind = 1; omega), if_neg (by show ¬ tp.kind = 2; omega), if_neg (by show ¬ tp.kind = 3; omega), hi, hi, hi, hi, if_neg (by decide), if_neg (by decide), if_neg (by decide), if_pos (by decide)]
      rfl
     rcases hS.2 ⟨S1, rfl, by rw [bare_app, bare_app, hb]⟩ x [t6] hE ⟨[], rfl, fun _ => trivial⟩ with ⟨y', u', hy, rfl, a, ha, hu⟩ | ⟨_, k, hy⟩
     ·have ha0 : a = [] := by
       have := congrArg List.length ha
       simp at this
       exact this
      subst ha0
      obtain ⟨tc', v', rfl, h3, h4⟩ := bareL_cons hu
      obtain ⟨l2', v2, rfl, h5, h6'⟩ := bareL_cons h4
      have hv2 : v2 = [] := by cases v2 with | nil => rfl | cons => cases h6'
      subst hv2
      obtain ⟨k3, t3, _⟩ := bareT_eq h3
      obtain ⟨k5, _, _⟩ := bareT_eq h5
      have hy : exprS (f + 24) 1 (S2 ++ [tc, l2]) = .ok x [tc', l2'] := hy
      rw [hy] at hat
      have hm : mustS [41] [tc', l2'] = .ok () [l2'] := by
       unfold mustS
       rw [if_pos (by show ((tc'.kind == 4 || tc'.kind == 5) && tc'.text == [41]) = true; rw [← k3, ← t3, hc, hct]; rfl)]; rfl
      have hat : atomS (f + 25) 1 (tp :: (S2 ++ [tc, l2])) = .ok x [l2'] := by rw [hat]; show (mustS [41] [tc', l2']).bind _ = _; rw [hm]; rfl
      have hX := atom_expr (F := f + 24) (n := 0) (w := [l2']) (by show 6 ≤ l2'.kind; omega) (by decide) hp1 hp2 hat
      left
      rw [hX]
      show ((takeS 6 [l2']).bind fun _ r => Pr.ok (St.mk 3 tx.text [] x [] []) r).bind (fun s r => stmtsS (f + 33) true 0 0 ([] ++ [s]) r) = _
      have ht6 : takeS 6 [l2'] = .ok l2' [] := by unfold takeS; simp only; rw [if_pos (by omega)]
      rw [ht6]; rfl
     ·have hy : exprS (f + 24) 1 (S2 ++ [tc, l2]) = .bad 2 k := hy
      rw [hy] at hat
      have hX := atom_bad (F := f + 24) (n := 0) (by decide) hp1 hp2 hat
      right
      refine ⟨k, ?_⟩
      rw [hX]; rfl
    ·exfalso; simp at hlt; omega
   ·rw [if_neg h6] at h; cases h
end Go.Proofs.YtonjhfeabphaaaaGreatDoor
end
section
set_option linter.unusedVariables false
set_option linter.unusedSimpArgs false
set_option maxRecDepth 20000
namespace Go.Proofs.YtonjhfeabphaaaaGreatDoor
open Go Go.Ab
theorem tw_brk {p : UInt8 → Bool} (hp : p 41 = false) : ∀ a : List UInt8, (a ++ [41]).takeWhile p = a.takeWhile p
 | [] => by rw [List.nil_append, List.takeWhile_cons, hp]; rfl
 | c :: a => by rw [List.cons_append, List.takeWhile_cons, List.takeWhile_cons, tw_brk hp a]
theorem pre_brk : ∀ (g a : List UInt8), 41 ∉ g → g.isPrefixOf (a ++ [41]) = g.isPrefixOf a
 | [], a, _ => by simp
 | c :: g, [], h => by
  have : c ≠ 41 := fun e => h (by simp [e])
  simp [List.isPrefixOf, this]
 | c :: g, d :: a, h => by
  rw [List.cons_append, List.isPrefixOf, List.isPrefixOf, pre_brk g a (fun e => h (List.mem_cons_of_mem _ e))]
section
variable {s : List UInt8}
theorem drop_brk {i : Nat} (h : i ≤ s.length) : (s ++ [41]).drop i = s.drop i ++ [41] := List.drop_append_of_le_length h
theorem stopAt_brk {p : UInt8 → Bool} (hp : p 41 = false) {i : Nat} (h : i ≤ s.length) : stopAt p (s ++ [41]) i = stopAt p s i := by
 unfold stopAt; rw [drop_brk h, tw_brk hp]
theorem get_brk {i : Nat} (h : i < s.length) : (s ++ [41])[i]? = s[i]? := List.getElem?_append_left h
theorem get_brk0 : (s ++ [41])[s.length]? = some 41 := by rw [List.getElem?_append_right (Nat.le_refl _), Nat.sub_self]; rfl
theorem getD_brk {i : Nat} (h : i < s.length) : (s ++ [41]).getD i 0 = s.getD i 0 := by
 rw [List.getD_eq_getElem?_getD, List.getD_eq_getElem?_getD, get_brk h]
theorem gapE_brk {i : Nat} (h : i ≤ s.length) : gapE (s ++ [41]) i = gapE s i := stopAt_brk rfl h
theorem gapC_brk (h35 : 35 ∉ s) {i : Nat} (h : i ≤ s.length) : gapC (s ++ [41]) i = gapC s i := by
 have hg := gapE_le h
 unfold gapC
 rw [gapE_brk h]
 have n1 : ¬ s[gapE s i]? = some 35 := fun e => h35 (List.mem_of_getElem? e)
 have n2 : ¬ (s ++ [41])[gapE s i]? = some 35 := fun e => by
  have := List.mem_of_getElem? e
  rcases List.mem_append.1 this with h | h
  ·exact h35 h
  ·simp at h
 rw [if_neg n1, if_neg n2]
theorem cutT_brk {i j : Nat} (h : j ≤ s.length) : cutT (s ++ [41]) i j = cutT s i j := by
 unfold cutT; rw [List.take_append_of_le_length h]
theorem signAt_brk {i : Nat} (h : i < s.length) : signAt (s ++ [41]) i = signAt s i := by
 unfold signAt
 rw [drop_brk (Nat.le_of_lt h)]
 obtain ⟨c, a, ha⟩ : ∃ c a, s.drop i = c :: a := ⟨_, _, List.drop_eq_getElem_cons h⟩
 have hall : ∀ g ∈ signs18, 41 ∉ g ∨ g = [41] := by decide
 have key : ∀ l : List (List UInt8), (∀ g ∈ l, 41 ∉ g ∨ g = [41]) → l.find? (fun g => g.isPrefixOf (s.drop i ++ [41])) = l.find? (fun g => g.isPrefixOf (s.drop i)) := by
  intro l
  induction l with
  | nil => intro _; rfl
  | cons g l ih =>
   intro h
   have hg : g.isPrefixOf (s.drop i ++ [41]) = g.isPrefixOf (s.drop i) := by
    rcases h g (List.mem_cons_self ..) with h | rfl
    ·exact pre_brk g _ h
    ·rw [ha, List.cons_append]; simp [List.isPrefixOf]
   rw [List.find?_cons, List.find?_cons, hg, ih fun g hg => h g (List.mem_cons_of_mem _ hg)]
 exact key _ hall
theorem oneS_brk {i o : Nat} (hi : i < s.length) {t : Tok} {j o' : Nat} (h : oneS s i o = .inr (t, j, o')) : oneS (s ++ [41]) i (o + 1) = .inr (t, j, o' + 1) ∨ ∃ p, oneS (s ++ [41]) i (o + 1) = .inl (2, p) := by
 have h1 := stopAt_le (p := fun c => isLet c || isDg c) (Nat.le_of_lt hi)
 have h2 := stopAt_le (p := isDg) (Nat.le_of_lt hi)
 unfold oneS at h ⊢
 rw [getD_brk hi, stopAt_brk rfl (Nat.le_of_lt hi), stopAt_brk rfl (Nat.le_of_lt hi), cutT_brk h1.2, cutT_brk h2.2, signAt_brk hi, drop_brk (by omega)]
 split at h
 ·rename_i c; rw [if_pos c]; cases h; exact .inl rfl
 ·rename_i c
  rw [if_neg c]
  split at h
  ·rename_i c
   rw [if_pos c]
   split at h
   ·cases h
   ·rename_i c; rw [if_neg c]; cases h; exact .inl rfl
  ·rename_i c
   rw [if_neg c]
   split at h
   ·rename_i c
    rw [if_pos c]
    cases hq : quoteS (s.drop (i + 1)) (i + 1) [] with
    | inl p => rw [hq] at h; cases h
    | inr y => rw [hq] at h; rw [quoteS_app _ _ _ (Nat.le_refl _) _ _ _ hq]; cases h; exact .inl rfl
   ·rename_i c
    rw [if_neg c]
    cases hs : signAt s i with
    | none => rw [hs] at h; cases h
    | some g =>
     rw [hs] at h
     simp only at h ⊢
     split at h
     ·rename_i c
      rw [if_pos c]
      split at h
      ·cases h
      ·cases h
       by_cases h30 : 30 ≤ o + 1
       ·rw [if_pos h30]; exact .inr ⟨_, rfl⟩
       ·rw [if_neg h30]; exact .inl rfl
     ·rename_i c
      rw [if_neg c]
      split at h
      ·rename_i c
       rw [if_pos c]
       split at h
       ·cases h
       ·rename_i h0
        cases h
        rw [if_neg (by omega)]
        exact .inl (by rw [show o + 1 - 1 = o - 1 + 1 by omega])
      ·rename_i c
       rw [if_neg c]; cases h; exact .inl rfl
theorem gapC_end' (q : List UInt8) : gapC q q.length = q.length := gapC_end (Nat.le_refl _)
theorem lineB_end (f : Nat) (out : List Tok) : lineF (f + 2) (s ++ [41]) s.length 1 out = .inr (s.length + 1, out ++ [⟨4, [41], 0, s.length⟩, tokLine (s.length + 1)]) := by
 have hl : (s ++ [41]).length = s.length + 1 := by simp
 have hgd : (s ++ [41]).getD s.length 0 = 41 := by rw [List.getD_eq_getElem?_getD, get_brk0]; rfl
 have hsg : signAt (s ++ [41]) s.length = some [41] := by
  unfold signAt
  rw [drop_brk (Nat.le_refl _), List.drop_length, List.nil_append]; rfl
 have h1 : oneS (s ++ [41]) s.length 1 = .inr (⟨4, [41], 0, s.length⟩, s.length + 1, 0) := by
  unfold oneS
  rw [hgd, if_neg (by decide), if_neg (by decide), if_neg (by decide), hsg]
  rfl
 have hg : gapC (s ++ [41]) (s.length + 1) = s.length + 1 := by have := gapC_end' (s ++ [41]); rwa [hl] at this
 rw [lineF, if_pos ⟨by omega, .inr (by omega)⟩, get_brk0, if_neg (by decide), h1]
 simp only
 rw [hg, lineF, if_neg (by omega), if_neg (by omega), if_neg (by omega), List.append_assoc]
 rfl
theorem lineB (h10 : 10 ∉ s) (h35 : 35 ∉ s) : ∀ (f f' i o : Nat) (out : List Tok) (k : Nat) (out' : List Tok), i ≤ s.length → s.length + 1 - i < f' → lineF f s i o out = .inr (k, out') →
  ∃ S, out' = out ++ S ++ [tokLine s.length] ∧ k = s.length ∧ (lineF f' (s ++ [41]) i (o + 1) out = .inr (s.length + 1, out ++ S ++ [⟨4, [41], 0, s.length⟩, tokLine (s.length + 1)]) ∨ ∃ p, lineF f' (s ++ [41]) i (o + 1) out = .inl (2, p))
 | 0, _, _, _, _, _, _, _, _, h => by cases h
 | f + 1, f', i, o, out, k, out', hi, hf, h => by
  obtain ⟨f', rfl⟩ : ∃ g, f' = g + 1 := ⟨f' - 1, by omega⟩
  have hql : (s ++ [41]).length = s.length + 1 := by simp
  have hn : s[i]? ≠ some 10 := fun e => h10 (List.mem_of_getElem? e)
  rw [lineF] at h
  rcases Nat.lt_or_ge i s.length with hlt | hge
  ·rw [if_pos ⟨hlt, .inl hn⟩, if_neg hn] at h
   cases hx : oneS s i o with
   | inl e => rw [hx] at h; cases h
   | inr q =>
    obtain ⟨t, j, o'⟩ := q
    rw [hx] at h
    simp only at h
    have hb := oneS_le hlt hx
    have hg := gapC_le (s := s) (i := j) (by omega)
    obtain ⟨S, e1, e2, e3⟩ := lineB h10 h35 f f' (gapC s j) o' (out ++ [t]) k out' hg.2 (by omega) h
    refine ⟨t :: S, by rw [e1]; simp, e2, ?_⟩
    have hstep : ∀ x, oneS (s ++ [41]) i (o + 1) = x → lineF (f' + 1) (s ++ [41]) i (o + 1) out = match x with | Sum.inl e => Sum.inl e | Sum.inr (t, j, o') => lineF f' (s ++ [41]) (gapC (s ++ [41]) j) o' (out ++ [t]) := fun x hx => by
     rw [lineF, if_pos ⟨by omega, .inr (by omega)⟩, get_brk hlt, if_neg hn, hx]
     rcases x with e | ⟨t, j, o'⟩ <;> rfl
    rcases oneS_brk hlt hx with hy | ⟨p, hy⟩
    ·rw [hstep _ hy]
     show (lineF f' (s ++ [41]) (gapC (s ++ [41]) j) (o' + 1) (out ++ [t]) = _) ∨ _
     rw [gapC_brk h35 hb.2]
     have ea : out ++ t :: S = out ++ [t] ++ S := by simp
     rw [ea]
     rcases e3 with e3 | ⟨p, e3⟩
     ·exact .inl e3
     ·exact .inr ⟨p, by show lineF f' (s ++ [41]) (gapC (s ++ [41]) j) (o' + 1) (out ++ [t]) = _; rw [gapC_brk h35 hb.2]; exact e3⟩
    ·exact .inr ⟨p, by rw [hstep _ hy]⟩
  ·have hin : i = s.length := by omega
   subst hin
   rw [if_neg (by omega)] at h
   by_cases ho : 0 < o
   ·rw [if_pos ho] at h; cases h
   ·obtain rfl : o = 0 := by omega
    rw [if_neg ho, if_neg (by omega)] at h
    cases h
    obtain ⟨g, rfl⟩ : ∃ g, f' = g + 1 := ⟨f' - 1, by omega⟩
    refine ⟨[], by simp, rfl, .inl ?_⟩
    rw [List.append_nil]
    exact lineB_end g out
end
end Go.Proofs.YtonjhfeabphaaaaGreatDoor
end
section
set_option linter.unusedVariables false
set_option linter.unusedSimpArgs false
set_option maxRecDepth 20000
namespace Go.Proofs.YtonjhfeabphaaaaGreatDoor
open Go Go.Ab
def pre4 : List UInt8 := [120, 32, 61, 32]
def pre5 : List UInt8 := [120, 32, 61, 32, 40]
def tX : Tok := ⟨1, [120], 0, 0⟩
def tE : Tok := ⟨4, [61], 0, 2⟩
def tP : Tok := ⟨4, [40], 0, 4⟩
section
variable (r : List UInt8)
theorem hd_one : oneS (120 :: 32 :: 61 :: 32 :: r) 0 0 = .inr (tX, 1, 0) := by
 unfold oneS
 rw [if_pos (by rfl)]
 have h1 : stopAt (fun c => isLet c || isDg c) (120 :: 32 :: 61 :: 32 :: r) 0 = 1 := rfl
 rw [h1]
 have h2 : cutT (120 :: 32 :: 61 :: 32 :: r) 0 1 = [120] := rfl
 rw [h2, if_neg (by decide)]
 rfl
theorem hd_gap1 : gapC (120 :: 32 :: 61 :: 32 :: r) 1 = 2 := by
 have h : gapE (120 :: 32 :: 61 :: 32 :: r) 1 = 2 := rfl
 unfold gapC
 rw [h, if_neg (by simp)]
theorem hd_two : oneS (120 :: 32 :: 61 :: 32 :: r) 2 0 = .inr (tE, 3, 0) := by
 unfold oneS
 have h1 : (120 :: 32 :: 61 :: 32 :: r).getD 2 0 = 61 := rfl
 have h2 : signAt (120 :: 32 :: 61 :: 32 :: r) 2 = some [61] := rfl
 rw [h1, if_neg (by decide), if_neg (by decide), if_neg (by decide), h2]
 rfl
theorem hd_line (f : Nat) : lineF (f + 2) (120 :: 32 :: 61 :: 32 :: r) 0 0 [] = lineF f (120 :: 32 :: 61 :: 32 :: r) (gapC (120 :: 32 :: 61 :: 32 :: r) 3) 0 [tX, tE] := by
 rw [lineF, if_pos ⟨by simp, .inl (by simp)⟩, if_neg (by simp), hd_one]
 simp only
 rw [hd_gap1, lineF, if_pos ⟨by simp, .inl (by simp)⟩, if_neg (by simp), hd_two]
 rfl
theorem hd_gap0 : gapE (120 :: 32 :: 61 :: 32 :: r) 0 = 0 ∧ gapC (120 :: 32 :: 61 :: 32 :: r) 0 = 0 := by
 have h : gapE (120 :: 32 :: 61 :: 32 :: r) 0 = 0 := rfl
 refine ⟨h, ?_⟩
 unfold gapC
 rw [h, if_neg (by simp)]
theorem hd_all (f : Nat) : allF (f + 1) (120 :: 32 :: 61 :: 32 :: r) 0 [0] [] = match lineF ((120 :: 32 :: 61 :: 32 :: r).length + 1) (120 :: 32 :: 61 :: 32 :: r) 0 0 [] with | Sum.inl e => Sum.inl e | Sum.inr (k, out') => allF f (120 :: 32 :: 61 :: 32 :: r) k [0] out' := by
 rw [allF_step, (hd_gap0 r).1, (hd_gap0 r).2, if_neg (by simp), if_neg (by simp), furS_outs insok_one]
 rfl
end
theorem all_end (f : Nat) (q : List UInt8) (out : List Tok) : allF (f + 1) q q.length [0] out = .inr out := by
 rw [allF_step, gapC_end' q, if_pos (Nat.le_refl _), furS_outs insok_one]
 show Sum.inr (out ++ []) = Sum.inr out
 rw [List.append_nil]
theorem brackets {s : List UInt8} (h10 : 10 ∉ s) (h35 : 35 ∉ s) (hx : (parseS (pre4 ++ s)).2.1 = 0) (hl : (parseS (pre4 ++ s)).1.length = 1) :
  parseS (pre5 ++ (s ++ [41])) = ((parseS (pre4 ++ s)).1, (0, 0)) ∨ (parseS (pre5 ++ (s ++ [41]))).2.1 = 2 := by
 obtain ⟨X, f, hX⟩ : ∃ X f, splitS (pre4 ++ s) = (X, f) := ⟨_, _, rfl⟩
 obtain ⟨hf, hP⟩ := parse_okE hX hx
 obtain ⟨_, _, hA⟩ := splitS_all0 hX hf
 have hn : (pre4 ++ s).length = s.length + 4 := by simp [pre4]
 have hg0 := gapC_le (s := s) (i := 0) (Nat.zero_le _)
 have eX : pre4 ++ s = 120 :: 32 :: 61 :: 32 :: s := rfl
 have gX : gapC (pre4 ++ s) 3 = 4 + gapC s 0 := by
  have h1 : gapE (pre4 ++ s) 3 = gapE (pre4 ++ s) 4 := stopAt_yes (p := (· == 32)) (s := pre4 ++ s) (i := 3) (by omega) rfl
  have h2 : gapC (pre4 ++ s) 3 = gapC (pre4 ++ s) 4 := by unfold gapC; rw [h1]
  rw [h2]
  exact gapC_sh (pre := pre4) (P := 4) rfl 0
 have hlX : lineF ((pre4 ++ s).length + 1) (pre4 ++ s) 0 0 [] = match lineF (s.length + 1) s (gapC s 0) 0 [] with | Sum.inl e => Sum.inl (shF 4 e) | Sum.inr (k, l) => Sum.inr (4 + k, [tX, tE] ++ l.map (shT 4)) := by
  rw [hn, show s.length + 4 + 1 = (s.length + 3) + 2 by omega, eX, hd_line, ← eX, gX]
  have h1 := lineF_out [tX, tE] (pre4 ++ s) (s.length + 3) (4 + gapC s 0) 0 []
  rw [List.append_nil] at h1
  have h2 := lineF_sh (pre := pre4) (s := s) (P := 4) rfl (s.length + 3) (s.length + 1) (gapC s 0) 0 [] hg0.2 (by omega) (by omega)
  rw [h1]
  have h2 : lineF (s.length + 3) (pre4 ++ s) (4 + gapC s 0) 0 [] = shL 4 (lineF (s.length + 1) s (gapC s 0) 0 []) := h2
  rw [h2]
  cases lineF (s.length + 1) s (gapC s 0) 0 [] with
  | inl e => rfl
  | inr q => rfl
 rw [hn] at hA
 rw [eX, hd_all, ← eX, hlX] at hA
 cases hL : lineF (s.length + 1) s (gapC s 0) 0 [] with
 | inl e => rw [hL] at hA; cases hA
 | inr q =>
  obtain ⟨k0, o0⟩ := q
  rw [hL] at hA
  obtain ⟨S, rfl, rfl, hB⟩ := lineB h10 h35 (s.length + 1) (s.length + 2) (gapC s 0) 0 [] k0 o0 hg0.2 (by omega) hL
  have hA : allF (s.length + 4) (pre4 ++ s) (4 + s.length) [0] ([tX, tE] ++ ([] ++ S ++ [tokLine s.length]).map (shT 4)) = .inr X := hA
  have hXe := all_end (s.length + 3) (pre4 ++ s) ([tX, tE] ++ ([] ++ S ++ [tokLine s.length]).map (shT 4))
  rw [hn] at hXe
  rw [show 4 + s.length = s.length + 4 by omega, show s.length + 4 = s.length + 3 + 1 by omega] at hA
  rw [show s.length + 4 = s.length + 3 + 1 by omega] at hXe
  rw [hXe] at hA
  have hXv := (Sum.inr.inj hA).symm
  have hm : (pre5 ++ (s ++ [41])).length = s.length + 6 := by simp [pre5]
  have eY : pre5 ++ (s ++ [41]) = 120 :: 32 :: 61 :: 32 :: (40 :: (s ++ [41])) := rfl
  have gY3 : gapC (pre5 ++ (s ++ [41])) 3 = 4 := by
   have h : gapE (pre5 ++ (s ++ [41])) 3 = 4 := rfl
   unfold gapC
   rw [h, if_neg (by simp [pre5])]
  have oY : oneS (pre5 ++ (s ++ [41])) 4 0 = .inr (tP, 5, 1) := by
   have h1 : (pre5 ++ (s ++ [41])).getD 4 0 = 40 := rfl
   have h2 : signAt (pre5 ++ (s ++ [41])) 4 = some [40] := rfl
   unfold oneS
   rw [h1, if_neg (by decide), if_neg (by decide), if_neg (by decide), h2]
   rfl
  have gY5 : gapC (pre5 ++ (s ++ [41])) 5 = 5 + gapC s 0 := by
   rw [← gapC_brk h35 (Nat.zero_le _)]
   exact gapC_sh (pre := pre5) (P := 5) rfl 0
  have hlY : lineF ((pre5 ++ (s ++ [41])).length + 1) (pre5 ++ (s ++ [41])) 0 0 [] = match lineF (s.length + 2) (s ++ [41]) (gapC s 0) 1 [] with | Sum.inl e => Sum.inl (shF 5 e) | Sum.inr (k, l) => Sum.inr (5 + k, [tX, tE, tP] ++ l.map (shT 5)) := by
   rw [hm, show s.length + 6 + 1 = (s.length + 5) + 2 by omega, eY, hd_line, ← eY, gY3]
   rw [show s.length + 5 = (s.length + 4) + 1 by omega, lineF, if_pos ⟨by omega, .inl (by simp [pre5])⟩, if_neg (by simp [pre5]), oY]
   simp only
   rw [gY5]
   have h1 := lineF_out [tX, tE, tP] (pre5 ++ (s ++ [41])) (s.length + 4) (5 + gapC s 0) 1 []
   rw [List.append_nil] at h1
   have h2 := lineF_sh (pre := pre5) (s := s ++ [41]) (P := 5) rfl (s.length + 4) (s.length + 2) (gapC s 0) 1 [] (by simp; omega) (by simp; omega) (by simp; omega)
   have h2 : lineF (s.length + 4) (pre5 ++ (s ++ [41])) (5 + gapC s 0) 1 [] = shL 5 (lineF (s.length + 2) (s ++ [41]) (gapC s 0) 1 []) := h2
   show lineF (s.length + 4) (pre5 ++ (s ++ [41])) (5 + gapC s 0) 1 [tX, tE, tP] = _
   rw [h1, h2]
   cases lineF (s.length + 2) (s ++ [41]) (gapC s 0) 1 [] with
   | inl e => rfl
   | inr q => rfl
  by_cases h6 : 6000 < (pre5 ++ (s ++ [41])).length
  ·right
   have : splitS (pre5 ++ (s ++ [41])) = ([], (2, 0)) := by unfold splitS; rw [if_pos h6]
   unfold parseS
   rw [this]; rfl
  ·rcases hB with hB | ⟨p, hB⟩
   ·have hB : lineF (s.length + 2) (s ++ [41]) (gapC s 0) 1 [] = .inr (s.length + 1, S ++ [⟨4, [41], 0, s.length⟩, tokLine (s.length + 1)]) := hB
    rw [hB] at hlY
    have hYs : splitS (pre5 ++ (s ++ [41])) = ([tX, tE, tP] ++ (S ++ [⟨4, [41], 0, s.length⟩, tokLine (s.length + 1)]).map (shT 5), (0, 0)) := by
     unfold splitS
     rw [if_neg h6, eY, hd_all, ← eY, hlY]
     have hYe := all_end (s.length + 5) (pre5 ++ (s ++ [41])) ([tX, tE, tP] ++ (S ++ [⟨4, [41], 0, s.length⟩, tokLine (s.length + 1)]).map (shT 5))
     rw [hm] at hYe
     rw [hm]
     simp only
     rw [show 5 + (s.length + 1) = s.length + 6 by omega]
     have hYe : allF (s.length + 6) (pre5 ++ (s ++ [41])) (s.length + 6) [0] ([tX, tE, tP] ++ (S ++ [⟨4, [41], 0, s.length⟩, tokLine (s.length + 1)]).map (shT 5)) = .inr ([tX, tE, tP] ++ (S ++ [⟨4, [41], 0, s.length⟩, tokLine (s.length + 1)]).map (shT 5)) := hYe
     rw [hYe]
    have hY2 : [tX, tE, tP] ++ (S ++ [⟨4, [41], 0, s.length⟩, tokLine (s.length + 1)]).map (shT 5) = tX :: tE :: tP :: (S.map (shT 5) ++ [shT 5 ⟨4, [41], 0, s.length⟩, shT 5 (tokLine (s.length + 1))]) := by simp
    have hX2 : X = tX :: tE :: (S.map (shT 4) ++ [shT 4 (tokLine s.length)]) := by rw [hXv]; simp
    rw [hX2] at hP
    rcases parse_br (tx := tX) (te := tE) (l1 := shT 4 (tokLine s.length)) (tx2 := tX) (te2 := tE) (tp := tP) (tc := shT 5 ⟨4, [41], 0, s.length⟩) (l2 := shT 5 (tokLine (s.length + 1))) (S1 := S.map (shT 4)) (S2 := S.map (shT 5)) rfl rfl rfl rfl rfl rfl rfl rfl rfl rfl rfl rfl rfl (by rw [bare_sh, bare_sh]) hP hl with h | ⟨u, h⟩
    ·left
     conv => lhs; unfold parseS
     rw [hYs]
     simp only
     rw [if_neg (by decide), hY2, h]
    ·right
     unfold parseS
     rw [hYs]
     simp only
     rw [if_neg (by decide), hY2, h]
   ·right
    have hB : lineF (s.length + 2) (s ++ [41]) (gapC s 0) 1 [] = .inl (2, p) := hB
    rw [hB] at hlY
    have hYs : splitS (pre5 ++ (s ++ [41])) = ([], shF 5 (2, p)) := by
     unfold splitS
     rw [if_neg h6, eY, hd_all, ← eY, hlY]
    unfold parseS
    rw [hYs]
    rfl
end Go.Proofs.YtonjhfeabphaaaaGreatDoor
end
section
set_option linter.unusedVariables false
set_option linter.unusedSimpArgs false
set_option maxRecDepth 20000
set_option maxHeartbeats 4000000
namespace Go.Proofs.YtonjhfeabphaaaaGreatDoor
open Go Go.Ab
theorem IsIn1_ok (c : UInt8) (s : List UInt8) (hs : s.length ≤ 1048576) : Calc cx 19 [.str [c], .str s] (.bool (s.contains c)) :=
 pure_intro (fun a w => Tryz.call19 a w) Tryz.func19 rfl Tryz.ntmps19 rfl .bool fun B => by
  refine pa [] rfl ?_ ?_
  ·(repeat' with_reducible apply AllP_cons) <;> first | exact aC | skip
  refine S_while (α := Nat) (fun i => [(0, .str [c]), (1, .str s), (5, .int .i64 (i : Nat))]) (fun _ => []) (fun i => i ≤ s.length ∧ c ∉ s.take i) (fun i => s.length - i) 0
   ⟨Nat.zero_le _, by simp⟩ (.cons rfl (.cons rfl (.cons rfl (.nil _)))) rfl ?_
  rintro i ⟨hi, hN⟩
  have hi : i ≤ s.length := hi
  have hw : IntKind.i64.wrap (((i : Nat) : Int) + ((1 : Nat) : Int)) = ((i + 1 : Nat) : Int) := by rw [IntWalk.i64_in _ ⟨by omega, by omega⟩]; omega
  by_cases hlt : i < s.length
  ·have e1 : decide (IntKind.i64.wrap (((i : Nat) : Int) + ((1 : Nat) : Int)) ≤ ((s.length : Nat) : Int)) = true := by rw [hw]; exact decide_eq_true (by omega)
   have hcut : (s.take (i + 1)).drop i = [s[i]] := by rw [List.drop_take, List.drop_eq_getElem_cons hlt, show i + 1 - i = 1 by omega]; rfl
   have hcl : cutL (some ((i : Nat) : Int)) (some ((i + 1 : Nat) : Int)) s = [s[i]] := hcut
   by_cases hc : s[i] = c
   ·refine pa [.b true, .b true] rfl ?_ ?_
    ·(repeat' with_reducible apply AllP_cons) <;> first | exact aC | skip
     ·show ((i : Nat) : Int) ≤ IntKind.i64.wrap (((i : Nat) : Int) + ((1 : Nat) : Int)); rw [hw]; omega
     ·show IntKind.i64.wrap (((i : Nat) : Int) + ((1 : Nat) : Int)) ≤ ((s.length : Nat) : Int); rw [hw]; omega
     ·show (cutL (some ((i : Nat) : Int)) (some (IntKind.i64.wrap (((i : Nat) : Int) + ((1 : Nat) : Int)))) s == [c]) = true
      rw [hw, hcl]; rw [hc]; simp
    refine S_retc .bool rfl trivial ?_
    rw [List.contains_iff_mem.2 (hc ▸ List.getElem_mem hlt)]
    rfl
   ·refine pa [.b true, .b false] rfl ?_ ?_
    ·(repeat' with_reducible apply AllP_cons) <;> first | exact aC | skip
     ·show ((i : Nat) : Int) ≤ IntKind.i64.wrap (((i : Nat) : Int) + ((1 : Nat) : Int)); rw [hw]; omega
     ·show IntKind.i64.wrap (((i : Nat) : Int) + ((1 : Nat) : Int)) ≤ ((s.length : Nat) : Int); rw [hw]; omega
     ·show (cutL (some ((i : Nat) : Int)) (some (IntKind.i64.wrap (((i : Nat) : Int) + ((1 : Nat) : Int)))) s == [c]) = false
      rw [hw, hcl]; simpa using hc
    refine S_round (i + 1) (by show s.length - (i + 1) < s.length - i; omega) ⟨hlt, fun h => ?_⟩ (.cons rfl (.cons rfl (.cons (ai64 rfl (by omega)) (.nil _)))) rfl
    rw [List.take_succ_eq_append_getElem hlt] at h
    rcases List.mem_append.1 h with h | h
    ·exact hN h
    ·rw [List.mem_singleton] at h; exact hc h.symm
  ·have e1 : decide (IntKind.i64.wrap (((i : Nat) : Int) + ((1 : Nat) : Int)) ≤ ((s.length : Nat) : Int)) = false := by rw [hw]; exact decide_eq_false (by omega)
   obtain rfl : i = s.length := by omega
   rw [List.take_length] at hN
   refine pa [.b false] rfl ?_ ?_
   ·(repeat' with_reducible apply AllP_cons) <;> first | exact aC | skip
   refine S_retc .bool rfl trivial ?_
   have : s.contains c = false := by
    cases h : s.contains c with
    | false => rfl
    | true => exact absurd (List.contains_iff_mem.1 h) hN
   rw [this]; rfl
theorem SyntaxBrackets_ok (s : List UInt8) (hs : s.length ≤ 1048576) : Calc cx 8 [.str s] (.bool true) :=
 pure_intro (fun a w => Tryz.call8 a w) Tryz.func8 rfl Tryz.ntmps8 rfl .bool fun B => by
  have h1 := Parse_ok (pre4 ++ s)
  have hb := @brackets s
  have i1 := IsIn1_ok 10 s hs
  have i2 := IsIn1_ok 35 s hs
  have hw := (parseS_w (pre4 ++ s)).1
  have h5 := SameStmts_same (st := true) (st' := true) (fl := false) (fl' := false) (pre4 ++ s)
  obtain ⟨l, e1, e2, hp⟩ : ∃ l e1 e2, parseS (pre4 ++ s) = (l, (e1, e2)) := ⟨_, _, _, rfl⟩
  rw [hp] at h1 hb h5 hw
  have hw : l.length ≤ 800000 := hw
  have h5 : Calc cx 13 [.sl true false 10 (stL l), .sl true false 10 (stL l)] (.bool true) := h5
  have hb : 10 ∉ s → 35 ∉ s → e1 = 0 → l.length = 1 → parseS (pre5 ++ (s ++ [41])) = (l, (0, 0)) ∨ (parseS (pre5 ++ (s ++ [41]))).2.1 = 2 := hb
  refine pa [.v (.bool true), .b false, .v (parseAV (l, (e1, e2)))] rfl ?_ ?_
  ·(repeat' with_reducible apply AllP_cons) <;> first | exact aC | skip
   ·exact begun_ex
   ·exact ⟨_, h1, .cons (.refl .str) (.nil _)⟩
  by_cases c1 : e1 = 0
  ·subst c1
   by_cases c2 : l.length = 1
   ·have e2 : ((((stL l).length : Nat) : Int) != 1) = false := by rw [stL_len, c2]; rfl
    cases hb10 : s.contains 10 with
    | true =>
     rw [hb10] at i1
     refine pa [.b false, .b false, .v (.bool true), .b true, .b true] rfl ?_ ?_
     ·(repeat' with_reducible apply AllP_cons) <;> first | exact aC | skip
      ·exact nl_byte
      ·exact ⟨_, i1, .cons (.refl .str) (.cons (.refl .str) (.nil _))⟩
     exact S_retc .bool rfl trivial rfl
    | false =>
     rw [hb10] at i1
     cases hb35 : s.contains 35 with
     | true =>
      rw [hb35] at i2
      refine pa [.b false, .b false, .v (.bool false), .b false, .v (.bool true), .b true] rfl ?_ ?_
      ·(repeat' with_reducible apply AllP_cons) <;> first | exact aC | skip
       ·exact nl_byte
       ·exact ⟨_, i1, .cons (.refl .str) (.cons (.refl .str) (.nil _))⟩
       ·exact ⟨_, i2, .cons (.refl .str) (.cons (.refl .str) (.nil _))⟩
      exact S_retc .bool rfl trivial rfl
     | false =>
      rw [hb35] at i2
      have hb := hb (fun h => by rw [List.contains_iff_mem.2 h] at hb10; cases hb10) (fun h => by rw [List.contains_iff_mem.2 h] at hb35; cases hb35) rfl c2
      rw [← List.append_assoc] at hb
      have h3 := Parse_ok (pre5 ++ s ++ [41])
      rcases hb with hb | hb
      ·rw [hb] at h3
       refine pa [.b false, .b false, .v (.bool false), .b false, .v (.bool false), .b false, .v (parseAV (l, (0, 0))), .b false, .v (.bool true)] rfl ?_ ?_
       ·(repeat' with_reducible apply AllP_cons) <;> first | exact aC | skip
        ·exact nl_byte
        ·exact ⟨_, i1, .cons (.refl .str) (.cons (.refl .str) (.nil _))⟩
        ·exact ⟨_, i2, .cons (.refl .str) (.cons (.refl .str) (.nil _))⟩
        ·show (((pre5 ++ s).length + 1 : Nat) : Int) ≤ 9223372036854775807; rw [List.length_append]; show ((5 + s.length + 1 : Nat) : Int) ≤ _; omega
        ·exact ⟨_, h3, .cons (.refl .str) (.nil _)⟩
        ·exact ⟨_, h5, .cons (.refl (.sl (fun h => by cases h) (stL_free l))) (.cons (.refl (.sl (fun h => by cases h) (stL_free l))) (.nil _))⟩
       exact S_retc .bool rfl trivial rfl
      ·obtain ⟨m, g1, g2, hq⟩ : ∃ m g1 g2, parseS (pre5 ++ s ++ [41]) = (m, (g1, g2)) := ⟨_, _, _, rfl⟩
       rw [hq] at h3 hb
       have hb : g1 = 2 := hb
       subst hb
       refine pa [.b false, .b false, .v (.bool false), .b false, .v (.bool false), .b false, .v (parseAV (m, (2, g2))), .b true] rfl ?_ ?_
       ·(repeat' with_reducible apply AllP_cons) <;> first | exact aC | skip
        ·exact nl_byte
        ·exact ⟨_, i1, .cons (.refl .str) (.cons (.refl .str) (.nil _))⟩
        ·exact ⟨_, i2, .cons (.refl .str) (.cons (.refl .str) (.nil _))⟩
        ·show (((pre5 ++ s).length + 1 : Nat) : Int) ≤ 9223372036854775807; rw [List.length_append]; show ((5 + s.length + 1 : Nat) : Int) ≤ _; omega
        ·exact ⟨_, h3, .cons (.refl .str) (.nil _)⟩
       exact S_retc .bool rfl trivial rfl
   ·have e2 : ((((stL l).length : Nat) : Int) != 1) = true := by rw [stL_len]; exact bne_iff_ne.2 (by omega)
    refine pa [.b false, .b true, .b true, .b true] rfl ?_ ?_
    ·(repeat' with_reducible apply AllP_cons) <;> first | exact aC | skip
    exact S_retc .bool rfl trivial rfl
  ·have e0 : (((e1 : Nat) : Int) != 0) = true := bne_iff_ne.2 (by omega)
   refine pa [.b true, .b true, .b true, .b true] rfl ?_ ?_
   ·(repeat' with_reducible apply AllP_cons) <;> first | exact aC | skip
   exact S_retc .bool rfl trivial rfl
end Go.Proofs.YtonjhfeabphaaaaGreatDoor
end
