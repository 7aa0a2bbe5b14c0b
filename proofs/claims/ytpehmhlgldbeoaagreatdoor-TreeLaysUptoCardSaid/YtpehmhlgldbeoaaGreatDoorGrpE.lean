/-
  Texts of our own, in one file.
-/
import Derived.Test.YtpehmhlgldbeoaaGreatDoorGrpD
import Derived.WideShapes
import Derived.Shelf.Spec.SlicesGrow
import Derived.Shelf.SlSortCmp.WholeK
import Derived.WalkKit
import Derived.Lib.Walk
section
set_option linter.unusedVariables false
set_option linter.unusedSimpArgs false
set_option maxRecDepth 20000
set_option maxHeartbeats 4000000
namespace Go.Proofs.YtpehmhlgldbeoaaGreatDoor
open Go Go.Ab
def ksB (l : List (List UInt8)) : List (List UInt8) := l.foldl (fun ks s => addU ks (sha s)) []
def txB (l : List (List UInt8)) (d : List UInt8) : List UInt8 := (l.reverse.find? (fun s => sha s == d)).getD []
def flatY (root : List UInt8) (blobs : List (List UInt8)) : List Fil × Nat := flatD (getM (ksB blobs) (txB blobs)) 102 root [] []
def flatT (S : List Fil → List Fil) (root : List UInt8) (blobs : List (List UInt8)) : List Fil × Nat :=
  if 2000 < blobs.length ∨ longT blobs = true then ([], 2) else if isDig root = true then (if (flatY root blobs).2 = 0 then (S (flatY root blobs).1, 0) else ([], (flatY root blobs).2)) else ([], 1)
def flatAV (y : List Fil × Nat) : AV := .tup [if y.2 = 0 then .sl true false 3 (fils y.1) else .nils, .int .i64 (y.2 : Nat)]
theorem flatAV_free (y : List Fil × Nat) : Free true (flatAV y) := .tup (by
  intro x hx; simp at hx
  rcases hx with rfl | rfl
  · split
    · exact .sl (fun _ => rfl) (fils_free _)
    · exact .nils
  · exact .int)
theorem ksB_mem {l : List (List UInt8)} {d : List UInt8} : d ∈ ksB l ↔ ∃ s ∈ l, sha s = d := by
  unfold ksB; rw [addU_fold_mem]; simp
theorem ksB_step {l : List (List UInt8)} {i : Nat} (h : i < l.length) : ksB (l.take (i + 1)) = addU (ksB (l.take i)) (sha l[i]) := by
  unfold ksB; rw [List.take_succ_eq_append_getElem h, List.foldl_append]; rfl
theorem txB_step {l : List (List UInt8)} {i : Nat} (h : i < l.length) (d : List UInt8) : txB (l.take (i + 1)) d = if d = sha l[i] then l[i] else txB (l.take i) d := by
  unfold txB
  rw [List.take_succ_eq_append_getElem h, List.reverse_append]
  show ((l[i] :: (l.take i).reverse).find? _).getD [] = _
  rw [List.find?_cons]
  by_cases e : d = sha l[i]
  · rw [if_pos e, show (sha l[i] == d) = true by simp [e]]; rfl
  · rw [if_neg e, show (sha l[i] == d) = false by simpa using Ne.symm e]
theorem txB_len {l : List (List UInt8)} (h : longT l = false) (d : List UInt8) : (txB l d).length ≤ 1000000 := by
  unfold txB
  cases hf : l.reverse.find? (fun s => sha s == d) with
  | none => exact Nat.zero_le _
  | some s =>
    have hm := List.mem_of_find?_eq_some hf
    unfold longT at h
    rw [List.any_eq_false] at h
    have := h s (by simpa using hm)
    simp at this
    show s.length ≤ _; omega
theorem mapB_step {l : List (List UInt8)} {i : Nat} (h : i < l.length) :
    mapBx (addK (ksB (l.take i)) (sha l[i])) (updF (fun d => .str (txB (l.take i) d)) (sha l[i]) (.str l[i])) = mapBx (ksB (l.take (i + 1))) fun d => .str (txB (l.take (i + 1)) d) := by
  unfold mapBx
  rw [ksB_step h]
  show some (Box.map (mapF (addU _ _) _) none) = some (Box.map (mapF (addU _ _) _) none)
  congr 2
  refine mapF_congr fun n _ => ?_
  unfold updF
  rw [txB_step h]
  split <;> rfl
theorem Flat_gen {st fl : Bool} (S : List Fil → List Fil) (root : List UInt8) (blobs : List (List UInt8)) (hr : root.length ≤ 9223372036854775807) (hbl : blobs.length ≤ 1000000000000) (hS0 : ∀ out, (S out).length = out.length)
    (hsort : (flatY root blobs).2 = 0 → CallOk cx 49 [.ms 2 (0 + (flatY root blobs).1.length) 0 (flatY root blobs).1.length 3 false, .func (.func 50) [] []] (hpF (ksB blobs) (txB blobs) 0 (flatY root blobs).1) (fun o s => o = .ret (.tup []) ∧ s = hpF (ksB blobs) (txB blobs) 0 (S (flatY root blobs).1))) :
    Calc cx 18 [.str root, .sl st fl 1 (texts blobs)] (flatAV (flatT S root blobs)) :=
  pure_intro (fun a w => Tryz.call18 a w) Tryz.func18 rfl Tryz.ntmps18 rfl (flatAV_free _) fun B => by
    have htl : (texts blobs).length = blobs.length := by simp [texts]
    have hI := ContainsFuncS_ok (st := st) (fl := fl) blobs hbl
    have hD := digestIs_ok root hr
    unfold flatT
    have rt : ∀ e : Nat, e ≠ 0 → flatAV ([], e) = .tup [.nils, .int .i64 (e : Nat)] := fun e he => by unfold flatAV; rw [if_neg he]
    have rf : ∀ e : Int, Free true (.tup [.nils, .int .i64 e]) := fun e => .tup (by intro x hx; simp at hx; rcases hx with rfl | rfl; exact .nils; exact .int)
    by_cases hmany : 2000 < blobs.length
    · rw [if_pos (.inl hmany), rt 2 (by decide)]
      have e1 : decide ((((texts blobs).length : Nat) : Int) > 2000) = true := decide_eq_true (by omega)
      refine pB [.b true, .b true] rfl ?_
      exact S_retc (rf _) rfl trivial rfl
    have e1 : decide ((((texts blobs).length : Nat) : Int) > 2000) = false := decide_eq_false (by omega)
    cases hlg : longT blobs with
    | true =>
      rw [hlg] at hI
      rw [if_pos (.inr rfl), rt 2 (by decide)]
      refine pa [.b false, .v (.bool true), .b true] rfl ?_ ?_
      · (repeat' with_reducible apply AllP_cons) <;> try exact aC
        · exact ⟨_, hI, .cons (.refl (.sl (fun h => by cases h) (texts_any _))) (.cons (.refl (.func (fun x h => by cases h) (fun x h => by cases h))) (.nil _))⟩
      exact S_retc (rf _) rfl trivial rfl
    | false =>
      rw [hlg] at hI
      rw [if_neg (by simp; omega)]
      cases hdg : isDig root with
      | false =>
        rw [hdg] at hD
        rw [if_neg (by simp), rt 1 (by decide)]
        refine pa [.b false, .v (.bool false), .b false, .v (.bool false), .b true] rfl ?_ ?_
        · (repeat' with_reducible apply AllP_cons) <;> try exact aC
          · exact ⟨_, hI, .cons (.refl (.sl (fun h => by cases h) (texts_any _))) (.cons (.refl (.func (fun x h => by cases h) (fun x h => by cases h))) (.nil _))⟩
          · exact ⟨_, hD, .cons (.refl .str) (.nil _)⟩
        exact S_retc (rf _) rfl trivial rfl
      | true =>
        rw [hdg] at hD
        rw [if_pos rfl]
        refine pa [.b false, .v (.bool false), .b false, .v (.bool true), .b false, .f (.map 0 0) (fun _ => [(0, some (.map [] (some ([], 0))))])] rfl ?_ ?_
        · (repeat' with_reducible apply AllP_cons) <;> try exact aC
          · exact ⟨_, hI, .cons (.refl (.sl (fun h => by cases h) (texts_any _))) (.cons (.refl (.func (fun x h => by cases h) (fun x h => by cases h))) (.nil _))⟩
          · exact ⟨_, hD, .cons (.refl .str) (.nil _)⟩
          · exact OpSpec.mapN (C := []) rfl trivial
        refine S_unstamp (id := 0) rfl ?_ ⟨_, _, .inl rfl⟩
        refine S_ghost 3 ⟨false, none⟩ (id := 1) (j := 1) rfl rfl rfl (show (1 : Nat) ≠ 2 by decide) ⟨_, _, .inl rfl⟩ ?_
        refine S_while (α := Nat) (fun i => [(0, .str root), (6, .ptr 1 0 0), (23, .sl st fl 1 (texts blobs)), (24, .int .i64 (((texts blobs).length : Nat) : Int)), (25, .int .i64 (i : Nat))]) (fun i => hpT (ksB (blobs.take i)) (txB (blobs.take i)) 0 [] []) (fun i => i ≤ blobs.length) (fun i => blobs.length - i) 0
          (Nat.zero_le _) (.cons rfl (.cons rfl (.cons rfl (.cons rfl (.cons rfl (.nil _)))))) rfl ?_
        intro i hi
        have hi : i ≤ blobs.length := hi
        by_cases hlt : i < blobs.length
        · have e2 : decide ((i : Int) < (((texts blobs).length : Nat) : Int)) = true := decide_eq_true (by omega)
          have g1 : (texts blobs)[(i : Int).toNat]? = some (.str blobs[i]) := by rw [Int.toNat_natCast]; simp [texts, List.getElem?_eq_getElem hlt]
          have hbz : blobs[i].length ≤ 100000 := by
            unfold longT at hlg
            rw [List.any_eq_false] at hlg
            have := hlg _ (List.getElem_mem hlt)
            simpa using this
          have hS := Sum_ok blobs[i] (by omega)
          refine pa [.b true, .v (.str blobs[i]), .v (.str (sha blobs[i])), .f (.tup []) (fun σ => (0, mapBx (addK (ksB (blobs.take i)) (sha blobs[i])) (updF (fun d => .str (txB (blobs.take i) d)) (sha blobs[i]) (.str blobs[i]))) :: σ.tail), .s] rfl ?_ ?_
          · (repeat' with_reducible apply AllP_cons) <;> try exact aC
            · exact ⟨_, hS, .cons (.refl .str) (.nil _)⟩
            · exact OpSpec.mput (kt := 9) (et := 9) (ks := ksB (blobs.take i)) (val := fun d => .str (txB (blobs.take i) d)) (s := sha blobs[i]) rfl (Tryz.underlying59) rfl rfl rfl rfl rfl (addU_fold_nodup sha _ [] .nil) rfl
          refine S_heap (hpT (ksB (blobs.take (i + 1))) (txB (blobs.take (i + 1))) 0 [] []) ?_ ?_
          · rw [mapB_step hlt]; rfl
          refine pB [] rfl ?_
          exact S_round (i + 1) (by show blobs.length - (i + 1) < blobs.length - i; omega) hlt (.cons rfl (.cons rfl (.cons rfl (.cons rfl (.cons (nX (by omega)) (.nil _)))))) rfl
        · have hil : i = blobs.length := by omega
          subst hil
          have e2 : decide ((blobs.length : Int) < (((texts blobs).length : Nat) : Int)) = false := decide_eq_false (by omega)
          rw [List.take_length]
          have hdir := dir_ok (ksB blobs) (txB blobs) (fun d _ => txB_len hlg d) 0 102 root [] [] (by decide) (by decide) (by decide)
          have hfl := flatD_len (getM (ksB blobs) (txB blobs)) 102 root [] [] (by decide)
          change CallOk _ _ _ _ (fun o s => o = .ret (.int .i64 ((flatY root blobs).2 : Nat)) ∧ s = hpF (ksB blobs) (txB blobs) 0 (flatY root blobs).1) at hdir
          change (flatY root blobs).1.length ≤ 60 ∧ _ at hfl
          generalize flatY root blobs = y at *
          obtain ⟨out, e⟩ := y
          by_cases he : e = 0
          · subst he
            rw [if_pos rfl]
            have hso := hsort rfl
            have hSl := hS0 out
            have hcl := cels_len (S out)
            simp only at hso hdir hfl
            refine pB [.b false, .f (.int .i64 ((0 : Nat) : Int)) (fun _ => hpT (ksB blobs) (txB blobs) 0 out []), .b false, .f (.tup []) (fun _ => hpT (ksB blobs) (txB blobs) 0 (S out) [])] rfl ?_
            refine S_ret ⟨_, _, rfl, trivial, _, rfl, ?_⟩
            show Frz true _ (.tup [.ms 2 (0 + (S out).length) 0 (S out).length 3 false, .int .i64 0]) (.tup [.sl true false 3 (fils (S out)), .int .i64 0])
            exact Fzs.tup (.cons (.ms rfl (by show 0 + (S out).length * 3 ≤ (celsF (S out)).length; omega) (by rw [List.drop_zero]; exact List.take_of_length_le (by omega)) (fil_size _) (fils_len _) (fils_free _)) (.cons (.refl .int) .nil))
          · rw [if_neg he, rt e he]
            refine pa [.b false, .f (.int .i64 (e : Nat)) (fun _ => hpT (ksB blobs) (txB blobs) 0 out []), .b true] rfl ?_ ?_
            · (repeat' with_reducible apply AllP_cons) <;> try exact aC
              · show ((((e : Int)) != 0) = true)
                rw [chk_bne]; simpa using he
            exact S_retc (rf _) rfl trivial rfl
end Go.Proofs.YtpehmhlgldbeoaaGreatDoor
end
section
set_option linter.unusedVariables false
set_option linter.unusedSimpArgs false
set_option maxRecDepth 20000
set_option maxHeartbeats 4000000
namespace Go.Proofs.YtpehmhlgldbeoaaGreatDoor
open Go Go.Ab
def h1T : List UInt8 := [50, 100, 55, 49, 49, 54, 52, 50, 98, 55, 50, 54, 98, 48, 52, 52, 48, 49, 54, 50, 55, 99, 97, 57, 102, 98, 97, 99, 51, 50, 102, 53, 99, 56, 53, 51, 48, 102, 98, 49, 57, 48, 51, 99, 99, 52, 100, 98, 48, 50, 50, 53, 56, 55, 49, 55, 57, 50, 49, 97, 52, 56, 56, 49]
def t1T : List UInt8 := [1, 1, 98, 1, 64, 50, 100, 55, 49, 49, 54, 52, 50, 98, 55, 50, 54, 98, 48, 52, 52, 48, 49, 54, 50, 55, 99, 97, 57, 102, 98, 97, 99, 51, 50, 102, 53, 99, 56, 53, 51, 48, 102, 98, 49, 57, 48, 51, 99, 99, 52, 100, 98, 48, 50, 50, 53, 56, 55, 49, 55, 57, 50, 49, 97, 52, 56, 56, 49]
def h2T : List UInt8 := [100, 56, 98, 99, 99, 98, 53, 99, 97, 99, 48, 101, 52, 50, 49, 101, 97, 52, 101, 49, 55, 99, 50, 49, 50, 49, 102, 51, 56, 55, 52, 51, 48, 57, 102, 98, 51, 101, 51, 100, 48, 50, 48, 53, 52, 97, 48, 54, 48, 101, 102, 50, 101, 48, 48, 49, 99, 56, 53, 97, 53, 99, 48, 99]
def t2T : List UInt8 := [1, 1, 97, 3, 64, 100, 56, 98, 99, 99, 98, 53, 99, 97, 99, 48, 101, 52, 50, 49, 101, 97, 52, 101, 49, 55, 99, 50, 49, 50, 49, 102, 51, 56, 55, 52, 51, 48, 57, 102, 98, 51, 101, 51, 100, 48, 50, 48, 53, 52, 97, 48, 54, 48, 101, 102, 50, 101, 48, 48, 49, 99, 56, 53, 97, 53, 99, 48, 99]
def h3T : List UInt8 := [48, 54, 55, 52, 52, 101, 54, 57, 101, 102, 98, 53, 56, 53, 102, 48, 50, 54, 48, 51, 98, 101, 52, 48, 57, 102, 56, 98, 101, 55, 51, 100, 50, 54, 51, 53, 50, 55, 56, 51, 50, 102, 55, 52, 54, 55, 50, 97, 51, 55, 57, 98, 53, 101, 52, 101, 55, 101, 102, 49, 50, 50, 99, 98]
def l0T : List Fil := [⟨[97, 47, 98], [120], false⟩]
theorem sha1T : sha [120] = h1T := by decide +kernel
theorem sha2T : sha t1T = h2T := by decide +kernel
theorem sha3T : sha t2T = h3T := by decide +kernel
theorem pk1T : packNs [⟨[98], 1, h1T⟩] = t1T := by decide +kernel
theorem pk2T : packNs [⟨[97], 3, h2T⟩] = t2T := by decide +kernel
theorem rd1T : readNd t1T = ([⟨[98], 1, h1T⟩], 0) := by kernel_rfl
theorem rd2T : readNd t2T = ([⟨[97], 3, h2T⟩], 0) := by kernel_rfl
theorem chk0T : chkT l0T = 0 := by decide +kernel
theorem sort_one (n : List UInt8) : sortT [n] = [n] := by unfold sortT; rw [List.mergeSort_singleton]
theorem dir0T : dirT 101 l0T = (t2T, [[120], t1T]) := by
  have a1 : nmsT l0T = [[97]] := by decide +kernel
  have a2 : grT l0T [97] = [⟨[98], [120], false⟩] := by decide +kernel
  have a3 : nmsT [⟨[98], [120], false⟩] = [[98]] := by decide +kernel
  have a4 : grT [⟨[98], [120], false⟩] [98] = [⟨[], [120], false⟩] := by decide +kernel
  have e1 : dirT 100 [⟨[98], [120], false⟩] = (t1T, [[120]]) := by
    rw [dirT, a3, sort_one]
    unfold nodsT blbsT
    simp only [List.map_cons, List.map_nil, List.flatMap_cons, List.flatMap_nil, List.append_nil, a4, entT, if_pos, sha1T]
    exact Prod.ext pk1T rfl
  rw [dirT, a1, sort_one]
  unfold nodsT blbsT
  simp only [List.map_cons, List.map_nil, List.flatMap_cons, List.flatMap_nil, List.append_nil, a2, entT, e1]
  rw [if_neg (by decide), sha2T]
  exact Prod.ext pk2T rfl
theorem root0T : rootT l0T = h3T := by unfold rootT; rw [dir0T]; exact sha3T
theorem blob0T : blobT l0T = [t2T, t1T, [120]] := by
  unfold blobT
  rw [dir0T]
  have : addU ([[120], t1T].foldl addU []) t2T = [[120], t1T, t2T] := by decide +kernel
  show sortT (addU ([[120], t1T].foldl addU []) t2T) = _
  rw [this]
  refine perm_sorted ((sortT_perm _).trans ?_) (sortT_pw _) ?_
  · exact (List.reverse_perm [[120], t1T, t2T]).symm
  · decide +kernel
theorem ks0T : ksB [t2T, t1T, [120]] = [h3T, h2T, h1T] := by
  unfold ksB
  simp only [List.foldl_cons, List.foldl_nil, sha1T, sha2T, sha3T]
  decide +kernel
theorem tx3T : txB [t2T, t1T, [120]] h3T = t2T := by
  have b1 : (h1T == h3T) = false := by decide +kernel
  have b2 : (h2T == h3T) = false := by decide +kernel
  have b3 : (h3T == h3T) = true := by decide +kernel
  unfold txB
  simp only [List.reverse_cons, List.reverse_nil, List.nil_append, List.cons_append, List.find?_cons, sha1T, sha2T, sha3T, b1, b2, b3]
  rfl
theorem tx2T : txB [t2T, t1T, [120]] h2T = t1T := by
  have b1 : (h1T == h2T) = false := by decide +kernel
  have b2 : (h2T == h2T) = true := by decide +kernel
  unfold txB
  simp only [List.reverse_cons, List.reverse_nil, List.nil_append, List.cons_append, List.find?_cons, sha1T, sha2T, sha3T, b1, b2]
  rfl
theorem tx1T : txB [t2T, t1T, [120]] h1T = [120] := by
  have b1 : (h1T == h1T) = true := by decide +kernel
  unfold txB
  simp only [List.reverse_cons, List.reverse_nil, List.nil_append, List.cons_append, List.find?_cons, sha1T, b1]
  rfl
theorem flat0T : flatY h3T [t2T, t1T, [120]] = (l0T, 0) := by
  have g3 : getM (ksB [t2T, t1T, [120]]) (txB [t2T, t1T, [120]]) h3T = some t2T := by unfold getM; rw [ks0T, if_pos (by simp), tx3T]
  have g2 : getM (ksB [t2T, t1T, [120]]) (txB [t2T, t1T, [120]]) h2T = some t1T := by unfold getM; rw [ks0T, if_pos (by simp), tx2T]
  have g1 : getM (ksB [t2T, t1T, [120]]) (txB [t2T, t1T, [120]]) h1T = some [120] := by unfold getM; rw [ks0T, if_pos (by simp), tx1T]
  unfold flatY
  generalize getM (ksB [t2T, t1T, [120]]) (txB [t2T, t1T, [120]]) = get at *
  have e1 : flatD get 101 h2T [97, 47] [] = (l0T, 0) := by
    rw [flatD, g2]
    simp only [rd1T]
    rw [if_neg (by decide), if_neg (by simp), flatN]
    rw [if_neg (by decide), if_neg (by decide)]
    simp only [g1]
    rw [if_neg (by decide), flatN]; rfl
  rw [flatD, g3]
  simp only [rd2T]
  rw [if_neg (by decide), if_neg (by simp), flatN]
  rw [if_neg (by decide), if_pos rfl]
  show (if (flatD get 101 h2T [97, 47] []).2 = 0 then _ else _) = _
  rw [e1, if_pos rfl, flatN]
  show ((flatD get 101 h2T [97, 47] []).1, 0) = _
  rw [e1]
theorem treeBegun_ok : Calc cx 15 [] (.bool true) :=
  pure_intro (fun a w => Tryz.call15 a w) Tryz.func15 rfl Tryz.ntmps15 rfl .bool fun B => by
    have hl0 : FilsOk l0T := ⟨by decide, by intro f hf; simp [l0T] at hf; subst hf; decide, by intro f hf; simp [l0T] at hf; subst hf; decide⟩
    have hB := Blobs_ok (st := true) (fl := true) l0T hl0
    have hR := Root_ok (st := true) (fl := true) l0T hl0
    have hF := Flat_gen (st := true) (fl := false) id h3T [t2T, t1T, [120]] (by decide) (by decide) (fun _ => rfl) (fun _ => by
      rw [flat0T]
      exact Sort1_ok (ksB [t2T, t1T, [120]]) (txB [t2T, t1T, [120]]) 0 ⟨[97, 47, 98], [120], false⟩)
    have hS := SameFiles_ok (st := true) (st' := true) (fl := true) (fl' := false) l0T l0T (by decide) (by decide)
    rw [decide_eq_true rfl] at hS
    unfold blobAV at hB
    unfold rootAV at hR
    rw [chk0T, if_pos rfl, blob0T] at hB
    rw [chk0T, if_pos rfl, root0T] at hR
    have hft : flatT id h3T [t2T, t1T, [120]] = (l0T, 0) := by
      unfold flatT
      rw [if_neg (by decide +kernel), if_pos (by decide +kernel), flat0T, if_pos rfl]; rfl
    rw [hft] at hF
    refine pa [.v (.tup [.sl true false 1 (texts [t2T, t1T, [120]]), .int .i64 ((0 : Nat) : Int)]), .v (.tup [.str h3T, .int .i64 ((0 : Nat) : Int)]), .v (.tup [.sl true false 3 (fils l0T), .int .i64 ((0 : Nat) : Int)]), .b true, .b true, .b true, .v (.bool true)] rfl ?_ ?_
    · (repeat' with_reducible apply AllP_cons) <;> try exact aC
      · exact ⟨_, hB, .cons (.refl (.sl (fun _ => rfl) (fils_free l0T))) (.nil _)⟩
      · exact ⟨_, hR, .cons (.refl (.sl (fun _ => rfl) (fils_free l0T))) (.nil _)⟩
      · exact ⟨_, hF, .cons (.refl .str) (.cons (.refl (.sl (fun _ => rfl) (texts_any _))) (.nil _))⟩
      · exact ⟨_, hS, .cons (.refl (.sl (fun _ => rfl) (fils_free l0T))) (.cons (.refl (.sl (fun _ => rfl) (fils_free l0T))) (.nil _))⟩
    exact S_retc .bool rfl trivial rfl
end Go.Proofs.YtpehmhlgldbeoaaGreatDoor
end
section
set_option linter.unusedVariables false
set_option linter.unusedSimpArgs false
namespace Go.Ab
open Go Go.WideShapes
def laidB (P : Program) : List Field → Nat → Option Nat
  | [], o => some o
  | f :: r, o => match Nat.beq f.offset o with
    | true => laidB P r (o + P.cellsOf f.type)
    | false => none
mutual
def plainB (P : Program) : Nat → TypeId → Bool
  | 0, _ => false
  | n + 1, t => match P.underlying t with
    | some .bool => Nat.beq (P.cellsOf t) 1
    | some (.int _) => Nat.beq (P.cellsOf t) 1
    | some .string => Nat.beq (P.cellsOf t) 1
    | some (.slice e) => match Nat.beq (P.cellsOf t) 1, Nat.beq (P.cellsOf e) 0 with
      | true, false => plainB P n e
      | _, _ => false
    | some (.struct fs) => match laidB P fs.toList 0 with
      | some m => match Nat.beq (P.cellsOf t) m with
        | true => plainAll P n fs.toList
        | false => false
      | none => false
    | _ => false
def plainAll (P : Program) : Nat → List Field → Bool
  | 0, _ => false
  | n + 1, fs => match fs with
    | [] => true
    | f :: r => match plainB P n f.type with
      | true => plainAll P n r
      | false => false
end
inductive RdD (P : Program) {H : Type} : TypeId → DataW H → AV → Prop
  | bool {t b} (ht : P.underlying t = some .bool) : RdD P t (.lit (.bool b)) (.bool b)
  | int {t k n} (ht : P.underlying t = some (.int k)) (hw : (Lit.int k n).wf = true) : RdD P t (.lit (.int k n)) (.int k n)
  | str {t s} (ht : P.underlying t = some .string) (hs : s.length ≤ maxLen) : RdD P t (.lit (.string s)) (.str s)
  | nils {t e} (ht : P.underlying t = some (.slice e)) : RdD P t .nil (.sl true false (P.cellsOf e) [])
  | sl {t e} {ds rest : List (DataW H)} {xs : List AV} (ht : P.underlying t = some (.slice e)) (hl : xs.length = ds.length) (hm : xs.length ≤ maxLen) (h : ∀ i (h1 : i < ds.length) (h2 : i < xs.length), RdD P e ds[i] xs[i]) : RdD P t (.slice ds rest) (.sl true false (P.cellsOf e) xs)
  | st {t} {fs : Array Field} {ds : List (DataW H)} {xs : List AV} (ht : P.underlying t = some (.struct fs)) (hd : ds.length = fs.size) (hx : xs.length = fs.size) (h : ∀ i (h1 : i < ds.length) (h2 : i < xs.length) (h3 : i < fs.size), RdD P fs[i].type ds[i] xs[i]) : RdD P t (.agg ds) (.agg (xs.flatMap AV.cells))
def CellsV (w : World) (cs : List Value) (az : List AV) : Prop := cs.length = az.length ∧ ∀ i (h1 : i < cs.length) (h2 : i < az.length), VRel (Rl.old w) w cs[i] az[i]
theorem CellsV.one {w : World} {v : Value} {a : AV} (h : VRel (Rl.old w) w v a) : CellsV w [v] [a] := by
  refine ⟨rfl, fun i h1 h2 => ?_⟩
  obtain rfl : i = 0 := by simpa using h1
  exact h
theorem laidB_flat {P : Program} : ∀ (fs : List Field) (o m : Nat) (w : World) (cs : List Value) (xs : List AV), laidB P fs o = some m → xs.length = fs.length → (∀ i (h1 : i < fs.length) (h2 : i < xs.length), CellsV w ((cs.drop fs[i].offset).take (P.cellsOf fs[i].type)) xs[i].cells ∧ xs[i].cells.length = P.cellsOf fs[i].type) →
    cs.length = m → o ≤ m ∧ CellsV w (cs.drop o) (xs.flatMap AV.cells)
  | [], o, m, w, cs, xs, h, hl, hc, hm => by
    simp only [laidB, Option.some.injEq] at h
    obtain rfl : xs = [] := List.eq_nil_of_length_eq_zero hl
    subst h
    refine ⟨Nat.le_refl _, ?_⟩
    rw [List.drop_of_length_le (by omega)]
    exact ⟨rfl, fun i h => absurd h (by simp)⟩
  | f :: r, o, m, w, cs, xs, h, hl, hc, hm => by
    rw [laidB] at h
    split at h
    case h_2 => cases h
    rename_i hb
    have ho := Nat.eq_of_beq_eq_true hb
    obtain ⟨x, xs, rfl⟩ : ∃ x xs', xs = x :: xs' := by
      cases xs with
      | nil => simp at hl
      | cons x xs => exact ⟨x, xs, rfl⟩
    have h0 := hc 0 (by simp) (by simp)
    simp only [List.getElem_cons_zero] at h0
    obtain ⟨h1, h2⟩ := laidB_flat r (o + P.cellsOf f.type) m w cs xs h (by simpa using hl) (fun i k1 k2 => hc (i + 1) (Nat.succ_lt_succ k1) (Nat.succ_lt_succ k2)) hm
    refine ⟨by omega, ?_⟩
    obtain ⟨⟨e1, e2⟩, e3⟩ := h0
    rw [ho] at e1 e2
    rw [List.flatMap_cons]
    have hsplit : cs.drop o = (cs.drop o).take (P.cellsOf f.type) ++ cs.drop (o + P.cellsOf f.type) := by
      rw [← List.drop_drop, List.take_append_drop]
    rw [hsplit]
    refine ⟨by rw [List.length_append, List.length_append, e1, h2.1], fun i k1 k2 => ?_⟩
    by_cases hi : i < x.cells.length
    · rw [List.getElem_append_left (by omega), List.getElem_append_left hi]
      exact e2 i (by omega) hi
    · rw [List.getElem_append_right (by omega), List.getElem_append_right (by omega)]
      have : i - ((cs.drop o).take (P.cellsOf f.type)).length = i - x.cells.length := by omega
      simp only [this]
      exact h2.2 _ _ _
theorem read_cells {H : Type} {enc : TypeId × Value → H} {P : Program} {W : World} : ∀ (fuel n : Nat) (t : TypeId) (cs : List Value) (d : DataW H) (ps : List MemPlace), DataW.trod enc P W 0 (fun _ => true) true fuel t cs = some (d, ps) → plainB P n t = true →
    ∃ a, RdD P t d a ∧ a.cells.length = P.cellsOf t ∧ CellsV W cs a.cells ∧ (∀ v, (∃ xs, v = .agg xs ∧ xs.toList = cs ∧ aggT P t = some true) ∨ ([v] = cs ∧ aggT P t = some false) → VRel (Rl.old W) W v a) := by
  intro fuel
  induction fuel with
  | zero => intro n t cs d ps h _; simp [DataW.trod] at h
  | succ fuel ih =>
    intro n t cs d ps h hp
    have hall : ∀ (n : Nat) (fs : List Field), plainAll P n fs = true → ∀ i (hi : i < fs.length), ∃ m, plainB P m fs[i].type = true := by
      intro n
      induction n with
      | zero => intro fs h; simp [plainAll] at h
      | succ n ihn =>
        intro fs h i hi
        cases fs with
        | nil => simp at hi
        | cons f r =>
          rw [plainAll] at h
          split at h
          · rename_i hb
            cases i with
            | zero => exact ⟨n, hb⟩
            | succ i => exact ihn r h i (by simpa using hi)
          · cases h
    cases n with
    | zero => simp [plainB] at hp
    | succ n =>
      rw [plainB] at hp
      split at hp
      ·
        rename_i ht
        obtain ⟨b, rfl, hx⟩ := DataW.trod_bool ht h
        cases hx
        refine ⟨.bool b, .bool ht, (Nat.eq_of_beq_eq_true hp).symm, .one .bool, ?_⟩
        rintro v (⟨xs, rfl, h1, h2⟩ | ⟨h1, h2⟩)
        · simp [aggT, ht] at h2
        · cases h1; exact .bool
      · rename_i k ht
        obtain ⟨m, rfl, hx, hw⟩ := DataW.trod_int ht h
        cases hx
        refine ⟨.int _ m, .int ht hw, (Nat.eq_of_beq_eq_true hp).symm, .one .int, ?_⟩
        rintro v (⟨xs, rfl, h1, h2⟩ | ⟨h1, h2⟩)
        · simp [aggT, ht] at h2
        · cases h1; exact .int
      · rename_i ht
        obtain ⟨s, rfl, hx, hw⟩ := DataW.trod_string ht h
        cases hx
        refine ⟨.str s.data.toList, .str ht (by rw [Array.length_toList]; exact hw), (Nat.eq_of_beq_eq_true hp).symm, .one (.str rfl), ?_⟩
        rintro v (⟨xs, rfl, h1, h2⟩ | ⟨h1, h2⟩)
        · simp [aggT, ht] at h2
        · cases h1; exact .str rfl
      ·
        rename_i e ht
        split at hp
        case h_2 => cases hp
        rename_i hc1 hc0
        have hc1 := Nat.eq_of_beq_eq_true hc1
        have hpos : 0 < P.cellsOf e := by
          rcases Nat.eq_zero_or_pos (P.cellsOf e) with h0 | h0
          · rw [h0] at hc0; cases hc0
          · exact h0
        rcases DataW.trod_slice ht h with ⟨rfl, hx⟩ | ⟨a, len, cap, elems, rest, fu, hfu, rfl, hx, _, hl, hm, hlen, hel, hsp, hns⟩
        · cases hx
          refine ⟨_, .nils ht, hc1.symm, .one (.sl0 (fun h => by cases h)), ?_⟩
          rintro v (⟨xs, rfl, h1, h2⟩ | ⟨h1, h2⟩)
          · simp [aggT, ht] at h2
          · cases h1; exact .sl0 (fun h => by cases h)
        · cases hx
          obtain rfl : fuel = fu := by omega
          have each : ∀ i (hi : i < elems.length), ∃ x, RdD P e (elems[i]).1 x ∧ x.cells.length = P.cellsOf e ∧ ∃ ecs : List Value, W.cells? 0 (a.add (i * P.cellsOf e)) (P.cellsOf e) = some ecs ∧ CellsV W ecs x.cells := by
            intro i hi
            have h1 := hel i (by omega)
            rw [List.getElem?_eq_getElem hi, Option.bind_eq_some_iff] at h1
            obtain ⟨ecs, h2, h3⟩ := h1
            obtain ⟨x, k1, k2, k3, _⟩ := ih n e ecs (elems[i]).1 (elems[i]).2 h3 hp
            exact ⟨x, k1, k2, ecs, h2, k3⟩
          have : ∃ xs : List AV, xs.length = elems.length ∧ ∀ i (hi : i < elems.length) (hx : i < xs.length), RdD P e (elems[i]).1 xs[i] ∧ xs[i].cells.length = P.cellsOf e ∧ ∃ ecs : List Value, W.cells? 0 (a.add (i * P.cellsOf e)) (P.cellsOf e) = some ecs ∧ CellsV W ecs xs[i].cells := by
            refine ⟨(List.finRange elems.length).map fun i => Classical.choose (each i.1 i.2), by simp, fun i hi hx => ?_⟩
            simp only [List.getElem_map, List.getElem_finRange]
            exact Classical.choose_spec (each i hi)
          obtain ⟨xs, hxl, hxs⟩ := this
          have hv : VRel (Rl.old W) W (.slice (some a) len cap) (.sl true false (P.cellsOf e) xs) := by
            rcases Nat.eq_zero_or_pos len with h0 | h0
            · subst h0
              obtain rfl : xs = [] := List.eq_nil_of_length_eq_zero (by omega)
              exact .sl0 (fun h => by cases h)
            · obtain ⟨b, o, sp⟩ := a
              obtain ⟨_, _, ecs0, hc, _⟩ := hxs 0 (by omega) (by omega)
              obtain ⟨_, hcl, hcc⟩ := World.cells?_some hc
              have hcell0 := hcc 0 hpos
              rw [List.getElem?_eq_getElem (by omega)] at hcell0
              have hsp : sp = none := by
                cases sp with
                | none => rfl
                | some s =>
                  simp [Addr.add, World.cell?] at hcell0
                  split at hcell0 <;> cases hcell0
              subst hsp
              have hb : b < W.heap.size := by
                rw [Addr.add_lit] at hcell0
                rcases Nat.lt_or_ge b W.heap.size with h | h
                · exact h
                · simp [World.cell?, Addr.add, Array.getElem?_eq_none h] at hcell0
              have hcel : ∀ i, i < xs.length → ∀ j, j < P.cellsOf e → ∃ v, W.cell? ⟨b, o + i * P.cellsOf e + j, none⟩ = some v ∧ ∀ (hi : i < xs.length) (hj : j < (AV.cells xs[i]).length), VRel (Rl.old W) W v (AV.cells xs[i])[j] := by
                intro i hi j hj
                obtain ⟨_, hxc, ecs, hc, hcv⟩ := hxs i (by omega) hi
                obtain ⟨_, hcl, hcc⟩ := World.cells?_some hc
                have h1 := hcc j hj
                rw [List.getElem?_eq_getElem (by omega)] at h1
                rw [Addr.add_lit, Addr.add_lit] at h1
                refine ⟨ecs[j], h1, fun _ hj' => hcv.2 j _ hj'⟩
              refine .sl (by omega) hl (fun h => by cases h) hb (fun _ => hb) (fun x hx => ?_) (fun i j => (W.cell? ⟨b, o + i * P.cellsOf e + j, none⟩).getD undef) (fun i hi j hj => ?_) (fun i hi j hj => ?_)
              · obtain ⟨i, hi, rfl⟩ := List.getElem_of_mem hx
                exact (hxs i (by omega) hi).2.1
              · obtain ⟨v, h1, _⟩ := hcel i hi j hj
                rw [h1]; rfl
              · obtain ⟨v, h1, h2⟩ := hcel i hi j (by rw [(hxs i (by omega) hi).2.1] at hj; exact hj)
                rw [h1]
                exact h2 hi hj
          refine ⟨.sl true false (P.cellsOf e) xs, .sl ht (by simp [hxl]) (by omega) (fun i h1 h2 => by simpa using (hxs i (by simpa using h1) h2).1), hc1.symm, .one hv, ?_⟩
          rintro v (⟨ys, rfl, h1, h2⟩ | ⟨h1, h2⟩)
          · simp [aggT, ht] at h2
          · cases h1; exact hv
      ·
        rename_i fs ht
        split at hp
        case h_2 => cases hp
        rename_i m hm
        split at hp
        case h_2 => cases hp
        rename_i hcm
        have hcm := Nat.eq_of_beq_eq_true hcm
        obtain ⟨ys, fu, hfu, hx, hl, hyl, hy⟩ := DataW.trod_struct ht h
        obtain rfl : fuel = fu := by omega
        cases hx
        have each : ∀ i (hi : i < fs.toList.length) (hi' : i < ys.length), ∃ x, RdD P (fs.toList[i]).type (ys[i]).1 x ∧ x.cells.length = P.cellsOf (fs.toList[i]).type ∧ CellsV W ((cs.drop (fs.toList[i]).offset).take (P.cellsOf (fs.toList[i]).type)) x.cells := by
          intro i hi hi'
          have h1 := hy i (fs.toList[i]) (by simp at hi; simp [hi])
          rw [List.getElem?_eq_getElem hi'] at h1
          obtain ⟨k, hk⟩ := hall n fs.toList hp i hi
          obtain ⟨x, k1, k2, k3, _⟩ := ih k _ _ (ys[i]).1 (ys[i]).2 h1 hk
          exact ⟨x, k1, k2, k3⟩
        have hfl : fs.toList.length = ys.length := by simp [hyl]
        have : ∃ xs : List AV, xs.length = fs.toList.length ∧ ∀ i (hi : i < fs.toList.length) (hi' : i < ys.length) (hx : i < xs.length), RdD P (fs.toList[i]).type (ys[i]).1 xs[i] ∧ xs[i].cells.length = P.cellsOf (fs.toList[i]).type ∧ CellsV W ((cs.drop (fs.toList[i]).offset).take (P.cellsOf (fs.toList[i]).type)) xs[i].cells := by
          refine ⟨(List.finRange fs.toList.length).map fun i => Classical.choose (each i.1 i.2 (by omega)), by simp, fun i hi hi' hx => ?_⟩
          simp only [List.getElem_map, List.getElem_finRange]
          exact Classical.choose_spec (each i hi hi')
        obtain ⟨xs, hxl, hxs⟩ := this
        obtain ⟨_, hcv⟩ := laidB_flat fs.toList 0 m W cs xs hm hxl (fun i h1 h2 => ⟨(hxs i h1 (by omega) h2).2.2, (hxs i h1 (by omega) h2).2.1⟩) (by omega)
        rw [List.drop_zero] at hcv
        refine ⟨.agg (xs.flatMap AV.cells), .st ht (by simp [hyl]) (by simpa using hxl) (fun i h1 h2 h3 => by
          have := (hxs i (by simpa using h3) (by simpa using h1) h2).1
          simp only [Array.getElem_toList, List.getElem_map] at this ⊢
          exact this), by show (xs.flatMap AV.cells).length = _; rw [← hcv.1]; omega, hcv, ?_⟩
        rintro v (⟨zs, rfl, h1, h2⟩ | ⟨h1, h2⟩)
        · refine .agg (by rw [← hcv.1, ← h1]; simp) (fun i hi => ?_)
          have h3 : i < cs.length := by rw [hcv.1]; exact hi
          have := hcv.2 i h3 hi
          subst h1
          rw [Array.getD_eq_getD_getElem?, Array.getElem?_eq_getElem (by simpa using h3)]
          simpa using this
        · simp [aggT, ht] at h2
      · cases hp
theorem read_plain {H : Type} {enc : TypeId × Value → H} {P : Program} {W : World} {r : Reach} {base : Nat} {n : Nat} {t : TypeId} {v : Value} {d : DataW H} {ps : List MemPlace} (hp : plainB P n t = true) (hv : Value.okWide P W r base t v)
    (h : DataW.Trod enc P W 0 (fun _ => true) true t v d ps) : ∃ a, VRel (Rl.old W) W v a ∧ RdD P t d a := by
  obtain ⟨fuel, hf⟩ := h
  obtain ⟨a, h1, _, _, h2⟩ := read_cells fuel n t _ d ps hf hp
  refine ⟨a, h2 v ?_, h1⟩
  cases n with
  | zero => simp [plainB] at hp
  | succ n =>
    rw [plainB] at hp
    split at hp
    · rename_i ht
      obtain ⟨b, rfl⟩ := okWide_bool ht hv
      exact .inr ⟨rfl, by simp [aggT, ht]⟩
    · rename_i k ht
      obtain ⟨b, rfl⟩ := okWide_int ht hv
      exact .inr ⟨rfl, by simp [aggT, ht]⟩
    · rename_i ht
      obtain ⟨b, rfl⟩ := okWide_string ht hv
      exact .inr ⟨rfl, by simp [aggT, ht]⟩
    · rename_i e ht
      obtain ⟨a, len, cap, rfl⟩ := okWide_slice ht hv
      exact .inr ⟨rfl, by simp [aggT, ht]⟩
    · rename_i fs ht
      obtain ⟨cs, rfl, _⟩ := okWide_struct ht hv
      exact .inl ⟨cs, rfl, rfl, by simp [aggT, ht]⟩
    · cases hp
def RdDAll (P : Program) {H : Type} : List Field → List (DataW H) → List AV → Prop
  | [], [], [] => True
  | f :: fs, d :: ds, x :: xs => RdD P f.type d x ∧ RdDAll P fs ds xs
  | _, _, _ => False
theorem RdDAll.of {P : Program} {H : Type} : ∀ {fs : List Field} {ds : List (DataW H)} {xs : List AV}, ds.length = fs.length → xs.length = fs.length → (∀ i (h1 : i < ds.length) (h2 : i < xs.length) (h3 : i < fs.length), RdD P fs[i].type ds[i] xs[i]) → RdDAll P fs ds xs
  | [], ds, xs, h1, h2, _ => by
    obtain rfl : ds = [] := List.eq_nil_of_length_eq_zero h1
    obtain rfl : xs = [] := List.eq_nil_of_length_eq_zero h2
    trivial
  | f :: fs, ds, xs, h1, h2, h => by
    cases ds with
    | nil => simp at h1
    | cons d ds =>
      cases xs with
      | nil => simp at h2
      | cons x xs =>
        exact ⟨h 0 (by simp) (by simp) (by simp), RdDAll.of (by simpa using h1) (by simpa using h2) (fun i k1 k2 k3 => h (i + 1) (Nat.succ_lt_succ k1) (Nat.succ_lt_succ k2) (Nat.succ_lt_succ k3))⟩
theorem RdDAll.cons {P : Program} {H : Type} {f : Field} {fs : List Field} {ds : List (DataW H)} {xs : List AV} (h : RdDAll P (f :: fs) ds xs) : ∃ d ds' x xs', ds = d :: ds' ∧ xs = x :: xs' ∧ RdD P f.type d x ∧ RdDAll P fs ds' xs' := by
  match ds, xs, h with
  | d :: ds', x :: xs', ⟨h1, h2⟩ => exact ⟨d, ds', x, xs', rfl, rfl, h1, h2⟩
theorem RdDAll.nil {P : Program} {H : Type} {ds : List (DataW H)} {xs : List AV} (h : RdDAll P [] ds xs) : ds = [] ∧ xs = [] := by
  match ds, xs, h with
  | [], [], _ => exact ⟨rfl, rfl⟩
section
variable {P : Program} {H : Type} {t : TypeId} {d : DataW H} {a : AV}
theorem RdD.inv_st {fs : Array Field} (h : RdD P t d a) (ht : P.underlying t = some (.struct fs)) : ∃ ds xs, d = .agg ds ∧ a = .agg (xs.flatMap AV.cells) ∧ RdDAll P fs.toList ds xs := by
  cases h with
  | st ht' hd hx h =>
    rw [ht] at ht'
    cases ht'
    exact ⟨_, _, rfl, rfl, .of (by simpa using hd) (by simpa using hx) (fun i h1 h2 h3 => by simpa using h i h1 h2 (by simpa using h3))⟩
  | bool ht' => rw [ht] at ht'; cases ht'
  | str ht' => rw [ht] at ht'; cases ht'
  | int ht' => rw [ht] at ht'; cases ht'
  | nils ht' => rw [ht] at ht'; cases ht'
  | sl ht' => rw [ht] at ht'; cases ht'
theorem RdD.inv_str (h : RdD P t d a) (ht : P.underlying t = some .string) : ∃ s, d = .lit (.string s) ∧ a = .str s ∧ s.length ≤ maxLen := by
  cases h with
  | str ht' hs => exact ⟨_, rfl, rfl, hs⟩
  | bool ht' => rw [ht] at ht'; cases ht'
  | int ht' => rw [ht] at ht'; cases ht'
  | nils ht' => rw [ht] at ht'; cases ht'
  | sl ht' => rw [ht] at ht'; cases ht'
  | st ht' => rw [ht] at ht'; cases ht'
theorem RdD.inv_bool (h : RdD P t d a) (ht : P.underlying t = some .bool) : ∃ b, d = .lit (.bool b) ∧ a = .bool b := by
  cases h with
  | bool ht' => exact ⟨_, rfl, rfl⟩
  | int ht' => rw [ht] at ht'; cases ht'
  | str ht' => rw [ht] at ht'; cases ht'
  | nils ht' => rw [ht] at ht'; cases ht'
  | sl ht' => rw [ht] at ht'; cases ht'
  | st ht' => rw [ht] at ht'; cases ht'
theorem RdD.inv_sl {e : TypeId} (h : RdD P t d a) (ht : P.underlying t = some (.slice e)) :
    ∃ (ds : List (DataW H)) (xs : List AV), a = .sl true false (P.cellsOf e) xs ∧ xs.length = ds.length ∧ xs.length ≤ maxLen ∧ (∀ i (h1 : i < ds.length) (h2 : i < xs.length), RdD P e ds[i] xs[i]) ∧ ((d = .nil ∧ ds = []) ∨ ∃ rest, d = .slice ds rest) := by
  cases h with
  | nils ht' => rw [ht] at ht'; cases ht'; exact ⟨[], [], rfl, rfl, Nat.zero_le _, fun i h => absurd h (by simp), .inl ⟨rfl, rfl⟩⟩
  | sl ht' hl hm h => rw [ht] at ht'; cases ht'; exact ⟨_, _, rfl, hl, hm, h, .inr ⟨_, rfl⟩⟩
  | bool ht' => rw [ht] at ht'; cases ht'
  | int ht' => rw [ht] at ht'; cases ht'
  | str ht' => rw [ht] at ht'; cases ht'
  | st ht' => rw [ht] at ht'; cases ht'
theorem RdD.each {α : Type} {e : TypeId} (f : α → AV) (g : α → DataW H → Prop) {ds : List (DataW H)} {xs : List AV} (hl : xs.length = ds.length) (h : ∀ i (h1 : i < ds.length) (h2 : i < xs.length), RdD P e ds[i] xs[i])
    (hf : ∀ d x, RdD P e d x → ∃ y, x = f y ∧ g y d) : ∃ ys : List α, xs = ys.map f ∧ ys.length = ds.length ∧ ∀ i (h1 : i < ds.length) (h2 : i < ys.length), g ys[i] ds[i] := by
  induction xs generalizing ds with
  | nil =>
    obtain rfl : ds = [] := List.eq_nil_of_length_eq_zero (by simpa using hl.symm)
    exact ⟨[], rfl, rfl, fun i h => absurd h (by simp)⟩
  | cons x xs ih =>
    cases ds with
    | nil => simp at hl
    | cons d ds =>
      obtain ⟨y, hy, hg⟩ := hf d x (h 0 (by simp) (by simp))
      obtain ⟨ys, h1, h2, h3⟩ := ih (ds := ds) (by simpa using hl) (fun i k1 k2 => h (i + 1) (Nat.succ_lt_succ k1) (Nat.succ_lt_succ k2))
      refine ⟨y :: ys, by rw [hy, h1]; rfl, by simp [h2], fun i k1 k2 => ?_⟩
      cases i with
      | zero => exact hg
      | succ i => exact h3 i (Nat.lt_of_succ_lt_succ k1) (Nat.lt_of_succ_lt_succ k2)
end
end Go.Ab
end
section
set_option linter.unusedVariables false
set_option linter.unusedSimpArgs false
namespace Go.Ab
open Go Go.WideShapes
mutual
def avB : AV → Nat
  | .str s => s.length
  | .sl _ _ _ xs => avS xs
  | .agg cs => avC cs
  | _ => 0
def avS : List AV → Nat
  | [] => 0
  | x :: r => avB x + 1 + avS r
def avC : List AV → Nat
  | [] => 0
  | x :: r => avB x + avC r
end
theorem avC_append (a b : List AV) : avC (a ++ b) = avC a + avC b := by
  induction a with
  | nil => simp [avC]
  | cons x a ih => simp only [List.cons_append, avC, ih]; omega
theorem avC_cells (x : AV) : avC x.cells ≤ avB x := by
  cases x <;> simp [AV.cells, avC, avB]
theorem avC_flat (xs : List AV) : avC (xs.flatMap AV.cells) ≤ avC xs := by
  induction xs with
  | nil => simp
  | cons x xs ih =>
    have := avC_cells x
    simp only [List.flatMap_cons, avC_append, avC]; omega
theorem avC_le_avS (xs : List AV) : avC xs ≤ avS xs := by
  induction xs with
  | nil => simp [avC, avS]
  | cons x xs ih => simp only [avC, avS]; omega
theorem bulk_all {P : Program} {H : Type} {B : DataW H → Nat} {BA : List (DataW H) → Nat} (hn : BA [] = 0) (hc : ∀ d r, BA (d :: r) = B d + BA r) : ∀ {ds : List (DataW H)} {xs : List AV}, xs.length = ds.length →
    (∀ i (h1 : i < ds.length) (h2 : i < xs.length), avB xs[i] + 1 ≤ B ds[i]) → avS xs ≤ BA ds
  | [], xs, hl, h => by
    obtain rfl : xs = [] := List.eq_nil_of_length_eq_zero (by simpa using hl)
    simp [avS]
  | d :: ds, xs, hl, h => by
    cases xs with
    | nil => simp at hl
    | cons x xs =>
      have h0 := h 0 (by simp) (by simp)
      have := bulk_all (P := P) (B := B) hn hc (ds := ds) (xs := xs) (by simpa using hl) (fun i h1 h2 => h (i + 1) (Nat.succ_lt_succ h1) (Nat.succ_lt_succ h2))
      simp only [avS, hc]
      simp only [List.getElem_cons_zero] at h0
      omega
theorem RdD.bulk {P : Program} {H : Type} {B : DataW H → Nat} {BA : List (DataW H) → Nat} (hn : BA [] = 0) (hc : ∀ d r, BA (d :: r) = B d + BA r) (h1 : ∀ d, 1 ≤ B d) (hs : ∀ s, B (.lit (.string s)) = s.length + 1)
    (hsl : ∀ a b, B (.slice a b) = BA a + BA b + 1) (hag : ∀ a, B (.agg a) = BA a + 1) {t : TypeId} {d : DataW H} {a : AV} (h : RdD P t d a) : avB a + 1 ≤ B d := by
  induction h with
  | bool => simpa [avB] using h1 _
  | int => simpa [avB] using h1 _
  | str => simp [avB, hs]
  | nils => simpa [avB, avS] using h1 _
  | sl ht hl hm h ih =>
    have := bulk_all (P := P) (B := B) hn hc hl ih
    rw [hsl]; simp only [avB]; omega
  | st ht hd hx h ih =>
    have := bulk_all (P := P) (B := B) hn hc (by omega) (fun i a b => ih i a b (by omega))
    rw [hag]; simp only [avB]
    rename_i t fs ds xs
    have k1 := avC_flat xs
    have k2 := avC_le_avS xs
    omega
end Go.Ab
end
section
set_option linter.unusedVariables false
set_option linter.unusedSimpArgs false
set_option maxRecDepth 20000
set_option maxHeartbeats 4000000
namespace Go.Proofs.YtpehmhlgldbeoaaGreatDoor
open Go Go.Ab
theorem avS_fils (l : List Fil) : l.length ≤ avS (fils l) ∧ ∀ f ∈ l, f.path.length + f.text.length ≤ avS (fils l) := by
  induction l with
  | nil => exact ⟨Nat.zero_le _, fun f hf => by cases hf⟩
  | cons g r ih =>
    have e : avS (fils (g :: r)) = (g.path.length + (g.text.length + (0 + 0))) + 1 + avS (fils r) := by
      show avS (filA g :: fils r) = _
      simp only [avS, filA, avB, avC]
    rw [e]
    refine ⟨by rw [List.length_cons]; omega, fun f hf => ?_⟩
    rcases List.mem_cons.1 hf with rfl | hf
    · omega
    · have := ih.2 f hf; omega
theorem fils_of {l : List Fil} (hk : avB (.sl true false 3 (fils l)) ≤ 1048576) : FilsOk l := by
  have h : avS (fils l) ≤ 1048576 := by simpa only [avB] using hk
  have := avS_fils l
  exact ⟨by omega, fun f hf => by have := this.2 f hf; omega, fun f hf => by have := this.2 f hf; omega⟩
end Go.Proofs.YtpehmhlgldbeoaaGreatDoor
end
section
set_option linter.unusedVariables false
set_option linter.unusedSimpArgs false
set_option maxRecDepth 20000
set_option maxHeartbeats 4000000
namespace Go.Proofs.YtpehmhlgldbeoaaGreatDoor
open Go Go.Ab
def cutF (dir : List UInt8) (f : Fil) : Fil := ⟨f.path.drop (dir.length + 1), f.text, f.run⟩
def undT (l : List Fil) (dir : List UInt8) : List Fil := (l.filter (fun f => insT dir f.path)).map (cutF dir)
theorem und_step {l : List Fil} {i : Nat} (h : i < l.length) (dir : List UInt8) : undT (l.take (i + 1)) dir = undT (l.take i) dir ++ (if insT dir l[i].path = true then [cutF dir l[i]] else []) := by
  unfold undT
  rw [List.take_succ_eq_append_getElem h, List.filter_append, List.map_append]
  congr 1
  cases hi : insT dir l[i].path with
  | true => rw [List.filter_cons_of_pos (by simpa using hi)]; rfl
  | false => rw [List.filter_cons_of_neg (by simpa using hi)]; rfl
theorem und_len (l : List Fil) (dir : List UInt8) : (undT l dir).length ≤ l.length := by
  unfold undT; rw [List.length_map]; exact List.length_filter_le _ _
end Go.Proofs.YtpehmhlgldbeoaaGreatDoor
end
section
set_option linter.unusedVariables false
set_option linter.unusedSimpArgs false
set_option maxRecDepth 20000
set_option maxHeartbeats 4000000
namespace Go.Proofs.YtpehmhlgldbeoaaGreatDoor
open Go Go.Ab
def flatSV (y : List Fil × Nat) : AV := .tup [.sl true false 3 (fils (if y.2 = 0 then y.1 else [])), .int .i64 (y.2 : Nat)]
theorem flatS {f : FuncId} {args : List AV} {y : List Fil × Nat} (h : Calc cx f args (flatAV y)) : Calc cx f args (flatSV y) :=
  h.weak (.tup (by intro x hx; simp at hx; rcases hx with rfl | rfl; exact .sl (fun _ => rfl) (fils_free _); exact .int)) fun r w v hv => by
    unfold flatAV at hv
    unfold flatSV
    by_cases he : y.2 = 0
    · rw [if_pos he] at hv ⊢; exact hv
    · rw [if_neg he] at hv ⊢
      cases hv with
      | tup hn hall =>
        refine .tup hn fun i hi => ?_
        match i, hi with
        | 0, hi =>
          have h0 := hall 0 (by simp)
          have h0 : VRel r w _ .nils := h0
          show VRel r w _ (.sl true false 3 [])
          generalize Array.getD _ 0 undef = z at h0 ⊢
          cases h0
          exact .sl0 (fun h => by cases h)
        | 1, hi => exact hall 1 (by simp)
        | k + 2, hi => exact absurd hi (by simp)
end Go.Proofs.YtpehmhlgldbeoaaGreatDoor
end
section
set_option linter.unusedVariables false
set_option linter.unusedSimpArgs false
set_option maxRecDepth 20000
namespace Go.Proofs.YtpehmhlgldbeoaaGreatDoor
open Go Go.Ab Go.Shelf Go.RowKit Go.Lib Go.Sort
def lay_grow_ren : Go.Shelf.Ren := ⟨fun | 4 => 96 | n => n, fun | 22 => 22 | 25 => 48 | 3 => 3 | 4 => 4 | 9 => 9 | 20 => 20 | 0 => 0 | n => n, fun | n => n⟩
theorem lay_grow : Go.Proofs.Lays8.n4 Tryz.prog lay_grow_ren := {
  mixed := by kernel_rfl
  f4 := ⟨Tryz.f96.name, by decide, Tryz.func96.trans (congrArg some (by kernel_rfl))⟩
  t0 := Tryz.underlying0
  a0 := Tryz.isAgg0
  z0 := Tryz.sizeOf0
  v0 := Tryz.zeroValue0
  t3 := Tryz.underlying3
  a3 := Tryz.isAgg3
  z3 := Tryz.sizeOf3
  v3 := Tryz.zeroValue3
  t4 := Tryz.underlying4
  a4 := Tryz.isAgg4
  z4 := Tryz.sizeOf4
  v4 := Tryz.zeroValue4
  t9 := Tryz.underlying9
  a9 := Tryz.isAgg9
  z9 := Tryz.sizeOf9
  v9 := Tryz.zeroValue9
  t20 := Tryz.underlying20
  a20 := Tryz.isAgg20
  z20 := Tryz.sizeOf20
  v20 := Tryz.zeroValue20
  t22 := Tryz.underlying22
  a22 := Tryz.isAgg22
  z22 := Tryz.sizeOf22
  v22 := Tryz.zeroValue22 }
end Go.Proofs.YtpehmhlgldbeoaaGreatDoor
end
section
set_option linter.unusedVariables false
set_option linter.unusedSimpArgs false
namespace Go.Ab
open Go Go.Shelf Go.RowKit Go.Lib
theorem Grow_gen {cx : Cx} {ρ : Ren} (L : Go.Proofs.Lays8.n4 cx.P ρ) (he : Enters cx.P (ρ.f 4)) {i0 : TypeInfo} {z : Value} (hi0 : cx.P.info? (ρ.t 25) = some i0) (hz0 : i0.zero = some z) (hs0 : 0 < i0.size) (hzs : z.cells.size = i0.size)
    {σ σ' : Heap} {id ver n : Nat} (ha : allocH σ (.cells [] ⟨false, none⟩) = (id, ver, σ')) (hb : n * i0.bytes ≤ 140737488355328) (h63 : n ≤ 4611686018427387904) :
    CallOk cx (ρ.f 4) [.nils, .int .i64 (n : Nat)] σ (fun e s => e = .ret (.ms id ver 0 0 i0.size false) ∧ s = σ') := by
  refine ⟨he, fun r w vs hi hv => ?_⟩
  obtain ⟨hs, hv⟩ := hv
  have g0 := hv 0 (by simp)
  have g1 := hv 1 (by simp)
  have hvs : vs = #[vs.getD 0 undef, vs.getD 1 undef] := by
    have hs : vs.size = 2 := hs
    refine Array.ext (by simp [hs]) fun j h1 h2 => ?_
    match j, h1 with
    | 0, h1 => simp [Array.getD, h1]
    | 1, h1 => simp [Array.getD, h1]
    | j + 2, h1 => omega
  rw [hvs]
  generalize vs.getD 0 undef = a at g0
  generalize vs.getD 1 undef = b at g1
  have g0 : VRel r w a .nils := g0
  have g1 : VRel r w b (.int .i64 (n : Nat)) := g1
  cases g0
  cases g1
  by_cases hn : n = 0
  · subst hn
    refine (Go.Proofs.Any8.slices_Grow_room L none 0 0 0 w (Nat.le_refl _) (by decide) (by decide) (Nat.le_refl _)).mono ?_
    rintro e w' ⟨rfl, rfl⟩
    obtain ⟨ha1, ha2, ha3⟩ := allocH_spec ha
    obtain ⟨q1, q2⟩ := hi.ghost ha1 ha2 ha3
    exact ⟨_, _, r, ⟨rfl, rfl⟩, .ms0, q1, q2⟩
  · refine (Go.Proofs.Any8.slices_Grow_grow L i0 z hi0 hz0 hs0 none 0 0 n [] w (Nat.le_refl _) (by omega) (by simpa using hb) (by omega) (by simp) (fun _ => rfl) (fun a h => by cases h)).mono ?_
    rintro e w' ⟨rfl, rfl⟩
    obtain ⟨hi1, hx1⟩ := hi.heap_eq (w' := w.drew) rfl rfl rfl rfl
    obtain ⟨r', k1, k2, k3, k4, k5⟩ := hi1.newCells (c := (([] : List Value).toArray ++ Builtin.zeroCells z.cells (0 + n - 0) ++ Builtin.zeroCells z.cells (grownCap w (0 + n) 0 (ρ.t 25) - (0 + n)))) (t := ρ.t 25) ha (fun j hj => absurd hj (by simp)) (fun x hx => by cases hx) (fun T h => by cases h)
    have hG := grownCap_ge w (0 + n) 0 (ρ.t 25)
    refine ⟨_, _, r', ⟨rfl, rfl⟩, ?_, k1, hx1.trans k2⟩
    refine VRel.ms (o := 0) (off := 0) k3 ⟨_, _, _, heap_alloc_self w.drew _, ?_⟩ (Nat.zero_le _) (fun h => by cases h)
    generalize grownCap w (0 + n) 0 (ρ.t 25) = G at hG
    have hsz : ∀ k, (Builtin.zeroCells z.cells k).size = k * i0.size := fun k => by rw [size_zeroCells, hzs]
    show 0 + 0 + G * i0.size ≤ (([] : List Value).toArray ++ Builtin.zeroCells z.cells (0 + n - 0) ++ Builtin.zeroCells z.cells (G - (0 + n))).size
    rw [Array.size_append, Array.size_append, hsz, hsz]
    have : G * i0.size = (0 + n - 0) * i0.size + (G - (0 + n)) * i0.size := by
      rw [← Nat.add_mul]; congr 1; omega
    simp only [List.size_toArray, List.length_nil]
    omega
end Go.Ab
end
section
set_option linter.unusedVariables false
set_option linter.unusedSimpArgs false
set_option maxRecDepth 20000
set_option maxHeartbeats 4000000
namespace Go.Proofs.YtpehmhlgldbeoaaGreatDoor
open Go Go.Ab
theorem GrowF_ok {σ σ' : Heap} {id ver n : Nat} (ha : allocH σ (.cells [] ⟨false, none⟩) = (id, ver, σ')) (hn : n ≤ 1000000000000) :
    CallOk cx 96 [.nils, .int .i64 (n : Nat)] σ (fun e s => e = .ret (.ms id ver 0 0 3 false) ∧ s = σ') :=
  Grow_gen (cx := cx) (i0 := (Tryz.prog.types[48]'(by decide +kernel))) (z := .agg #[.string .empty, .string .empty, .bool false]) lay_grow (fun a w => Tryz.call96 a w) (by kernel_rfl) (by kernel_rfl) (by decide +kernel) (by kernel_rfl) ha (by
    have : (Tryz.prog.types[48]'(by decide +kernel)).bytes = 40 := by kernel_rfl
    rw [this]; omega) (by omega)
def szC (a b : List Fil) : Nat → Nat
  | 0 => 0
  | 1 => a.length
  | _ => a.length + b.length
def ccC (a b : List Fil) : Nat → List Fil
  | 0 => []
  | 1 => a
  | _ => a ++ b
theorem celsF_app (a b : List Fil) : celsF (a ++ b) = celsF a ++ celsF b := by
  unfold celsF fils; rw [List.map_append, List.flatMap_append]
theorem Concat_ok {st fl st' fl' : Bool} (a b : List Fil) (ha : a.length ≤ 1000000000) (hb : b.length ≤ 1000000000) :
    Calc cx 65 [.sl true true 1 [.sl st fl 3 (fils a), .sl st' fl' 3 (fils b)]] (.sl true false 3 (fils (a ++ b))) :=
  pure_intro (fun a w => Tryz.call65 a w) Tryz.func65 rfl Tryz.ntmps65 rfl (.sl (fun _ => rfl) (fils_free _)) fun B => by
    have hla := fils_len a
    have hlb := fils_len b
    refine pB [] rfl ?_
    refine S_while (α := Nat) (fun i => [(0, .sl true true 1 [.sl st fl 3 (fils a), .sl st' fl' 3 (fils b)]), (3, .int .i64 (szC a b i : Nat)), (9, .sl true true 1 [.sl st fl 3 (fils a), .sl st' fl' 3 (fils b)]), (10, .int .i64 2), (11, .int .i64 (i : Nat))]) (fun _ => []) (fun i => i ≤ 2) (fun i => 2 - i) 0
      (Nat.zero_le _) (.cons rfl (.cons rfl (.cons rfl (.cons rfl (.cons rfl (.nil _)))))) rfl ?_
    intro i hi
    have hi : i ≤ 2 := hi
    have hw0 : IntKind.i64.wrap (((0 : Nat) : Int) + (((fils a).length : Nat) : Int)) = (a.length : Int) := w64 (by omega) (by omega)
    have hw1 : IntKind.i64.wrap ((a.length : Int) + (((fils b).length : Nat) : Int)) = ((a.length + b.length : Nat) : Int) := w64 (by omega) (by omega)
    match i, hi with
    | 0, _ =>
      refine pa [.b true, .v (.sl st fl 3 (fils a)), .b false] rfl ?_ ?_
      · (repeat' with_reducible apply AllP_cons) <;> try exact aC
        · show decide (IntKind.i64.wrap (((0 : Nat) : Int) + (((fils a).length : Nat) : Int)) < 0) = false
          rw [hw0]; exact decide_eq_false (by omega)
      exact S_round 1 (by decide) (by decide) (.cons rfl (.cons (by show AV.int .i64 (IntKind.i64.wrap (((0 : Nat) : Int) + (((fils a).length : Nat) : Int))) = .int .i64 (a.length : Int); rw [hw0]) (.cons rfl (.cons rfl (.cons rfl (.nil _)))))) rfl
    | 1, _ =>
      refine pa [.b true, .v (.sl st' fl' 3 (fils b)), .b false] rfl ?_ ?_
      · (repeat' with_reducible apply AllP_cons) <;> try exact aC
        · show decide (IntKind.i64.wrap ((a.length : Int) + (((fils b).length : Nat) : Int)) < 0) = false
          rw [hw1]; exact decide_eq_false (by omega)
      exact S_round 2 (by decide) (by decide) (.cons rfl (.cons (by show AV.int .i64 (IntKind.i64.wrap ((a.length : Int) + (((fils b).length : Nat) : Int))) = .int .i64 ((a.length + b.length : Nat) : Int); rw [hw1]) (.cons rfl (.cons rfl (.cons rfl (.nil _)))))) rfl
    | 2, _ =>
      have hG := GrowF_ok (σ := []) (n := a.length + b.length) rfl (by omega)
      refine pB [.b false, .f (.ms 0 0 0 0 3 false) (fun _ => [(0, some (.cells [] ⟨false, none⟩))])] rfl ?_
      refine S_while (α := Nat) (fun i => [(25, .sl true true 1 [.sl st fl 3 (fils a), .sl st' fl' 3 (fils b)]), (26, .int .i64 2), (27, .int .i64 (i : Nat)), (6, .ms 0 i 0 (ccC a b i).length 3 false)]) (fun i => [(i, some (.cells (celsF (ccC a b i)) ⟨false, none⟩))]) (fun i => i ≤ 2) (fun i => 2 - i) 0
        (Nat.zero_le _) (.cons rfl (.cons rfl (.cons rfl (.cons rfl (.nil _))))) rfl ?_
      intro i hi
      have hi : i ≤ 2 := hi
      have hca := cels_len a
      match i, hi with
      | 0, _ =>
        refine pa [.b true, .v (.sl st fl 3 (fils a))] rfl ?_ ?_
        · (repeat' with_reducible apply AllP_cons) <;> try exact aC
          · exact cels_one a
          · exact cels_one a
          · show (0 + (fils a).length) * 40 ≤ 140737488355328
            omega
          · show 0 + (fils a).length ≤ 9223372036854775807
            omega
        refine S_round 1 (by decide) (by decide) (.cons rfl (.cons rfl (.cons rfl (.cons ?_ (.nil _))))) ?_
        · show AV.ms 0 1 0 (0 + (fils a).length) 3 false = AV.ms 0 1 0 a.length 3 false
          rw [hla, Nat.zero_add]
        · rfl
      | 1, _ =>
        refine pa [.b true, .v (.sl st' fl' 3 (fils b))] rfl ?_ ?_
        · (repeat' with_reducible apply AllP_cons) <;> try exact aC
          · exact cels_one b
          · exact cels_one b
          · show 0 + a.length * 3 = (celsF a).length
            omega
          · show (a.length + (fils b).length) * 40 ≤ 140737488355328
            omega
          · show a.length + (fils b).length ≤ 9223372036854775807
            omega
        refine S_round 2 (by decide) (by decide) (.cons rfl (.cons rfl (.cons rfl (.cons ?_ (.nil _))))) ?_
        · show AV.ms 0 2 0 (a.length + (fils b).length) 3 false = AV.ms 0 2 0 (a ++ b).length 3 false
          rw [hlb, List.length_append]
        · show ([(2, some (.cells (celsF a ++ celsF b) ⟨false, none⟩))] : Heap) = [(2, some (.cells (celsF (a ++ b)) ⟨false, none⟩))]
          rw [celsF_app]
      | 2, _ =>
        have hcl := cels_len (a ++ b)
        refine pB [.b false] rfl ?_
        refine S_ret ⟨_, _, rfl, trivial, _, rfl, ?_⟩
        show Frz true [(2, some (.cells (celsF (a ++ b)) ⟨false, none⟩))] (.ms 0 2 0 (a ++ b).length 3 false) (.sl true false 3 (fils (a ++ b)))
        exact .ms rfl (by omega) (by rw [List.drop_zero]; exact List.take_of_length_le (by omega)) (fil_size _) (fils_len _) (fils_free _)
theorem both_ok {st fl st' fl' : Bool} (a b : List Fil) (ha : FilsOk a) (hb : FilsOk b) : Calc cx 64 [.sl st fl 3 (fils a), .sl st' fl' 3 (fils b)] (.int .i64 ((if chkT a = 0 then chkT b else chkT a : Nat) : Int)) :=
  pure_intro (fun a w => Tryz.call64 a w) Tryz.func64 rfl Tryz.ntmps64 rfl .int fun B => by
    have hA := Check_ok (st := st) (fl := fl) a ha
    have hB := Check_ok (st := st') (fl := fl') b hb
    by_cases hc : chkT a = 0
    · rw [hc] at hA
      rw [if_pos hc]
      refine pa [.v (.int .i64 ((0 : Nat) : Int)), .b false, .v (.int .i64 (chkT b : Nat))] rfl ?_ ?_
      · (repeat' with_reducible apply AllP_cons) <;> try exact aC
        · exact ⟨_, hA, .cons (.refl (.sl (fun h => by cases h) (fils_free a))) (.nil _)⟩
        · exact ⟨_, hB, .cons (.refl (.sl (fun h => by cases h) (fils_free b))) (.nil _)⟩
      exact S_retc .int rfl trivial rfl
    · rw [if_neg hc]
      refine pa [.v (.int .i64 (chkT a : Nat)), .b true] rfl ?_ ?_
      · (repeat' with_reducible apply AllP_cons) <;> try exact aC
        · exact ⟨_, hA, .cons (.refl (.sl (fun h => by cases h) (fils_free a))) (.nil _)⟩
        · show ((((chkT a : Nat) : Int)) != 0) = true
          rw [chk_bne]; simpa using hc
      exact S_retc .int rfl trivial rfl
def fBx (v : Nat) (f : Fil) (w : Nat) (l : List Fil) : Heap := [filBx v f, (w, some (.cells (celsF l) ⟨false, none⟩))]
theorem Over1_ok (v : Nat) (f : Fil) (w : Nat) (l : List Fil) (g : Fil) (hf : f.path.length ≤ 1000000000000) :
    CallOk cx 68 [filA g, .ptr 0 v 0] (fBx v f w l) (fun o s => o = .ret (.bool (insT f.path g.path)) ∧ s = fBx v f w l) :=
  callOk_introT (fun a w => Tryz.call68 a w) Tryz.func68 rfl Tryz.ntmps68 rfl fun B => by
    have hN := inside_ok f.path g.path hf
    refine pa [.v (.bool (insT f.path g.path))] rfl ?_ ?_
    · (repeat' with_reducible apply AllP_cons) <;> try exact aC
      · exact ⟨_, hN, .cons (.refl .str) (.cons (.refl .str) (.nil _))⟩
    refine S_ret ⟨_, _, rfl, trivial, 2, Nat.le_refl _, LowH.of (fun e he x hx => ?_), _, .low .bool, rfl, rfl⟩
    have he : e ∈ [filBx v f, (w, some (.cells (celsF l) ⟨false, none⟩))] := he
    simp only [List.mem_cons, List.not_mem_nil, or_false] at he
    rcases he with rfl | rfl
    · cases hx
      refine .cells fun z hz => ?_
      have hz : z ∈ [AV.str f.path, .str f.text, .bool f.run] := hz
      simp at hz; rcases hz with rfl | rfl | rfl; exact .str; exact .str; exact .bool
    · cases hx
      exact .cells fun z hz => (Low.free (cels_free (st := true) l z hz))
theorem cels_at : ∀ {l : List Fil} {i : Nat} (h : i < l.length), ∃ r, (celsF l).drop (i * 3) = .str l[i].path :: .str l[i].text :: .bool l[i].run :: r
  | f :: l, 0, h => ⟨celsF l, rfl⟩
  | f :: l, i + 1, h => by
    obtain ⟨r, hr⟩ := cels_at (l := l) (i := i) (by simpa using h)
    refine ⟨r, ?_⟩
    have e : celsF (f :: l) = [.str f.path, .str f.text, .bool f.run] ++ celsF l := rfl
    have e2 : (i + 1) * 3 = ([.str f.path, .str f.text, .bool f.run] : List AV).length + i * 3 := by simp; omega
    rw [e, e2, List.drop_append, Nat.add_sub_cancel_left, hr, List.drop_eq_nil_of_le (by omega)]
    rfl
theorem cels_off (i : Nat) : offN 0 (mulN (i : Int).toNat 3) = i * 3 := by
  rw [Int.toNat_natCast, offN_eq, mulN_eq, Nat.zero_add]
theorem IndexFuncF_ok (v : Nat) (f : Fil) (w : Nat) (l : List Fil) (hf : f.path.length ≤ 1000000000000) (hl : l.length ≤ 1000000000) :
    CallOk cx 98 [.ms 1 w 0 l.length 3 false, .func (.func 68) [] [.ptr 0 v 0]] (fBx v f w l) (fun o s => o = .ret (.int .i64 (match l.findIdx? (fun g => insT f.path g.path) with | some i => (i : Int) | none => -1)) ∧ s = fBx v f w l) :=
  callOk_intro (fun a w => Tryz.call98 a w) Tryz.func98 rfl Tryz.ntmps98 rfl fun B => by
    refine pB [] rfl ?_
    refine S_while (α := Nat) (fun i => [(0, .ms 1 w 0 l.length 3 false), (1, .func (.func 68) [] [.ptr 0 v 0]), (7, .int .i64 (l.length : Nat)), (8, .int .i64 (i : Nat))]) (fun _ => fBx v f w l) (fun i => i ≤ l.length ∧ ∀ k (hk : k < l.length), k < i → insT f.path l[k].path = false) (fun i => l.length - i) 0
      ⟨Nat.zero_le _, fun k hk h => absurd h (Nat.not_lt_zero _)⟩ (.cons rfl (.cons rfl (.cons rfl (.cons rfl (.nil _))))) rfl ?_
    rintro i ⟨hi, hN⟩
    have hi : i ≤ l.length := hi
    by_cases hlt : i < l.length
    · have e1 : decide ((i : Int) < (l.length : Int)) = true := decide_eq_true (by omega)
      have hC := Over1_ok v f w l l[i] hf
      cases hin : insT f.path l[i].path with
      | true =>
        rw [hin] at hC
        refine pa [.b true, .v .top, .v (filA l[i]), .k (.bool true), .b true] rfl ?_ ?_
        · (repeat' with_reducible apply AllP_cons) <;> try exact aC
          · show 3 ≤ ((celsF l).drop (offN 0 (mulN (i : Int).toNat 3))).length
            rw [cels_off, List.length_drop, cels_len]; omega
          · show filA l[i] = .agg (List.take 3 ((celsF l).drop (offN 0 (mulN (i : Int).toNat 3))))
            obtain ⟨r, hr⟩ := cels_at hlt
            rw [cels_off, hr]; rfl
        refine S_ret ⟨_, _, rfl, trivial, ?_, rfl⟩
        have : l.findIdx? (fun g => insT f.path g.path) = some i := by
          rw [List.findIdx?_eq_some_iff_getElem]
          exact ⟨hlt, hin, fun j hj => by rw [hN j (by omega) hj]; simp⟩
        rw [this]; rfl
      | false =>
        rw [hin] at hC
        refine pa [.b true, .v .top, .v (filA l[i]), .k (.bool false), .b false] rfl ?_ ?_
        · (repeat' with_reducible apply AllP_cons) <;> try exact aC
          · show 3 ≤ ((celsF l).drop (offN 0 (mulN (i : Int).toNat 3))).length
            rw [cels_off, List.length_drop, cels_len]; omega
          · show filA l[i] = .agg (List.take 3 ((celsF l).drop (offN 0 (mulN (i : Int).toNat 3))))
            obtain ⟨r, hr⟩ := cels_at hlt
            rw [cels_off, hr]; rfl
        refine S_round (i + 1) (by show l.length - (i + 1) < l.length - i; omega) ⟨hlt, fun k hk h => ?_⟩ (.cons rfl (.cons rfl (.cons rfl (.cons (nX (by omega)) (.nil _))))) rfl
        have h : k < i + 1 := h
        by_cases hki : k < i
        · exact hN k hk hki
        · have : k = i := by omega
          subst this; exact hin
    · have e1 : decide ((i : Int) < (l.length : Int)) = false := decide_eq_false (by omega)
      refine pB [.b false] rfl ?_
      refine S_ret ⟨_, _, rfl, trivial, ?_, rfl⟩
      have : l.findIdx? (fun g => insT f.path g.path) = none := by
        rw [List.findIdx?_eq_none_iff]
        intro x hx
        obtain ⟨k, hk, rfl⟩ := List.getElem_of_mem hx
        exact hN k hk (by omega)
      rw [this]; rfl
theorem ContainsFuncF_ok (v : Nat) (f : Fil) (w : Nat) (l : List Fil) (hf : f.path.length ≤ 1000000000000) (hl : l.length ≤ 1000000000) :
    CallOk cx 67 [.ms 1 w 0 l.length 3 false, .func (.func 68) [] [.ptr 0 v 0]] (fBx v f w l) (fun o s => o = .ret (.bool (l.any fun g => insT f.path g.path)) ∧ s = fBx v f w l) :=
  callOk_intro (fun a w => Tryz.call67 a w) Tryz.func67 rfl Tryz.ntmps67 rfl fun B => by
    have hI := IndexFuncF_ok v f w l hf hl
    refine pB [.k (.int .i64 (match l.findIdx? (fun g => insT f.path g.path) with | some i => (i : Int) | none => -1))] rfl ?_
    refine S_ret ⟨_, _, rfl, trivial, ?_, rfl⟩
    show Out.ret (.bool (decide ((match l.findIdx? (fun g => insT f.path g.path) with | some i => (i : Int) | none => -1) ≥ 0))) = _
    congr 2
    cases h : l.findIdx? (fun g => insT f.path g.path) with
    | none =>
      rw [List.findIdx?_eq_none_iff] at h
      rw [List.any_eq_false.2 (fun x hx => by have := h x hx; rw [this]; simp)]; rfl
    | some i =>
      rw [List.findIdx?_eq_some_iff_getElem] at h
      obtain ⟨h1, h2, _⟩ := h
      rw [List.any_eq_true.2 ⟨_, List.getElem_mem h1, h2⟩]
      show decide ((i : Int) ≥ 0) = true
      exact decide_eq_true (by omega)
end Go.Proofs.YtpehmhlgldbeoaaGreatDoor
end
section
set_option linter.unusedVariables false
set_option linter.unusedSimpArgs false
set_option maxRecDepth 20000
set_option maxHeartbeats 4000000
namespace Go.Proofs.YtpehmhlgldbeoaaGreatDoor
open Go Go.Ab
def lessN (s : List UInt8) : List (List UInt8) → Nat
  | [] => 0
  | x :: r => if Op.bytesLess x s = true then lessN s r + 1 else 0
def addT (l : List (List UInt8)) (s : List UInt8) : List (List UInt8) := if l[lessN s l]? = some s then l else l.take (lessN s l) ++ s :: l.drop (lessN s l)
theorem lessN_le (s : List UInt8) : ∀ l : List (List UInt8), lessN s l ≤ l.length
  | [] => Nat.le_refl _
  | x :: r => by
    rw [lessN]
    split
    · have := lessN_le s r; rw [List.length_cons]; omega
    · exact Nat.zero_le _
theorem lessN_lt {s : List UInt8} : ∀ {l : List (List UInt8)} {i : Nat} (hi : i < l.length), i < lessN s l → Op.bytesLess l[i] s = true
  | x :: r, i, hi, h => by
    rw [lessN] at h
    split at h
    · rename_i hx
      cases i with
      | zero => exact hx
      | succ i => exact lessN_lt (l := r) (by simpa using hi) (by omega)
    · omega
theorem lessN_at {s : List UInt8} : ∀ {l : List (List UInt8)} (h : lessN s l < l.length), Op.bytesLess l[lessN s l] s = false
  | x :: r, h => by
    by_cases hx : Op.bytesLess x s = true
    · have e : lessN s (x :: r) = lessN s r + 1 := by rw [lessN, if_pos hx]
      have h' : lessN s r < r.length := by rw [e, List.length_cons] at h; omega
      have := lessN_at h'
      simp only [e, List.getElem_cons_succ]
      exact this
    · have e : lessN s (x :: r) = 0 := by rw [lessN, if_neg hx]
      simp only [e, List.getElem_cons_zero]
      simpa using hx
theorem txl (x : List (List UInt8)) : (texts x).length = x.length := List.length_map ..
theorem AddText_ok {fl : Bool} (l : List (List UInt8)) (s : List UInt8) (hl : l.length ≤ 1000000000) : Calc cx 60 [.sl true fl 1 (texts l), .str s] (.sl true false 1 (texts (addT l s))) :=
  pure_intro (fun a w => Tryz.call60 a w) Tryz.func60 rfl Tryz.ntmps60 rfl (.sl (fun _ => rfl) (texts_any _)) fun B => by
    have htl : (texts l).length = l.length := by simp [texts]
    have hle := lessN_le s l
    refine pB [] rfl ?_
    refine S_while (α := Nat) (fun i => [(0, .sl true fl 1 (texts l)), (1, .str s), (5, .int .i64 (i : Nat))]) (fun _ => []) (fun i => i ≤ lessN s l) (fun i => l.length - i) 0
      (Nat.zero_le _) (.cons rfl (.cons rfl (.cons rfl (.nil _)))) rfl ?_
    intro i hi
    have hi : i ≤ lessN s l := hi
    have hT : cutL (some (i : Int)) none (texts l) = texts (l.drop i) := by simp [cutL, texts]
    have hD : cutL none (some (i : Int)) (texts l) = texts (l.take i) := by simp [cutL, texts]
    have hone' : ∀ (x : List (List UInt8)), ∀ y ∈ texts x, y.one = true := by
      intro x y hy
      obtain ⟨t, _, rfl⟩ := List.mem_map.1 hy; rfl
    have hone : ∀ {xs : List AV} (x : List (List UInt8)), xs = texts x → ∀ y ∈ flatA 1 xs, y.one = true := by
      intro xs x hx y hy
      have hy : y ∈ xs := hy
      rw [hx] at hy
      exact hone' x y hy
    by_cases hlt : i < l.length
    · have e1 : decide ((i : Int) < (((texts l).length : Nat) : Int)) = true := decide_eq_true (by omega)
      have g1 : (texts l)[(i : Int).toNat]? = some (.str l[i]) := by rw [Int.toNat_natCast]; simp [texts, List.getElem?_eq_getElem hlt]
      by_cases hil : i < lessN s l
      · have e2 := lessN_lt hlt hil
        refine pB [.b true, .v (.str l[i]), .b true] rfl ?_
        exact S_round (i + 1) (by show l.length - (i + 1) < l.length - i; omega) hil (.cons rfl (.cons rfl (.cons (nX (by omega)) (.nil _)))) rfl
      · have hie : i = lessN s l := by omega
        have e2 : Op.bytesLess l[i] s = false := by subst hie; exact lessN_at hlt
        by_cases heq : l[i] = s
        · have e3 : (l[i] == s) = true := by simpa using heq
          have hres : addT l s = l := by unfold addT; rw [← hie, List.getElem?_eq_getElem hlt, heq, if_pos rfl]
          rw [hres]
          refine pB [.b true, .v (.str l[i]), .b false, .b true, .v (.str l[i]), .b true] rfl ?_
          refine S_ret ⟨_, _, rfl, trivial, _, rfl, ?_⟩
          show Frz true [] (.sl true fl 1 (texts l)) (.sl true false 1 (texts l))
          exact .full (fun _ => rfl) (texts_any l)
        · have e3 : (l[i] == s) = false := by simpa using heq
          have hres : addT l s = l.take i ++ s :: l.drop i := by unfold addT; rw [← hie, List.getElem?_eq_getElem hlt, if_neg (fun h => heq (Option.some.inj h))]
          rw [hres]
          refine pa [.b true, .v (.str l[i]), .b false, .b true, .v (.str l[i]), .b false, .d 9 10 [] (fun _ => [(0, some (.cells (.str s :: texts (l.drop i)) ⟨false, none⟩))]) [.ms 0 0 0 ((l.drop i).length + 1) 1 false]] rfl ?_ ?_
          · (repeat' with_reducible apply AllP_cons) <;> try exact aC
            · exact hone _ hT
            · exact hone _ hT
            · rw [hT, txl, List.length_drop]; left; omega
            · show (1 + (cutL (some (i : Int)) none (texts l)).length) * 16 ≤ 140737488355328
              rw [hT, txl, List.length_drop]; omega
            · show 1 + (cutL (some (i : Int)) none (texts l)).length ≤ 9223372036854775807
              rw [hT, txl, List.length_drop]; omega
            · show AV.ms 0 0 0 (1 + (cutL (some (i : Int)) none (texts l)).length) 1 false = _
              rw [hT, txl, Nat.add_comm]
            · show ([(0, some (.cells ([.str s] ++ cutL (some (i : Int)) none (texts l)) ⟨false, none⟩))] : Heap) = _
              rw [hT]; rfl
            · show 0 + ((l.drop i).length + 1) * 1 ≤ (AV.str s :: texts (l.drop i)).length
              rw [List.length_cons, txl]; omega
            · intro y hy
              have hy : y ∈ (AV.str s :: texts (l.drop i)) := List.mem_of_mem_take hy
              rcases List.mem_cons.1 hy with rfl | hy
              · rfl
              · obtain ⟨t, _, rfl⟩ := List.mem_map.1 hy; rfl
            · exact hone _ hD
            · show ((cutL none (some (i : Int)) (texts l)).length + ((l.drop i).length + 1)) * 16 ≤ 140737488355328
              rw [hD, txl, List.length_take, List.length_drop]; omega
            · rw [hD, txl, List.length_take, List.length_drop]; omega
          refine S_ret ⟨_, _, rfl, trivial, _, rfl, ?_⟩
          show Frz true [(0, some (.cells (.str s :: texts (l.drop i)) ⟨false, none⟩)), (0, some (.cells (cutL none (some (i : Int)) (texts l) ++ (AV.str s :: texts (l.drop i)).take (((l.drop i).length + 1) * 1)) ⟨false, none⟩))] (.ms 1 0 0 ((cutL none (some (i : Int)) (texts l)).length + ((l.drop i).length + 1)) 1 false) _
          have hxs : texts (l.take i ++ s :: l.drop i) = texts (l.take i) ++ (AV.str s :: texts (l.drop i)) := by simp [texts]
          rw [hD, List.take_of_length_le (l := (AV.str s :: texts (l.drop i))) (by rw [List.length_cons, txl]; omega), ← hxs]
          exact Frz.ms1 rfl (hone' _) (by rw [hxs, List.length_append, List.length_cons, txl, txl]) (texts_any _)
    · have hie : i = l.length := by omega
      have hin : lessN s l = l.length := by omega
      have e1 : decide ((i : Int) < (((texts l).length : Nat) : Int)) = false := decide_eq_false (by omega)
      have hres : addT l s = l ++ [s] := by unfold addT; rw [hin, List.getElem?_eq_none (Nat.le_refl _), if_neg (by simp), List.take_length, List.drop_length]
      rw [hres]
      refine pa [.b false, .b false, .b false, .b false, .d 9 10 [1000001] (fun σ => σ) [.sl true true 1 [.str s]]] rfl ?_ ?_
      · (repeat' with_reducible apply AllP_cons) <;> try exact aC
        · exact OpSpec.append0 (st := true) (fl := true) (st' := true) (fl' := _) (sz := 1) rfl rfl rfl rfl (by show AV.sl true _ 1 (cutL (some (i : Int)) none (texts l)) = _; rw [hT, hie, List.drop_length]; rfl)
        · exact hone _ hD
        · show ((cutL none (some (i : Int)) (texts l)).length + 1) * 16 ≤ 140737488355328
          rw [hD, txl, List.length_take]; omega
        · show (cutL none (some (i : Int)) (texts l)).length + 1 ≤ 9223372036854775807
          rw [hD, txl, List.length_take]; omega
      refine S_ret ⟨_, _, rfl, trivial, _, rfl, ?_⟩
      show Frz true [(0, some (.cells (cutL none (some (i : Int)) (texts l) ++ [.str s]) ⟨false, none⟩))] (.ms 0 0 0 ((cutL none (some (i : Int)) (texts l)).length + 1) 1 false) _
      have hxs : texts (l ++ [s]) = texts l ++ [.str s] := by simp [texts]
      rw [hD, hie, List.take_length, ← hxs]
      exact Frz.ms1 rfl (hone' _) (by rw [hxs, List.length_append]; rfl) (texts_any _)
end Go.Proofs.YtpehmhlgldbeoaaGreatDoor
end
section
set_option linter.unusedVariables false
set_option linter.unusedSimpArgs false
set_option maxRecDepth 20000
set_option maxHeartbeats 4000000
namespace Go.Proofs.YtpehmhlgldbeoaaGreatDoor
open Go Go.Ab
def setT (l : List (List UInt8)) : List (List UInt8) := sortT (l.foldl addU [])
theorem fold_mem {x : List UInt8} (l a : List (List UInt8)) : x ∈ l.foldl addU a ↔ x ∈ a ∨ x ∈ l := by
  have := addU_fold_mem (fun t : List UInt8 => t) (x := x) l a
  rw [this]
  constructor
  · rintro (h | ⟨f, h, rfl⟩)
    · exact .inl h
    · exact .inr h
  · rintro (h | h)
    · exact .inl h
    · exact .inr ⟨x, h, rfl⟩
theorem nodup_perm {a b : List (List UInt8)} (ha : a.Nodup) (hb : b.Nodup) (h : ∀ x, x ∈ a ↔ x ∈ b) : a.Perm b := by
  exact (List.perm_ext_iff_of_nodup ha hb).2 h
theorem setT_ext {a b : List (List UInt8)} (h : ∀ x, x ∈ a ↔ x ∈ b) : setT a = setT b :=
  sortT_eq (nodup_perm (foldU_nodup .nil) (foldU_nodup .nil) fun x => by rw [fold_mem, fold_mem, h x])
theorem setT_mem {l : List (List UInt8)} {x : List UInt8} : x ∈ setT l ↔ x ∈ l := by
  unfold setT
  rw [(sortT_perm _).mem_iff, fold_mem]; simp
theorem setT_of {l : List (List UInt8)} (h : l.Nodup) : setT l = sortT l :=
  sortT_eq (nodup_perm (foldU_nodup .nil) h fun x => by rw [fold_mem]; simp)
theorem setT_len (l : List (List UInt8)) : (setT l).length ≤ l.length := by
  unfold setT
  rw [(sortT_perm _).length_eq]
  have := addU_fold_len (fun t : List UInt8 => t) l []
  simpa using this
theorem addT_sort {m : List (List UInt8)} (hm : m.Nodup) (s : List UInt8) : addT (sortT m) s = sortT (addU m s) := by
  obtain ⟨l, hl⟩ : ∃ l, l = sortT m := ⟨_, rfl⟩
  have hlt : ∀ (i j : Nat) (hij : i < j) (hj : j < l.length), l[i]'(by omega) < l[j] := by
    subst hl; exact fun i j hij hj => sort_lt hm hij hj
  have hmem : ∀ x, x ∈ l ↔ x ∈ m := fun x => by rw [hl]; exact (sortT_perm m).mem_iff
  rw [← hl]
  have hk := lessN_le s l
  by_cases hs : l[lessN s l]? = some s
  · rw [addT, if_pos hs, addU, if_pos ((hmem s).1 (List.mem_of_getElem? hs)), hl]
  · have hbefore : ∀ i (hi : i < l.length), i < lessN s l → l[i] < s := fun i hi h => by
      have := lessN_lt hi h
      rw [bl_eq] at this; simpa using this
    have hafter : ∀ i (hi : i < l.length), lessN s l ≤ i → s < l[i] := by
      intro i hi h
      have hk2 : lessN s l < l.length := by omega
      have h1 := lessN_at hk2
      rw [bl_eq] at h1
      have h1 : ¬ l[lessN s l] < s := by simpa using h1
      have h2 : l[lessN s l] ≠ s := fun e => hs (by rw [List.getElem?_eq_getElem hk2, e])
      have h3 : s < l[lessN s l] := by
        rcases Std.lt_trichotomy l[lessN s l] s with h | h | h
        · exact absurd h h1
        · exact absurd h h2
        · exact h
      rcases Nat.lt_or_ge (lessN s l) i with h4 | h4
      · exact List.lt_trans h3 (hlt _ _ h4 hi)
      · have : lessN s l = i := by omega
        simpa only [this] using h3
    have hns : s ∉ m := by
      intro h
      obtain ⟨i, hi, e⟩ := List.getElem_of_mem ((hmem s).2 h)
      rcases Nat.lt_or_ge i (lessN s l) with h1 | h1
      · have := hbefore i hi h1; rw [e] at this; exact List.lt_irrefl _ this
      · have := hafter i hi h1; rw [e] at this; exact List.lt_irrefl _ this
    rw [addT, if_neg hs, addU, if_neg hns]
    refine perm_sorted ?_ ?_ (sortT_pw _)
    · refine List.perm_middle.trans ?_
      rw [List.take_append_drop]
      refine List.Perm.trans ?_ (sortT_perm _).symm
      rw [hl]
      refine ((sortT_perm m).cons s).trans ?_
      exact (List.perm_append_singleton s m).symm
    · rw [List.pairwise_append]
      have hpw : l.Pairwise (fun x y => x ≤ y) := by rw [hl]; exact sortT_pw m
      refine ⟨hpw.sublist (List.take_sublist _ _), ?_, ?_⟩
      · rw [List.pairwise_cons]
        refine ⟨fun x hx => ?_, hpw.sublist (List.drop_sublist _ _)⟩
        obtain ⟨i, hi, rfl⟩ := List.getElem_of_mem hx
        rw [List.getElem_drop]
        rw [List.length_drop] at hi
        exact List.le_of_lt (hafter _ (by omega) (by omega))
      · intro x hx y hy
        obtain ⟨i, hi, rfl⟩ := List.getElem_of_mem hx
        rw [List.length_take] at hi
        rw [List.getElem_take]
        have h1 := hbefore i (by omega) (by omega)
        rcases List.mem_cons.1 hy with rfl | hy
        · exact List.le_of_lt h1
        · obtain ⟨j, hj, rfl⟩ := List.getElem_of_mem hy
          rw [List.length_drop] at hj
          rw [List.getElem_drop]
          exact List.le_of_lt (List.lt_trans h1 (hafter _ (by omega) (by omega)))
theorem addT_set (l : List (List UInt8)) (s : List UInt8) : addT (setT l) s = setT (l ++ [s]) := by
  unfold setT
  rw [addT_sort (foldU_nodup .nil), List.foldl_append]; rfl
def relT (l : List Fil) (dir : List UInt8) : List Fil := if dir = [] then l else undT l dir
def pathT (dir n : List UInt8) : List UInt8 := if dir = [] then n else dir ++ [47] ++ n
theorem nms_set (l : List Fil) : sortT (nmsT l) = setT (l.map fun f => fstT f.path) := by
  unfold nmsT setT
  rw [List.foldl_map]
theorem und_mem {l : List Fil} {dir : List UInt8} {g : Fil} : g ∈ undT l dir ↔ ∃ f ∈ l, insT dir f.path = true ∧ cutF dir f = g := by
  unfold undT
  simp only [List.mem_map, List.mem_filter]
  constructor
  · rintro ⟨f, ⟨h1, h2⟩, h3⟩; exact ⟨f, h1, h2, h3⟩
  · rintro ⟨f, h1, h2, h3⟩; exact ⟨f, ⟨h1, h2⟩, h3⟩
theorem drop_dir (dir x : List UInt8) : (dir ++ [47] ++ x).drop (dir.length + 1) = x := by
  have e : dir.length + 1 = (dir ++ [47]).length := by simp
  rw [e, List.drop_left]
theorem ins_cut {dir p : List UInt8} (h : insT dir p = true) : p = dir ++ [47] ++ p.drop (dir.length + 1) := by
  unfold insT at h
  rw [List.isPrefixOf_iff_prefix] at h
  obtain ⟨x, rfl⟩ := h
  rw [drop_dir]
theorem ins_mk (dir x : List UInt8) : insT dir (dir ++ [47] ++ x) = true := by
  unfold insT; rw [List.isPrefixOf_iff_prefix]; exact ⟨x, rfl⟩
theorem rel_grp {l : List Fil} {dir n : List UInt8} (hn : n.count 47 = 0) (hn0 : n ≠ []) (hne : ∀ f ∈ relT l dir, f.path ≠ n) : relT l (pathT dir n) = grT (relT l dir) n := by
  have hp0 : pathT dir n ≠ [] := by unfold pathT; split; exact hn0; simp
  rw [relT, if_neg hp0]
  by_cases hd : dir = []
  · subst hd
    have e1 : relT l [] = l := if_pos rfl
    rw [e1] at hne ⊢
    rw [pathT, if_pos rfl]
    unfold undT grT
    have hf : l.filter (fun f => insT n f.path) = l.filter (fun f => fstT f.path == n) := by
      apply List.filter_congr
      intro f hf
      rw [Bool.eq_iff_iff]
      simp only [beq_iff_eq]
      constructor
      · intro h; exact ins_fst hn h
      · intro h
        rcases fst_ins h with h1 | h1
        · exact absurd h1 (hne f hf)
        · exact h1
    rw [hf]
    apply List.map_congr_left
    intro f hf
    obtain ⟨hf1, hf2⟩ := List.mem_filter.1 hf
    have hf2 : fstT f.path = n := by simpa using hf2
    rcases fst_ins hf2 with h1 | h1
    · exact absurd h1 (hne f hf1)
    · unfold cutF stp
      have e := ins_cut h1
      have e2 : rstT f.path = f.path.drop (n.length + 1) := by
        conv => lhs; rw [e, List.append_assoc]
        exact (fst_of hn).2
      rw [e2]
  · have e1 : relT l dir = undT l dir := if_neg hd
    rw [e1] at hne ⊢
    rw [pathT, if_neg hd]
    unfold undT grT
    rw [List.filter_map, List.map_map, List.filter_filter]
    have key : ∀ f ∈ l, insT (dir ++ [47] ++ n) f.path = true → insT dir f.path = true ∧ fstT (f.path.drop (dir.length + 1)) = n ∧ rstT (f.path.drop (dir.length + 1)) = f.path.drop ((dir ++ [47] ++ n).length + 1) := by
      intro f hf h
      have e := ins_cut h
      generalize f.path.drop ((dir ++ [47] ++ n).length + 1) = x at e
      have e2 : f.path = dir ++ [47] ++ (n ++ 47 :: x) := by rw [e]; simp
      have e3 : f.path.drop (dir.length + 1) = n ++ 47 :: x := by rw [e2, drop_dir]
      rw [e3]
      exact ⟨by rw [e2]; exact ins_mk _ _, (fst_of hn).1, (fst_of hn).2⟩
    have hf : l.filter (fun f => insT (dir ++ [47] ++ n) f.path) = l.filter (fun a => insT dir a.path && ((fun f => fstT f.path == n) ∘ cutF dir) a) := by
      apply List.filter_congr
      intro f hf
      rw [Bool.eq_iff_iff]
      simp only [Bool.and_eq_true, Function.comp, beq_iff_eq]
      constructor
      · intro h
        have := key f hf h
        exact ⟨this.1, this.2.1⟩
      · rintro ⟨h1, h2⟩
        have h2 : fstT (f.path.drop (dir.length + 1)) = n := h2
        have hm : cutF dir f ∈ undT l dir := und_mem.2 ⟨f, hf, h1, rfl⟩
        rcases fst_ins h2 with h3 | h3
        · exact absurd h3 (hne _ hm)
        · have e := ins_cut h1
          have e4 := ins_cut h3
          rw [e, e4, show dir ++ [47] ++ (n ++ [47] ++ (f.path.drop (dir.length + 1)).drop (n.length + 1)) = (dir ++ [47] ++ n) ++ [47] ++ (f.path.drop (dir.length + 1)).drop (n.length + 1) by simp]
          exact ins_mk _ _
    have hf' : l.filter (fun a => ((fun f => fstT f.path == n) ∘ cutF dir) a && insT dir a.path) = l.filter (fun f => insT (dir ++ [47] ++ n) f.path) := by
      rw [hf]
      apply List.filter_congr
      intro f _; rw [Bool.and_comm]
    first | rw [hf'] | rw [← hf]
    apply List.map_congr_left
    intro f hf
    obtain ⟨hf1, hf2⟩ := List.mem_filter.1 hf
    have := (key f hf1 hf2).2.2
    unfold cutF
    show _ = stp ⟨f.path.drop (dir.length + 1), f.text, f.run⟩
    unfold stp
    rw [this]
theorem rel_file {l : List Fil} {dir n : List UInt8} {f : Fil} (hn : n ≠ []) : (∃ g ∈ relT l dir, g.path = n ∧ g.text = f.text ∧ g.run = f.run) ↔ ∃ g ∈ l, g.path = pathT dir n ∧ g.text = f.text ∧ g.run = f.run := by
  unfold relT pathT
  by_cases hd : dir = []
  · rw [if_pos hd, if_pos hd]
  · rw [if_neg hd, if_neg hd]
    constructor
    · rintro ⟨g, hg, h1, h2, h3⟩
      obtain ⟨f', hf', hi, rfl⟩ := und_mem.1 hg
      refine ⟨f', hf', ?_, h2, h3⟩
      have h1 : f'.path.drop (dir.length + 1) = n := h1
      rw [← h1]; exact ins_cut hi
    · rintro ⟨g, hg, h1, h2, h3⟩
      refine ⟨cutF dir g, und_mem.2 ⟨g, hg, by rw [h1]; exact ins_mk _ _, rfl⟩, ?_, h2, h3⟩
      show g.path.drop (dir.length + 1) = n
      rw [h1, drop_dir]
theorem rel_step {l : List Fil} {i : Nat} (h : i < l.length) (dir : List UInt8) : relT (l.take (i + 1)) dir = relT (l.take i) dir ++ (if dir = [] then [l[i]] else if insT dir l[i].path = true then [cutF dir l[i]] else []) := by
  unfold relT
  by_cases hd : dir = []
  · rw [if_pos hd, if_pos hd, if_pos hd, List.take_succ_eq_append_getElem h]
  · rw [if_neg hd, if_neg hd, if_neg hd]; exact und_step h dir
end Go.Proofs.YtpehmhlgldbeoaaGreatDoor
end
section
set_option linter.unusedVariables false
set_option linter.unusedSimpArgs false
namespace Go.Ab
open Go
structure KeyLaw {α : Type} [DecidableEq α] (cx : Cx) (kt : TypeId) (key : α → AV) : Prop where
  check : ∀ (e : Bool) (r : Rl) (w : World) (v : Value) (a : α), VRel r w v (key a) → (Instr.checkKey e 10000 kt v).run cx.P w = .ok () w
  equal : ∀ (r : Rl) (w : World) (u v : Value) (a b : α), VRel r w u (key a) → VRel r w v (key b) → (Op.equal kt u v).run cx.P w = .ok (decide (a = b)) w
  bits : ∀ (r : Rl) (w : World) (u v : Value) (a : α), VRel r w u (key a) → VRel r w v (key a) → Instr.sameBits 10000 u v = true
  slow : ∃ d, cx.P.underlying kt = some d ∧ ∀ k e l i, Instr.findNow d k (e :: l) i = none
def fieldsFit (P : Program) : List Field → List AV → Bool
  | [], _ => true
  | f :: fs, xs => match aLoad P f.type (xs.drop f.offset) with
    | some y => keyFits P f.type y && fieldsFit P fs xs
    | none => false
theorem checkKey_one {P : Program} {w : World} {k : TypeId} {key : Value} {r : Rl} {a : AV} (e : Bool) (d : Nat) (h : keyFits P k a = true) (ha : VRel r w key a) : (Instr.checkKey e (d + 1) k key).run P w = .ok () w := by
  obtain ⟨q, hu, hd⟩ := keyFits_spec h
  unfold Instr.checkKey
  rcases hd with ⟨rfl, s, rfl⟩ | ⟨j, rfl, n, m, rfl⟩ | ⟨rfl, x, rfl⟩ <;> cases ha <;> simp [run_underlying hu]
theorem checkKey_struct {P : Program} {w : World} {k : TypeId} {v : Value} {r : Rl} {az : List AV} {fs : Array Field} (e : Bool) (hu : P.underlying k = some (.struct fs)) (hf : fieldsFit P fs.toList az = true) (ha : VRel r w v (.agg az)) : (Instr.checkKey e 10000 k v).run P w = .ok () w := by
  have hva : ∃ xs, v = .agg xs := by cases ha; exact ⟨_, rfl⟩
  obtain ⟨xs, rfl⟩ := hva
  show (Instr.checkKey e (9998 + 1 + 1) k (.agg xs)).run P w = _
  rw [Instr.checkKey]
  simp only [Sem.run_bind, run_underlying hu, Result.andThen_ok]
  rw [← Array.forIn_toList]
  generalize fs.toList = L at hf
  induction L with
  | nil => simp
  | cons f L ih =>
    rw [fieldsFit] at hf
    split at hf
    case h_2 => cases hf
    rename_i y hy
    rw [Bool.and_eq_true] at hf
    obtain ⟨z, p1, p2⟩ := part_run ha hy
    have p3 := checkKey_one e 9998 hf.1 p2
    by_cases hn : f.name = "_"
    · simp only [List.forIn_cons, Sem.run_bind, hn, ne_eq, not_true_eq_false, if_false, Result.andThen_ok, Sem.run_pure]
      exact ih hf.2
    · simp only [List.forIn_cons, Sem.run_bind, hn, ne_eq, not_false_eq_true, if_true, Result.andThen_ok, p1, p3, Sem.run_pure]
      exact ih hf.2
theorem equal_struct {P : Program} {w : World} {t : TypeId} {u v : Value} {r : Rl} {az bs : List AV} {fs : Array Field} {b : Bool} (ht : P.underlying t = some (.struct fs)) (hc : cmpOk P t = true) (hb : eqFs P fs.toList az bs = some b) (hx : VRel r w u (.agg az)) (hy : VRel r w v (.agg bs)) :
    (Op.equal t u v).run P w = .ok b w := by
  have hxa : ∃ xs, u = .agg xs := by cases hx; exact ⟨_, rfl⟩
  have hya : ∃ xs, v = .agg xs := by cases hy; exact ⟨_, rfl⟩
  obtain ⟨xs, rfl⟩ := hxa
  obtain ⟨ys, rfl⟩ := hya
  have hfo : P.fieldsOf t = fs := by simp [Program.fieldsOf, ht]
  unfold cmpOk at hc
  rw [ht] at hc
  simp only [Bool.and_eq_true, Bool.not_eq_true', List.all_eq_true, bne_iff_ne] at hc
  show (Op.equalIn (9998 + 1 + 1) t _ _).run P w = _
  rw [run_equalIn_struct w (9998 + 1) t xs ys (by rw [hfo]; exact ht) hc.1.1, hfo]
  exact eqFs_run 9998 hx hy fs.toList hb hc.2
def plainA : AV → Bool
  | .str _ => true
  | .int _ _ => true
  | .bool _ => true
  | _ => false
theorem bits_one {r : Rl} {w : World} {u v : Value} {a : AV} (d : Nat) (h : plainA a = true) (hu : VRel r w u a) (hv : VRel r w v a) : Instr.sameBits d u v = true := by
  cases a <;> first | cases h | skip
  · cases hu; cases hv; unfold Instr.sameBits; simp
  · cases hu; cases hv; unfold Instr.sameBits; simp
  · cases hu with
    | str h1 =>
      cases hv with
      | str h2 =>
        unfold Instr.sameBits
        exact (MapKept.bytes_beq _ _).2 (ByteArray.ext (Array.toList_inj.1 (h1.trans h2.symm)))
theorem bits_struct {r : Rl} {w : World} {u v : Value} {az : List AV} (h : az.all plainA = true) (hu : VRel r w u (.agg az)) (hv : VRel r w v (.agg az)) : Instr.sameBits 10000 u v = true := by
  cases hu with
  | agg hn h1 =>
    cases hv with
    | agg hm h2 =>
      rename_i xs ys
      unfold Instr.sameBits
      rw [Bool.and_eq_true]
      refine ⟨by simp [hn, hm], ?_⟩
      rw [List.all_eq_true]
      rintro ⟨x, y⟩ hxy
      obtain ⟨i, hi, e⟩ := List.getElem_of_mem hxy
      rw [List.length_zip, Array.length_toList, Array.length_toList] at hi
      rw [List.getElem_zip] at e
      have hia : i < az.length := by omega
      have k1 := h1 i hia
      have k2 := h2 i hia
      have e1 : xs.getD i undef = x := by
        rw [Array.getD_eq_getD_getElem?, Array.getElem?_eq_getElem (by omega)]
        exact (congrArg Prod.fst e)
      have e2 : ys.getD i undef = y := by
        rw [Array.getD_eq_getD_getElem?, Array.getElem?_eq_getElem (by omega)]
        exact (congrArg Prod.snd e)
      rw [e1] at k1; rw [e2] at k2
      exact bits_one _ (List.all_eq_true.1 h _ (List.getElem_mem hia)) k1 k2
theorem KeyLaw.struct {α : Type} [DecidableEq α] {cx : Cx} {kt : TypeId} {fs : Array Field} {parts : α → List AV} (hu : cx.P.underlying kt = some (.struct fs)) (hc : cmpOk cx.P kt = true) (hf : ∀ a, fieldsFit cx.P fs.toList (parts a) = true) (hp : ∀ a, (parts a).all plainA = true)
    (he : ∀ a b, eqFs cx.P fs.toList (parts a) (parts b) = some (decide (a = b))) : KeyLaw cx kt (fun a => .agg (parts a)) where
  check := fun e r w v a h => checkKey_struct e hu (hf a) h
  equal := fun r w u v a b h1 h2 => equal_struct hu hc (he a b) h1 h2
  bits := fun r w u v a h1 h2 => bits_struct (hp a) h1 h2
  slow := ⟨_, hu, fun k e l i => rfl⟩
section
variable {α : Type} [DecidableEq α]
def mapG (key : α → AV) (ks : List α) (val : α → AV) : List (AV × AV) := ks.map fun k => (key k, val k)
def addG (l : List α) (s : α) : List α := if s ∈ l then l else l ++ [s]
def updG (val : α → AV) (t : α) (v : AV) : α → AV := fun k => if k = t then v else val k
def mapGx (key : α → AV) (ks : List α) (val : α → AV) : Option Box := some (.map (mapG key ks val) (some (List.range ks.length, ks.length)))
theorem addG_mem {l : List α} {s x : α} : x ∈ addG l s ↔ x ∈ l ∨ x = s := by
  unfold addG
  split
  · rename_i h
    exact ⟨.inl, fun h' => h'.elim id fun e => e ▸ h⟩
  · simp
theorem addG_nodup {l : List α} {s : α} (h : l.Nodup) : (addG l s).Nodup := by
  unfold addG
  split
  · exact h
  · rename_i hs
    exact List.nodup_append.2 ⟨h, by simp, fun a ha b hb => by simp at hb; subst hb; exact fun e => hs (e ▸ ha)⟩
theorem KeyLaw.find {cx : Cx} {kt : TypeId} {key : α → AV} (L : KeyLaw cx kt key) {r : Rl} {w : World} {a : α} {k : Value} (hk : VRel r w k (key a)) : ∀ (es : List MapEntry) (ks : List α) (i : Nat), es.length = ks.length → (∀ j (h : j < ks.length), ∃ e, es[j]? = some e ∧ VRel r w e.key (key ks[j])) →
    (a ∉ ks ∧ (Instr.findAsking kt k es i).run cx.P w = .ok none w) ∨ (a ∈ ks ∧ ∃ e, es[ks.idxOf a]? = some e ∧ (Instr.findAsking kt k es i).run cx.P w = .ok (some (i + ks.idxOf a, e.val)) w)
  | [], [], i, _, _ => .inl ⟨by simp, by simp [Instr.findAsking]⟩
  | [], _ :: _, _, hl, _ => by simp at hl
  | _ :: _, [], _, hl, _ => by simp at hl
  | e :: es, x :: ks, i, hl, hr => by
    obtain ⟨e0, q1, q2⟩ := hr 0 (by simp)
    simp only [List.getElem?_cons_zero, Option.some.injEq, List.getElem_cons_zero] at q1 q2
    subst q1
    have heq := L.equal r w k e.key a x hk q2
    by_cases hax : a = x
    · subst hax
      refine .inr ⟨by simp, e, by simp, ?_⟩
      rw [decide_eq_true rfl] at heq
      rw [Instr.findAsking]
      simp only [Sem.run_bind, heq, Result.andThen_ok, if_true, Sem.run_pure, List.idxOf_cons_self, Nat.add_zero]
    · rw [decide_eq_false hax] at heq
      have hf : (Instr.findAsking kt k (e :: es) i).run cx.P w = (Instr.findAsking kt k es (i + 1)).run cx.P w := by
        conv => lhs; rw [Instr.findAsking]
        simp [heq]
      have hx : (x == a) = false := by simpa using Ne.symm hax
      rcases KeyLaw.find L hk es ks (i + 1) (by simpa using hl) (fun j hj => by
        obtain ⟨e', m1, m2⟩ := hr (j + 1) (by simp; omega)
        exact ⟨e', by simpa using m1, by simpa using m2⟩) with ⟨h1, h2⟩ | ⟨h1, e', h2, h3⟩
      · exact .inl ⟨by simp [hax, h1], by rw [hf]; exact h2⟩
      · refine .inr ⟨List.mem_cons_of_mem _ h1, e', ?_, ?_⟩
        · rw [List.idxOf_cons, hx]; simpa using h2
        · rw [hf, h3, List.idxOf_cons, hx]
          simp only [cond_false]
          rw [show i + 1 + ks.idxOf a = i + (ks.idxOf a + 1) by omega]
theorem KeyLaw.findKey {cx : Cx} {kt : TypeId} {key : α → AV} (L : KeyLaw cx kt key) {r : Rl} {w : World} {a : α} {k : Value} (hk : VRel r w k (key a)) {es : Array MapEntry} {clock : Nat} {ks : List α} {val : α → AV} {st : Option (List Nat × Nat)} (hm : MapIs r w es clock (mapG key ks val) st) :
    (a ∉ ks ∧ (Instr.findKey kt k es.toList).run cx.P w = .ok none w) ∨ (a ∈ ks ∧ ∃ e, es[ks.idxOf a]? = some e ∧ VRel r w e.val (val a) ∧ VRel r w e.key (key a) ∧ (Instr.findKey kt k es.toList).run cx.P w = .ok (some (ks.idxOf a, e.val)) w) := by
  have hlen : (mapG key ks val).length = ks.length := by simp [mapG]
  have hat : ∀ j (h : j < ks.length), ∃ e, es[j]? = some e ∧ VRel r w e.key (key ks[j]) ∧ VRel r w e.val (val ks[j]) := by
    intro j hj
    obtain ⟨e, h1, h2, h3⟩ := hm.2.1 j (by omega)
    refine ⟨e, h1, ?_, ?_⟩
    · simpa [mapG] using h2
    · simpa [mapG] using h3
  obtain ⟨d, hd, hs⟩ := L.slow
  have h := L.find hk es.toList ks 0 (by rw [Array.length_toList, hm.1, hlen]) (fun j hj => by
    obtain ⟨e, h1, h2, _⟩ := hat j hj
    exact ⟨e, by rw [Array.getElem?_toList]; exact h1, h2⟩)
  have hfk : (Instr.findKey kt k es.toList).run cx.P w = (Instr.findAsking kt k es.toList 0).run cx.P w := by
    unfold Instr.findKey
    cases hes : es.toList with
    | nil => simp [run_underlying hd, Instr.findNow, Instr.findAsking]
    | cons e l => simp [run_underlying hd, hs]
  rw [hfk]
  rcases h with h | ⟨h1, e, h2, h3⟩
  · exact .inl h
  · refine .inr ⟨h1, e, by rw [← Array.getElem?_toList]; exact h2, ?_, ?_, by rw [h3, Nat.zero_add]⟩
    · obtain ⟨e', m1, m2, m3⟩ := hat _ (List.idxOf_lt_length_of_mem h1)
      rw [Array.getElem?_toList, m1] at h2
      obtain rfl := Option.some.inj h2
      rw [List.getElem_idxOf] at m3; exact m3
    · obtain ⟨e', m1, m2, m3⟩ := hat _ (List.idxOf_lt_length_of_mem h1)
      rw [Array.getElem?_toList, m1] at h2
      obtain rfl := Option.some.inj h2
      rw [List.getElem_idxOf] at m2; exact m2
variable {cx : Cx} {n : Nat} {fr : Fr} {σ : Heap}
theorem OpSpec.gget {o : Oper} {t kt et : TypeId} {m key : Operand} {id ver : Nat} {kf : α → AV} {ks : List α} {val : α → AV} {st : Option (List Nat × Nat)} {z : AV} {s : α} (L : KeyLaw cx kt kf) (ho : o.op = .lookup t m key false) (ht : cx.P.underlying t = some (.map kt et))
    (hm : ev cx fr m = .map id ver) (hkey : ev cx fr key = kf s) (hσ : σ[id]? = some (ver, some (.map (mapG kf ks val) st))) (hz : zeroV cx.P et = some z) (hv : s ∉ ks → val s = z) :
    OpSpec cx n fr σ o (val s) σ := by
  intro r a w hi hf
  have he : ∀ x, VRel r w (a.eval x) (ev cx fr x) := fun x => ev_rel hi hf x
  have hmv := he m
  have hkv := he key
  rw [hm] at hmv
  rw [hkey] at hkv
  obtain ⟨b, es, clock, hzz, hρ, hb, hmi⟩ := hi.mapAt hσ hmv
  obtain ⟨dst, op, ty, pos, after, guard⟩ := o
  simp only at ho
  subst ho
  have hck := L.check es.isEmpty r w _ s hkv
  rcases L.findKey hkv hmi with ⟨h1, h2⟩ | ⟨h1, e, h2, h3, _, h4⟩
  · obtain ⟨z', hz1, hz2⟩ := zeroV_run hz r w
    refine ⟨r, w, z', .inl ?_, by rw [hv h1]; exact hz2, hi, Ext.refl _ _ _⟩
    simp [execOp, Instr.lookup, run_underlying ht, hzz, MapKept.run_getObj_map hb, hck, h2, hz1]
  · refine ⟨r, w, e.val, .inl ?_, h3, hi, Ext.refl _ _ _⟩
    simp [execOp, Instr.lookup, run_underlying ht, hzz, MapKept.run_getObj_map hb, hck, h4]
theorem mapG_push (kf : α → AV) {ks : List α} (val : α → AV) {s : α} (h : s ∉ ks) : mapG kf (addG ks s) val = mapG kf ks val ++ [(kf s, val s)] := by
  unfold addG mapG; rw [if_neg h, List.map_append]; rfl
theorem OpSpec.gentry {o : Oper} {t kt et : TypeId} {m key : Operand} {id ver : Nat} {kf : α → AV} {ks : List α} {val : α → AV} {z : AV} {s : α} (L : KeyLaw cx kt kf) (ho : o.op = .mapEntry t m key) (ht : cx.P.underlying t = some (.map kt et))
    (hm : ev cx fr m = .map id ver) (hkey : ev cx fr key = kf s) (hσ : σ[id]? = some (ver, mapGx kf ks val)) (hz : zeroV cx.P et = some z) (hv : s ∉ ks → val s = z) {σ' : Heap} (hσ' : σ.set id (ver, mapGx kf (addG ks s) val) = σ') :
    OpSpec cx n fr σ o (.tup [val s, .int .i64 ((addG ks s).idxOf s : Nat)]) σ' := by
  subst hσ'
  intro r a w hi hf
  have he : ∀ x, VRel r w (a.eval x) (ev cx fr x) := fun x => ev_rel hi hf x
  have hmv := he m
  have hkv := he key
  rw [hm] at hmv
  rw [hkey] at hkv
  obtain ⟨b, es, clock, hzz, hρ, hb, hmi⟩ := hi.mapAt hσ hmv
  obtain ⟨dst, op, ty, pos, after, guard⟩ := o
  simp only at ho
  subst ho
  have hck := L.check false r w _ s hkv
  obtain ⟨hbs, hcl⟩ := hmi.2.2.2.2 _ _ rfl
  have tup2 : ∀ {r' : Rl} {w' : World} {x y : Value} {p q : AV}, VRel r' w' x p → VRel r' w' y q → VRel r' w' (.tuple #[x, y]) (.tup [p, q]) := fun h1 h2 => .tup rfl (fun i hi => by
    simp only [List.length_cons, List.length_nil] at hi
    rcases i with _ | _ | i
    · exact h1
    · exact h2
    · omega)
  rcases L.findKey hkv hmi with ⟨h1, h2⟩ | ⟨h1, e, h2, h3, h5, h4⟩
  · obtain ⟨z', hz1, hz2⟩ := zeroV_run hz r w
    have hm' := hmi.pushK hkv (x := val s) (by rw [hv h1]; exact hz2)
    have hk' : setK (mapG kf ks val) (kf s) (val s) none = mapG kf (addG ks s) val := (mapG_push kf val h1).symm
    have hlen : (addG ks s).length = ks.length + 1 := by unfold addG; rw [if_neg h1]; simp
    have hst : setB (some (List.range ks.length, ks.length)) none = some (List.range (addG ks s).length, (addG ks s).length) := by
      rw [hlen]; show some (List.range ks.length ++ [ks.length], ks.length + 1) = _
      rw [List.range_succ]
    rw [hk', hst] at hm'
    obtain ⟨r', k1, k2⟩ := hi.mapSet hσ hρ hb hm'
    have hix : (addG ks s).idxOf s = ks.length := by
      unfold addG; rw [if_neg h1, List.idxOf_append, if_neg h1]; simp
    refine ⟨r', _, .tuple #[z', goInt clock], .inl ?_, tup2 ?_ ?_, k1, k2⟩
    · simp [execOp, Instr.mapEntry, run_underlying ht, hzz, MapKept.run_getObj_map hb, hck, h2, hz1, MapKept.run_setObj_map _ hb]
    · rw [hv h1]; exact hz2.mono (k2.grow hi)
    · rw [hix, hcl]; exact .int
  · have hj := List.idxOf_lt_length_of_mem h1
    have hadd : addG ks s = ks := if_pos h1
    have hm0 : MapIs r w (es.modify (ks.idxOf s) fun e => { e with key := a.eval key }) clock (mapG kf ks val) (some (List.range ks.length, ks.length)) := by
      have hq := hmi.setK hkv h3 (j := ks.idxOf s) (v := val s) (by simpa [mapG] using hj)
      have e1 : setK (mapG kf ks val) (kf s) (val s) (some (ks.idxOf s, val s)) = mapG kf ks val := by
        show (mapG kf ks val).set (ks.idxOf s) (kf s, val s) = _
        have : (mapG kf ks val)[ks.idxOf s]'(by simpa [mapG] using hj) = (kf s, val s) := by simp [mapG]
        rw [← this, List.set_getElem_self]
      rw [e1] at hq
      have e2 : (es.modify (ks.idxOf s) fun e' => { e' with key := a.eval key, val := e.val }) = es.modify (ks.idxOf s) fun e => { e with key := a.eval key } := by
        apply Array.ext_getElem?
        intro i
        rw [Array.getElem?_modify, Array.getElem?_modify]
        split
        · rename_i hii
          rw [← hii, h2]; rfl
        · rfl
      rw [e2] at hq
      exact hq
    obtain ⟨r', k1, k2⟩ := hi.mapSet hσ hρ hb hm0
    have hborn : e.born = ks.idxOf s := by
      have : (es.toList.map MapEntry.born)[ks.idxOf s]? = some e.born := by rw [List.getElem?_map, Array.getElem?_toList, h2]; rfl
      rw [hbs, List.getElem?_range hj] at this
      exact (Option.some.inj this).symm
    rw [hadd]
    refine ⟨r', _, .tuple #[e.val, goInt e.born], .inl ?_, tup2 (h3.mono (k2.grow hi)) ?_, k1, k2⟩
    · have hbits := L.bits r w _ _ s h5 hkv
      simp [execOp, Instr.mapEntry, run_underlying ht, hzz, MapKept.run_getObj_map hb, hck, h4, h2, Instr.keyThatStays, hbits, MapKept.run_setObj_map _ hb]
    · rw [hborn]; exact .int
theorem OpSpec.gstore {o : Oper} {t : TypeId} {m st x : Operand} {id ver : Nat} {kf : α → AV} {ks : List α} {val : α → AV} {s : α} {v : AV} (ho : o.op = .entryStore t m st x)
    (hm : ev cx fr m = .map id ver) (hst : ev cx fr st = .int .i64 (ks.idxOf s : Nat)) (hx : ev cx fr x = v) (hσ : σ[id]? = some (ver, mapGx kf ks val)) (hs : s ∈ ks) (hn : ks.Nodup) {σ' : Heap} (hσ' : σ.set id (ver, mapGx kf ks (updG val s v)) = σ') :
    OpSpec cx n fr σ o (.tup []) σ' := by
  subst hσ'
  intro r a w hi hf
  have he : ∀ x, VRel r w (a.eval x) (ev cx fr x) := fun x => ev_rel hi hf x
  have hmv := he m
  have hsv := he st
  have hxv := he x
  rw [hm] at hmv
  rw [hst] at hsv
  rw [hx] at hxv
  obtain ⟨b, es, clock, hzz, hρ, hb, hmi⟩ := hi.mapAt hσ hmv
  obtain ⟨dst, op, ty, pos, after, guard⟩ := o
  simp only at ho
  subst ho
  obtain ⟨hbs, hcl⟩ := hmi.2.2.2.2 _ _ rfl
  have hj := List.idxOf_lt_length_of_mem hs
  have hlen : (mapG kf ks val).length = ks.length := by simp [mapG]
  obtain ⟨e, m1, m2, m3⟩ := hmi.2.1 (ks.idxOf s) (by omega)
  have hborn : ∀ (i : Nat) (e : MapEntry), es[i]? = some e → e.born = i := by
    intro i e h
    have h2 : (es.toList.map MapEntry.born)[i]? = some e.born := by rw [List.getElem?_map, Array.getElem?_toList, h]; rfl
    have hi' : i < ks.length := by
      rcases Nat.lt_or_ge i ks.length with h' | h'
      · exact h'
      · rw [hbs, List.getElem?_eq_none (by simpa using h')] at h2; cases h2
    rw [hbs, List.getElem?_range hi'] at h2
    exact (Option.some.inj h2).symm
  have hfi : es.findIdx? (fun e => (e.born : Int) == ((ks.idxOf s : Nat) : Int)) = some (ks.idxOf s) := by
    rw [Array.findIdx?_eq_some_iff_getElem]
    have hjs : ks.idxOf s < es.size := by rw [hmi.1, hlen]; exact hj
    refine ⟨hjs, ?_, fun i hi' => ?_⟩
    · rw [hborn _ _ (Array.getElem?_eq_getElem hjs)]; simp
    · rw [hborn _ _ (Array.getElem?_eq_getElem (by omega))]
      simp; omega
  have hset : setK (mapG kf ks val) (kf s) v (some (ks.idxOf s, v)) = mapG kf ks (updG val s v) := by
    show (mapG kf ks val).set (ks.idxOf s) (kf s, v) = _
    have hat : ks[ks.idxOf s] = s := List.getElem_idxOf hj
    unfold mapG
    apply List.ext_getElem
    · simp
    · intro i h1 h2
      rw [List.getElem_set, List.getElem_map, List.getElem_map]
      by_cases hi2 : ks.idxOf s = i
      · subst hi2
        rw [if_pos rfl, hat]; unfold updG; rw [if_pos rfl]
      · rw [if_neg hi2]
        unfold updG
        rw [if_neg]
        intro e
        exact hi2 ((List.getElem_inj hn).1 (hat.trans e.symm))
  have hkey : VRel r w e.key (kf s) := by
    have : (mapG kf ks val)[ks.idxOf s]'(by omega) = (kf s, val s) := by simp [mapG]
    rw [this] at m2; exact m2
  have hm' := hmi.setK hkey hxv (j := ks.idxOf s) (v := v) (by omega)
  rw [hset] at hm'
  have e2 : (es.modify (ks.idxOf s) fun e' => { e' with key := e.key, val := a.eval x }) = es.modify (ks.idxOf s) fun e => { e with val := a.eval x } := by
    apply Array.ext_getElem?
    intro i
    rw [Array.getElem?_modify, Array.getElem?_modify]
    split
    · rename_i hii
      rw [← hii, m1]; rfl
    · rfl
  rw [e2] at hm'
  obtain ⟨r', k1, k2⟩ := hi.mapSet hσ hρ hb hm'
  refine ⟨r', _, undef, .inr ⟨?_, rfl⟩, .tup rfl (fun i h => absurd h (by simp)), k1, k2⟩
  have hsi : a.eval st = .int .i64 ((ks.idxOf s : Nat) : Int) := by
    generalize a.eval st = y at hsv
    cases hsv; rfl
  simp [execOp, Instr.entryStore, hzz, hsi, asInt, asIntOf, MapKept.run_getObj_map hb, hfi, MapKept.run_setObj_map _ hb]
theorem OpSpec.entryG {o : Oper} {x : Operand} {id ver mid mver since c i b : Nat} {seen bs : List Nat} {kvs : List (AV × AV)} {p q : AV} (ho : o.op = .entry x) (hx0 : ev cx fr x = .ptr id ver 0) (hσ : σ[id]? = some (ver, some (.miter mid mver since (seen ++ [b]) c)))
    (hσm : σ[mid]? = some (mver, some (.map kvs (some (bs, c))))) (hb : bs[i]? = some b) (hk : kvs[i]? = some (p, q)) : OpSpec cx n fr σ o (.tup [p, q]) σ := by
  have hik : i < kvs.length := by
    rcases Nat.lt_or_ge i kvs.length with h | h
    · exact h
    · rw [List.getElem?_eq_none h] at hk; cases hk
  have h := OpSpec.entry (n := n) ho hx0 hσ hσm hb hik
  rw [List.getElem?_eq_getElem hik] at hk
  rw [Option.some.inj hk] at h
  exact h
end
end Go.Ab
end
section
set_option linter.unusedVariables false
set_option linter.unusedSimpArgs false
set_option maxRecDepth 20000
set_option maxHeartbeats 4000000
namespace Go.Proofs.YtpehmhlgldbeoaaGreatDoor
open Go Go.Ab
def ksG (c : List Fil) : List Fil := c.foldl addG []
def cntV (c : List Fil) : Fil → AV := fun f => .int .i64 (c.count f : Nat)
def difT (c : List Fil) : List (List UInt8) := setT ((c.filter fun f => c.count f == 1).map Fil.path)
theorem ksG_add (c : List Fil) (f : Fil) : ksG (c ++ [f]) = addG (ksG c) f := by unfold ksG; rw [List.foldl_append]; rfl
theorem foldG_nodup : ∀ (c a : List Fil), a.Nodup → (c.foldl addG a).Nodup
  | [], a, h => h
  | f :: c, a, h => foldG_nodup c _ (addG_nodup h)
theorem ksG_nodup (c : List Fil) : (ksG c).Nodup := foldG_nodup c [] .nil
theorem foldG_mem {f : Fil} : ∀ (c a : List Fil), f ∈ c.foldl addG a ↔ f ∈ a ∨ f ∈ c
  | [], a => by simp
  | x :: c, a => by
    rw [List.foldl_cons, foldG_mem c, addG_mem, List.mem_cons]
    exact or_assoc
theorem ksG_mem {c : List Fil} {f : Fil} : f ∈ ksG c ↔ f ∈ c := by unfold ksG; rw [foldG_mem]; simp
theorem cntV_no {c : List Fil} {f : Fil} (h : f ∉ ksG c) : cntV c f = .int .i64 0 := by
  unfold cntV; rw [List.count_eq_zero_of_not_mem (fun e => h (ksG_mem.2 e))]; rfl
theorem cntV_add {c : List Fil} (f : Fil) (h : c.length ≤ 1000000) : updG (cntV c) f (.int .i64 (IntKind.i64.wrap (((c.count f : Nat) : Int) + 1))) = cntV (c ++ [f]) := by
  funext k
  unfold updG cntV
  have h1 := List.count_le_length (a := f) (l := c)
  by_cases hk : k = f
  · subst hk
    have hw : IntKind.i64.wrap (((c.count k : Nat) : Int) + 1) = ((c.count k + 1 : Nat) : Int) := w64 (by omega) (by omega)
    rw [if_pos rfl, List.count_append, List.count_singleton_self, hw]
  · rw [if_neg hk, List.count_append, List.count_singleton, if_neg (by simpa using Ne.symm hk)]; rfl
theorem ksG_len (c : List Fil) : (ksG c).length ≤ c.length := by
  exact List.Nodup.length_le_of_subset (ksG_nodup c) fun f hf => ksG_mem.1 hf
theorem fileKey : KeyLaw cx 48 filA :=
  KeyLaw.struct (parts := fun f : Fil => [.str f.path, .str f.text, .bool f.run]) Tryz.underlying48 (by kernel_rfl) (fun a => rfl) (fun a => rfl) (fun a b => by
    show some ((a.path == b.path) && ((a.text == b.text) && ((a.run == b.run) && true))) = _
    congr 1
    obtain ⟨p, t, r⟩ := a
    obtain ⟨p', t', r'⟩ := b
    show ((p == p') && ((t == t') && ((r == r') && true))) = _
    by_cases h1 : p = p' <;> by_cases h2 : t = t' <;> by_cases h3 : r = r' <;> simp [h1, h2, h3])
theorem mapG_step {c : List Fil} (f : Fil) (h : c.length ≤ 1000000) : mapGx filA (addG (ksG c) f) (updG (cntV c) f (.int .i64 (IntKind.i64.wrap (((c.count f : Nat) : Int) + 1)))) = mapGx filA (ksG (c ++ [f])) (cntV (c ++ [f])) := by
  rw [ksG_add, cntV_add f h]
def ksD (c : List Fil) (sn : List Nat) : List (List UInt8) := sn.foldl (fun l i => match (ksG c)[i]? with
  | some f => if c.count f = 1 then addK l f.path else l
  | none => l) []
theorem ksD_add (c : List Fil) (sn : List Nat) {i : Nat} (h : i < (ksG c).length) : ksD c (sn ++ [i]) = if c.count (ksG c)[i] = 1 then addK (ksD c sn) (ksG c)[i].path else ksD c sn := by
  unfold ksD; rw [List.foldl_append]
  simp [List.getElem?_eq_getElem h]
theorem ksD_nodup (c : List Fil) (sn : List Nat) : (ksD c sn).Nodup := by
  unfold ksD
  suffices ∀ (sn : List Nat) (a : List (List UInt8)), a.Nodup → (sn.foldl (fun l i => match (ksG c)[i]? with
  | some f => if c.count f = 1 then addK l f.path else l
  | none => l) a).Nodup from this sn [] .nil
  intro sn
  induction sn with
  | nil => intro a h; exact h
  | cons i sn ih =>
    intro a h
    rw [List.foldl_cons]
    refine ih _ ?_
    split
    · split
      · exact addU_nodup h
      · exact h
    · exact h
theorem ksD_mem {c : List Fil} {x : List UInt8} (sn : List Nat) : x ∈ ksD c sn ↔ ∃ i ∈ sn, ∃ f, (ksG c)[i]? = some f ∧ c.count f = 1 ∧ f.path = x := by
  unfold ksD
  suffices ∀ (sn : List Nat) (a : List (List UInt8)), x ∈ (sn.foldl (fun l i => match (ksG c)[i]? with
  | some f => if c.count f = 1 then addK l f.path else l
  | none => l) a) ↔ x ∈ a ∨ ∃ i ∈ sn, ∃ f, (ksG c)[i]? = some f ∧ c.count f = 1 ∧ f.path = x by
    rw [this]; simp
  intro sn
  induction sn with
  | nil => simp
  | cons i sn ih =>
    intro a
    rw [List.foldl_cons, ih]
    have hstep : (x ∈ (match (ksG c)[i]? with
      | some f => if c.count f = 1 then addK a f.path else a
      | none => a)) ↔ x ∈ a ∨ ∃ f, (ksG c)[i]? = some f ∧ c.count f = 1 ∧ f.path = x := by
      cases hq : (ksG c)[i]? with
      | none => simp
      | some f =>
        by_cases h1 : c.count f = 1
        · simp only [h1, if_true, Option.some.injEq, exists_eq_left', true_and]
          have := addU_mem (l := a) (s := f.path) (x := x)
          rw [show addK a f.path = addU a f.path from rfl, this]
          exact or_congr Iff.rfl eq_comm
        · simp [h1]
    rw [hstep]
    simp only [List.mem_cons, exists_eq_or_imp]
    exact or_assoc
theorem ksD_all {c : List Fil} {sn : List Nat} (h : ∀ b ∈ List.range (ksG c).length, b ∈ sn) : sortT (ksD c sn) = difT c := by
  unfold difT
  rw [← setT_of (ksD_nodup c sn)]
  refine setT_ext fun x => ?_
  rw [ksD_mem]
  simp only [List.mem_map, List.mem_filter, beq_iff_eq]
  constructor
  · rintro ⟨i, _, f, h1, h2, h3⟩
    exact ⟨f, ⟨ksG_mem.1 (List.mem_of_getElem? h1), h2⟩, h3⟩
  · rintro ⟨f, ⟨h1, h2⟩, h3⟩
    obtain ⟨i, hi, he⟩ := List.getElem_of_mem (ksG_mem.2 h1)
    exact ⟨i, h i (List.mem_range.2 hi), f, by rw [List.getElem?_eq_getElem hi, he], h2, h3⟩
def difE (a b : List Fil) : Nat := if chkT a = 0 then chkT b else chkT a
def difAV (a b : List Fil) : AV := if difE a b = 0 then .tup [.sl true false 1 (texts (difT (a ++ b))), .int .i64 ((0 : Nat) : Int)] else .tup [.nils, .int .i64 (difE a b : Nat)]
theorem difAV_free (a b : List Fil) : Free true (difAV a b) := by
  unfold difAV
  split
  · exact .tup (by intro x hx; simp at hx; rcases hx with rfl | rfl; exact .sl (fun _ => rfl) (texts_any _); exact .int)
  · exact .tup (by intro x hx; simp at hx; rcases hx with rfl | rfl; exact .nils; exact .int)
theorem Differs_ok {st fl st' fl' : Bool} (a b : List Fil) (ha : FilsOk a) (hb : FilsOk b) : Calc cx 36 [.sl st fl 3 (fils a), .sl st' fl' 3 (fils b)] (difAV a b) :=
  pure_intro (fun a w => Tryz.call36 a w) Tryz.func36 rfl Tryz.ntmps36 rfl (difAV_free a b) fun B => by
    have hB := both_ok (st := st) (fl := fl) (st' := st') (fl' := fl') a b ha hb
    have hfr : ∀ σ : Heap, Frzs σ [.sl st fl 3 (fils a), .sl st' fl' 3 (fils b)] [.sl st fl 3 (fils a), .sl st' fl' 3 (fils b)] := fun σ => .cons (.refl (.sl (fun h => by cases h) (fils_free a))) (.cons (.refl (.sl (fun h => by cases h) (fils_free b))) (.nil _))
    unfold difAV
    rw [show (if chkT a = 0 then chkT b else chkT a) = difE a b from rfl] at hB
    by_cases h0 : difE a b = 0
    case neg =>
      rw [if_neg h0]
      generalize difE a b = e at *
      refine pa [.v (.int .i64 (e : Nat)), .b true] rfl ?_ ?_
      · (repeat' with_reducible apply AllP_cons) <;> try exact aC
        · exact ⟨_, hB, hfr _⟩
        · show (((e : Int)) != 0) = true
          rw [chk_bne]; simpa using h0
      exact S_retc (.tup (by intro x hx; simp at hx; rcases hx with rfl | rfl; exact .nils; exact .int)) rfl trivial rfl
    rw [if_pos h0]
    have hca : chkT a = 0 := by
      by_cases h : chkT a = 0
      · exact h
      · unfold difE at h0; rw [if_neg h] at h0; exact absurd h0 h
    have hcb : chkT b = 0 := by unfold difE at h0; rw [if_pos hca] at h0; exact h0
    rw [h0] at hB
    have hda := DirOk.of hca
    have hdb := DirOk.of hcb
    have hla := hda.len
    have hlb := hdb.len
    have hna := fils_len a
    have hnb := fils_len b
    refine pa [.v (.int .i64 ((0 : Nat) : Int)), .b false, .f (.map 0 0) (fun _ => [(0, some (.map [] (some ([], 0))))])] rfl ?_ ?_
    · (repeat' with_reducible apply AllP_cons) <;> try exact aC
      · exact ⟨_, hB, hfr _⟩
      · exact OpSpec.mapN (C := []) rfl trivial
    refine S_dead ?_ ⟨_, _, .inl rfl⟩
    refine S_while (α := Nat) (fun i => [(1, .sl st' fl' 3 (fils b)), (7, .map 0 0), (22, .sl st fl 3 (fils a)), (23, .int .i64 (((fils a).length : Nat) : Int)), (24, .int .i64 (i : Nat))]) (fun i => [(0, mapGx filA (ksG (a.take i)) (cntV (a.take i))), (i, none)]) (fun i => i ≤ a.length) (fun i => a.length - i) 0
      (Nat.zero_le _) (.cons rfl (.cons rfl (.cons rfl (.cons rfl (.cons rfl (.nil _)))))) rfl ?_
    intro i hi
    have hi : i ≤ a.length := hi
    by_cases hlt : i < a.length
    · have e1 : decide ((i : Int) < (((fils a).length : Nat) : Int)) = true := decide_eq_true (by omega)
      have g1 : (fils a)[(i : Int).toNat]? = some (filA a[i]) := fils_get hlt
      have hst := mapG_step (c := a.take i) a[i] (by rw [List.length_take]; omega)
      rw [← List.take_succ_eq_append_getElem hlt] at hst
      refine pa [.b true, .v (filA a[i]), .d 4 6 [] (fun σ => (0, mapGx filA (addG (ksG (a.take i)) a[i]) (cntV (a.take i))) :: σ.tail) [cntV (a.take i) a[i], .tup [cntV (a.take i) a[i], .int .i64 ((addG (ksG (a.take i)) a[i]).idxOf a[i] : Nat)]], .f (.tup []) (fun σ => (0, mapGx filA (addG (ksG (a.take i)) a[i]) (updG (cntV (a.take i)) a[i] (.int .i64 (IntKind.i64.wrap ((((a.take i).count a[i] : Nat) : Int) + 1))))) :: σ.tail), .s] rfl ?_ ?_
      · (repeat' with_reducible apply AllP_cons) <;> try exact aC
        all_goals first
          | exact OpSpec.gget (z := .int .i64 0) fileKey rfl (Tryz.underlying84) rfl rfl rfl rfl cntV_no
          | exact OpSpec.gget (z := .int .i64 0) fileKey rfl (Tryz.underlying84) rfl rfl rfl rfl (fun h => cntV_no fun h' => h (addG_mem.2 (.inl h')))
          | exact OpSpec.gentry (z := .int .i64 0) fileKey rfl (Tryz.underlying84) rfl rfl rfl rfl cntV_no rfl
          | exact OpSpec.gstore (s := a[i]) rfl rfl rfl rfl rfl (addG_mem.2 (.inr rfl)) (addG_nodup (ksG_nodup _)) rfl
      refine S_drop (id := 1) rfl ?_ ⟨.skip, _, .inr ⟨_, _, _, rfl⟩⟩
      refine S_heap [(0, mapGx filA (ksG (a.take (i + 1))) (cntV (a.take (i + 1)))), (i + 1, none)] ?_ ?_
      · rw [← hst]; rfl
      refine pB [] rfl ?_
      exact S_round (i + 1) (by show a.length - (i + 1) < a.length - i; omega) hlt (.cons rfl (.cons rfl (.cons rfl (.cons rfl (.cons (nX (by omega)) (.nil _)))))) rfl
    have hil : i = a.length := by omega
    subst hil
    have e1 : decide ((a.length : Int) < (((fils a).length : Nat) : Int)) = false := decide_eq_false (by omega)
    rw [List.take_length]
    obtain ⟨u, hu⟩ : ∃ u, u = a.length := ⟨_, rfl⟩
    rw [← hu]
    rw [← hu] at e1
    refine pB [.b false] rfl ?_
    refine S_while (α := Nat) (fun i => [(7, .map 0 0), (35, .sl st' fl' 3 (fils b)), (36, .int .i64 (((fils b).length : Nat) : Int)), (37, .int .i64 (i : Nat))]) (fun i => [(0, mapGx filA (ksG (a ++ b.take i)) (cntV (a ++ b.take i))), (u + i, none)]) (fun i => i ≤ b.length) (fun i => b.length - i) 0
      (Nat.zero_le _) (.cons rfl (.cons rfl (.cons rfl (.cons rfl (.nil _))))) (by rw [List.take_zero, List.append_nil]; rfl) ?_
    intro i hi
    have hi : i ≤ b.length := hi
    by_cases hlt : i < b.length
    · have e1 : decide ((i : Int) < (((fils b).length : Nat) : Int)) = true := decide_eq_true (by omega)
      have g1 : (fils b)[(i : Int).toNat]? = some (filA b[i]) := fils_get hlt
      obtain ⟨c, hc⟩ : ∃ c, c = a ++ b.take i := ⟨_, rfl⟩
      have hc' : a ++ b.take (i + 1) = c ++ [b[i]] := by rw [hc, List.take_succ_eq_append_getElem hlt, List.append_assoc]
      have hst := mapG_step (c := c) b[i] (by rw [hc, List.length_append, List.length_take]; omega)
      rw [← hc]
      refine pa [.b true, .v (filA b[i]), .d 4 6 [] (fun σ => (0, mapGx filA (addG (ksG c) b[i]) (cntV c)) :: σ.tail) [cntV c b[i], .tup [cntV c b[i], .int .i64 ((addG (ksG c) b[i]).idxOf b[i] : Nat)]], .f (.tup []) (fun σ => (0, mapGx filA (addG (ksG c) b[i]) (updG (cntV c) b[i] (.int .i64 (IntKind.i64.wrap (((c.count b[i] : Nat) : Int) + 1))))) :: σ.tail), .s] rfl ?_ ?_
      · (repeat' with_reducible apply AllP_cons) <;> try exact aC
        all_goals first
          | exact OpSpec.gget (z := .int .i64 0) fileKey rfl (Tryz.underlying84) rfl rfl rfl rfl cntV_no
          | exact OpSpec.gget (z := .int .i64 0) fileKey rfl (Tryz.underlying84) rfl rfl rfl rfl (fun h => cntV_no fun h' => h (addG_mem.2 (.inl h')))
          | exact OpSpec.gentry (z := .int .i64 0) fileKey rfl (Tryz.underlying84) rfl rfl rfl rfl cntV_no rfl
          | exact OpSpec.gstore (s := b[i]) rfl rfl rfl rfl rfl (addG_mem.2 (.inr rfl)) (addG_nodup (ksG_nodup _)) rfl
      refine S_drop (id := 1) rfl ?_ ⟨.skip, _, .inr ⟨_, _, _, rfl⟩⟩
      refine S_heap [(0, mapGx filA (ksG (c ++ [b[i]])) (cntV (c ++ [b[i]]))), (u + (i + 1), none)] ?_ ?_
      · rw [← hst]; rfl
      refine pB [] rfl ?_
      exact S_round (i + 1) (by show b.length - (i + 1) < b.length - i; omega) hlt (.cons rfl (.cons rfl (.cons rfl (.cons (nX (by omega)) (.nil _))))) (by rw [hc'])
    have hil : i = b.length := by omega
    subst hil
    have e1 : decide ((b.length : Int) < (((fils b).length : Nat) : Int)) = false := decide_eq_false (by omega)
    rw [List.take_length]
    generalize hw : u + b.length = w
    obtain ⟨c, hc⟩ : ∃ c, c = a ++ b := ⟨_, rfl⟩
    rw [← hc]
    have hcl : c.length ≤ 120 := by rw [hc, List.length_append]; omega
    have hkl := ksG_len c
    refine pa [.b false, .f (.map 1 (w + 1)) (fun σ => [(0, mapGx filA (ksG c) (cntV c)), (w + 1, some (.map [] (some ([], 0))))])] rfl ?_ ?_
    · (repeat' with_reducible apply AllP_cons) <;> try exact aC
      · exact OpSpec.mapN (C := []) rfl trivial
    refine S_unstamp (id := 1) rfl ?_ ⟨.skip, _, .inr ⟨_, _, _, rfl⟩⟩
    obtain ⟨N, hN⟩ : ∃ N, N = (ksG c).length := ⟨_, rfl⟩
    have hgx : ∀ v : Nat, ((v, mapGx filA (ksG c) (cntV c)) : Nat × Option Box) = (v, some (.map (mapG filA (ksG c) (cntV c)) (some (List.range N, N)))) := fun v => by rw [hN]; rfl
    rw [hgx]
    refine pa [.f (.ptr 2 0 0) (fun σ => [(0, some (.map (mapG filA (ksG c) (cntV c)) (some (List.range N, N)))), (w + 1, some (.map [] none)), (0, some (.miter 0 0 N [] N))])] rfl ?_ ?_
    · (repeat' with_reducible apply AllP_cons) <;> try exact aC
      · exact OpSpec.mapN (C := [0 = 0]) rfl ⟨rfl, trivial⟩
    refine S_dead ?_ ⟨_, _, .inl rfl⟩
    have hnat : ∀ sn : List Nat, sn.Nodup → (∀ x ∈ sn, x < N) → sn.length ≤ N := fun sn h1 h2 => by
      have := List.Nodup.length_le_of_subset (l₂ := List.range N) h1 fun x hx => List.mem_range.2 (h2 x hx)
      simpa using this
    refine S_while (α := List Nat) (fun sn => [(12, .map 1 (w + 1)), (50, .ptr 2 0 0)]) (fun sn => [(0, some (.map (mapG filA (ksG c) (cntV c)) (some (List.range N, N)))), (w + 1, mapBx (ksD c sn) (fun _ => .bool true)), (0, some (.miter 0 0 N sn N)), (sn.length, none)]) (fun sn => sn.Nodup ∧ ∀ x ∈ sn, x < N) (fun sn => N - sn.length) []
      ⟨.nil, fun x h => by cases h⟩ (.cons rfl (.cons rfl (.nil _))) rfl ?_
    rintro sn ⟨hs1, hs2⟩
    refine pB [] rfl ?_
    refine S_mnext (id := 2) (ver := 0) (mid := 0) (mver := 0) (since := N) (last := N) (c := N) (seen := sn) (bs := List.range N) (kvs := mapG filA (ksG c) (cntV c)) rfl rfl rfl rfl (fun b hb => List.mem_range.1 hb) (Nat.le_refl _) rfl rfl ?_ ?_
    · intro i bb hi hb hns
      have hi2 : i < (ksG c).length := by simpa [mapG] using hi
      obtain rfl : i = bb := by
        rw [List.getElem?_range (by omega)] at hb
        exact Option.some.inj hb
      have hkv : (mapG filA (ksG c) (cntV c))[i]? = some (filA (ksG c)[i], cntV c (ksG c)[i]) := by simp [mapG, List.getElem?_eq_getElem hi2]
      have hadd := ksD_add c sn hi2
      have hn2 : (sn ++ [i]).Nodup := List.nodup_append.2 ⟨hs1, by simp, fun a ha b hb => by simp at hb; subst hb; exact fun e => hns (e ▸ ha)⟩
      have hm2 : ∀ x ∈ sn ++ [i], x < N := fun x hx => by
        rcases List.mem_append.1 hx with hx | hx
        · exact hs2 x hx
        · simp at hx; omega
      have hlen2 := hnat _ hn2 hm2
      rw [List.length_append] at hlen2
      have hlen2 : sn.length + 1 ≤ N := hlen2
      obtain ⟨f, hf⟩ : ∃ f, f = (ksG c)[i] := ⟨_, rfl⟩
      rw [← hf] at hkv hadd
      by_cases hc1 : c.count f = 1
      · rw [if_pos hc1] at hadd
        have e2 : (((c.count f : Nat) : Int) == 1) = true := by rw [hc1]; rfl
        refine pa [.b true, .v (.tup [filA f, cntV c f]), .b true] rfl ?_ ?_
        · (repeat' with_reducible apply AllP_cons) <;> try exact aC
          · exact OpSpec.entryG (id := 2) (ver := 0) (mid := 0) (mver := 0) (since := N) (c := N) (i := i) (b := i) (seen := sn) (bs := List.range N) rfl rfl rfl rfl hb hkv
        refine pan 1 [.f (.tup []) (fun σ => σ.set 1 (w + 1, mapBx (addK (ksD c sn) f.path) (fun _ => .bool true)))] rfl ?_ ?_
        · (repeat' with_reducible apply AllP_cons) <;> try exact aC
          · exact OpSpec.mput (kt := 9) (et := 4) (ks := ksD c sn) (val := fun _ => .bool true) (s := f.path) (v := .bool true) rfl (Tryz.underlying74) rfl rfl rfl rfl rfl (ksD_nodup c sn) (by rw [updF_const])
        refine S_drop (id := 3) rfl ?_ ⟨.skip, _, .inr ⟨_, _, _, rfl⟩⟩
        refine S_heap [(0, some (.map (mapG filA (ksG c) (cntV c)) (some (List.range N, N)))), (w + 1, mapBx (ksD c (sn ++ [i])) (fun _ => .bool true)), (0, some (.miter 0 0 N (sn ++ [i]) N)), ((sn ++ [i]).length, none)] ?_ ?_
        · rw [hadd, List.length_append]; rfl
        refine pB [] rfl ?_
        exact S_round (sn ++ [i]) (by show N - (sn ++ [i]).length < N - sn.length; rw [List.length_append]; show N - (sn.length + 1) < _; omega) ⟨hn2, hm2⟩ (.cons rfl (.cons rfl (.nil _))) rfl
      · rw [if_neg hc1] at hadd
        have e2 : (((c.count f : Nat) : Int) == 1) = false := by simpa using fun h => hc1 (by omega)
        refine pa [.b true, .v (.tup [filA f, cntV c f])] rfl ?_ ?_
        · (repeat' with_reducible apply AllP_cons) <;> try exact aC
          · exact OpSpec.entryG (id := 2) (ver := 0) (mid := 0) (mver := 0) (since := N) (c := N) (i := i) (b := i) (seen := sn) (bs := List.range N) rfl rfl rfl rfl hb hkv
        refine S_drop (id := 3) rfl ?_ ⟨_, _, .inl rfl⟩
        refine S_heap [(0, some (.map (mapG filA (ksG c) (cntV c)) (some (List.range N, N)))), (w + 1, mapBx (ksD c (sn ++ [i])) (fun _ => .bool true)), (0, some (.miter 0 0 N (sn ++ [i]) N)), ((sn ++ [i]).length, none)] ?_ ?_
        · rw [hadd, List.length_append]; rfl
        refine pB [.b false] rfl ?_
        exact S_round (sn ++ [i]) (by show N - (sn ++ [i]).length < N - sn.length; rw [List.length_append]; show N - (sn.length + 1) < _; omega) ⟨hn2, hm2⟩ (.cons rfl (.cons rfl (.nil _))) rfl
    · intro hall
      have hfin := ksD_all (c := c) (sn := sn) (by rw [← hN]; exact hall)
      have hkn := ksD_nodup c sn
      have hkm : ∀ p ∈ ksD c sn, p.length ≤ 1000000000 := by
        intro p hp
        obtain ⟨i, _, f, h1, _, rfl⟩ := (ksD_mem sn).1 hp
        have hf := ksG_mem.1 (List.mem_of_getElem? h1)
        rw [hc] at hf
        rcases List.mem_append.1 hf with hf | hf
        · have := (path_fst (hda.path f hf)).2.1; omega
        · have := (path_fst (hdb.path f hf)).2.1; omega
      have hkl2 : (ksD c sn).length ≤ c.length := by
        have h1 : (ksD c sn).length ≤ ((ksG c).map Fil.path).length := List.Nodup.length_le_of_subset hkn fun p hp => by
          obtain ⟨i, _, f, h1, _, rfl⟩ := (ksD_mem sn).1 hp
          exact List.mem_map_of_mem (List.mem_of_getElem? h1)
        rw [List.length_map] at h1
        omega
      rw [← hfin]
      refine pa [.b false, .f (.func (.func 94) [] [.ptr 3 (sn.length + 1) 0]) (fun σ => [(0, some (.map (mapG filA (ksG c) (cntV c)) (some (List.range N, N)))), (w + 1, mapBx (ksD c sn) (fun _ => .bool true)), (0, some (.miter 0 0 N sn N)), (sn.length + 1, some (.cells [.map 1 (w + 1)] ⟨false, some 74⟩))]), .k (.sl true false 1 ((sortT (ksD c sn)).map AV.str))] rfl ?_ ?_
      · (repeat' with_reducible apply AllP_cons) <;> try exact aC
        · exact KeysB_ok rfl
        · exact SortedB_ok (ks := ksD c sn) (val := fun _ => .bool true) rfl rfl hkn (by omega) hkm
      exact S_retc (.tup (by intro x hx; simp at hx; rcases hx with rfl | rfl; exact .sl (fun _ => rfl) (texts_any _); exact .int)) rfl trivial rfl
end Go.Proofs.YtpehmhlgldbeoaaGreatDoor
end
section
set_option linter.unusedVariables false
set_option linter.unusedSimpArgs false
set_option maxRecDepth 20000
namespace Go.Proofs.YtpehmhlgldbeoaaGreatDoor
open Go Go.Ab
theorem xor1_ok (x y : Int) : Calc cx 119 [.int .i64 x, .int .i64 y] (.int .i64 ((IntKind.i64.wrap (x + y)).tmod 2)) :=
  pure_intro (fun a w => Tryz.call119 a w) Tryz.func119 rfl Tryz.ntmps119 rfl .int fun B => by
    refine ab 1000 rfl ⟨by decide, trivial⟩ ?_
    refine S_ret ⟨_, _, rfl, trivial, _, rfl, .refl .int⟩
def bitsN (G : Nat → Nat → Nat) : Nat → Nat → Nat → Nat
  | 0, _, _ => 0
  | k + 1, a, b => G (a % 2) (b % 2) + 2 * bitsN G k (a / 2) (b / 2)
theorem bits_ok (G : Nat → Nat → Nat) (f : FuncId) (hG : ∀ x y, x < 2 → y < 2 → G x y < 2 ∧ Calc cx f [.int .i64 x, .int .i64 y] (.int .i64 (G x y))) (a b : Nat) (ha : a < 4294967296) (hb : b < 4294967296) :
    Calc cx 118 [.int .i64 a, .int .i64 b, .func (.func f) [] []] (.int .i64 (bitsN G 32 a b)) :=
  pure_intro (fun a w => Tryz.call118 a w) Tryz.func118 rfl Tryz.ntmps118 rfl .int fun B => by
    refine ab 1000 rfl trivial ?_
    refine S_while (α := Nat × Nat × Nat × Nat) (fun (i, a, b, n) => [(0, .int .i64 a), (1, .int .i64 b), (2, .func (.func f) [] []), (7, .int .i64 n), (8, .int .i64 ((2 ^ i : Nat) : Int)), (9, .int .i64 i)]) (fun _ => [])
      (fun (i, a', b', n) => i ≤ 32 ∧ a' < 4294967296 ∧ b' < 4294967296 ∧ n < 2 ^ i ∧ n + 2 ^ i * bitsN G (32 - i) a' b' = bitsN G 32 a b) (fun (i, _) => 32 - i) (0, a, b, 0)
      ⟨by decide, ha, hb, by decide, by simp⟩ (.cons rfl (.cons rfl (.cons rfl (.cons rfl (.cons rfl (.cons rfl (.nil _))))))) rfl ?_
    rintro ⟨i, a', b', n⟩ ⟨hi, ha', hb', hn, hN⟩
    have hG' := hG (a' % 2) (b' % 2) (Nat.mod_lt _ (by decide)) (Nat.mod_lt _ (by decide))
    have hp : 2 ^ i ≤ 2 ^ 32 := Nat.pow_le_pow_right (by decide) hi
    refine ab 1000 rfl trivial ?_
    refine S_dec rfl (fun h => ?_) (fun h => ?_)
    · have hi32 : i < 32 := by omega
      refine ab 1000 rfl ⟨by decide, by decide, trivial⟩ ?_
      refine S_pure rfl rfl rfl hG'.2 (.cons (.refl .int) (.cons (.refl .int) (.nil _))) ?_
      refine ab 1000 rfl ⟨by decide, by decide, trivial⟩ ?_
      have hg : G (a' % 2) (b' % 2) < 2 := hG'.1
      have hm : 2 ^ i * G (a' % 2) (b' % 2) ≤ 2 ^ i := by
        rcases Nat.lt_or_ge (G (a' % 2) (b' % 2)) 1 with h | h
        · rw [show G (a' % 2) (b' % 2) = 0 by omega]; simp
        · rw [show G (a' % 2) (b' % 2) = 1 by omega]; simp
      refine S_round (i + 1, a' / 2, b' / 2, n + 2 ^ i * G (a' % 2) (b' % 2)) ?_ ⟨by omega, by omega, by omega, ?_, ?_⟩ (.cons ?_ (.cons ?_ (.cons rfl (.cons ?_ (.cons ?_ (.cons ?_ (.nil _))))))) rfl
      · show 32 - (i + 1) < 32 - i; omega
      · show n + _ < 2 ^ (i + 1); rw [Nat.pow_succ]; omega
      · show n + 2 ^ i * G (a' % 2) (b' % 2) + 2 ^ (i + 1) * bitsN G (32 - (i + 1)) (a' / 2) (b' / 2) = _
        rw [← hN, show 32 - i = (32 - (i + 1)) + 1 by omega, bitsN, Nat.mul_add, Nat.pow_succ, Nat.mul_assoc (2 ^ i) 2]; omega
      · exact ai64 rfl (by omega)
      · exact ai64 rfl (by omega)
      · exact ai64 (congrArg (fun z : Int => (n : Int) + z) (w64 (k := 2 ^ i * G (a' % 2) (b' % 2)) rfl (by omega))) (by omega)
      · exact ai64 (by rw [Nat.pow_succ]; omega) (by rw [Nat.pow_succ]; omega)
      · exact ai64 rfl (by omega)
    · have hi32 : i = 32 := by omega
      subst hi32
      refine ab 1000 rfl trivial ?_
      refine S_ret ⟨_, _, rfl, trivial, _, rfl, ?_⟩
      rw [show bitsN G 32 a b = n by rw [← hN]; simp [bitsN]]
      exact .refl .int
theorem xor1_nat (x y : Nat) (hx : x < 2) (hy : y < 2) : (x + y) % 2 < 2 ∧ Calc cx 119 [.int .i64 x, .int .i64 y] (.int .i64 ((x + y) % 2 : Nat)) := by
  refine ⟨Nat.mod_lt _ (by decide), ?_⟩
  have h := xor1_ok x y
  rw [show (x : Int) + (y : Int) = ((x + y : Nat) : Int) from rfl, w64 (k := x + y) rfl (by omega)] at h
  exact h
def xor2 (a b : Nat) : Nat := bitsN (fun x y => (x + y) % 2) 32 a b
theorem bitsN_lt (G : Nat → Nat → Nat) (hG : ∀ x y, x < 2 → y < 2 → G x y < 2) : ∀ k a b, bitsN G k a b < 2 ^ k
  | 0, _, _ => by simp [bitsN]
  | k + 1, a, b => by
    have h := bitsN_lt G hG k (a / 2) (b / 2)
    have h1 := hG (a % 2) (b % 2) (Nat.mod_lt _ (by decide)) (Nat.mod_lt _ (by decide))
    rw [bitsN, Nat.pow_succ]; omega
theorem xor2_lt (a b : Nat) : xor2 a b < 4294967296 := bitsN_lt _ (fun x y _ _ => Nat.mod_lt _ (by decide)) 32 a b
theorem xor2_ok (a b : Nat) (ha : a < 4294967296) (hb : b < 4294967296) : Calc cx 118 [.int .i64 a, .int .i64 b, .func (.func 119) [] []] (.int .i64 (xor2 a b)) := by
  unfold xor2
  exact bits_ok _ _ xor1_nat a b ha hb
def xorL (l : List Nat) : Nat := l.foldl xor2 0
def ints (l : List Nat) : List AV := l.map fun (x : Nat) => .int .i64 x
theorem xor_ok {st fl : Bool} (l : List Nat) (hl : ∀ x ∈ l, x < 4294967296) (hn : l.length ≤ 4611686018427387904) : Calc cx 82 [.sl st fl 1 (ints l)] (.int .i64 (xorL l)) :=
  pure_intro (fun a w => Tryz.call82 a w) Tryz.func82 rfl Tryz.ntmps82 rfl .int fun B => by
    refine ab 1000 rfl trivial ?_
    refine S_while (α := Nat × Nat) (fun (i, n) => [(0, .sl st fl 1 (ints l)), (3, .int .i64 n), (4, .int .i64 i)]) (fun _ => []) (fun (i, n) => i ≤ l.length ∧ n < 4294967296 ∧ (l.drop i).foldl xor2 n = xorL l) (fun (i, _) => l.length - i) (0, 0)
      ⟨by simp, by decide, by simp [xorL]⟩ (.cons rfl (.cons rfl (.cons rfl (.nil _)))) rfl ?_
    rintro ⟨i, n⟩ ⟨hi, hn', hN⟩
    refine ab 1000 rfl trivial ?_
    refine S_dec rfl (fun h => ?_) (fun h => ?_)
    · have hil : i < l.length := by simp [ints] at h; omega
      refine ab 1000 rfl trivial ?_
      refine S_index (.int .i64 l[i]) rfl rfl rfl ⟨rfl, by omega, by simp [ints, List.getElem?_eq_getElem hil], trivial⟩ ?_
      refine ab 1000 rfl trivial ?_
      have hx := hl _ (List.getElem_mem hil)
      refine S_pure rfl rfl rfl (xor2_ok n l[i] hn' hx) (.cons (.refl .int) (.cons (.refl .int) (.cons (.refl (.func (by simp) (by simp))) (.nil _)))) ?_
      refine ab 1000 rfl trivial ?_
      refine S_round (i + 1, xor2 n l[i]) (by show l.length - (i + 1) < l.length - i; omega) ⟨hil, xor2_lt _ _, ?_⟩ (.cons rfl (.cons rfl (.cons (ai64 rfl (by omega)) (.nil _)))) rfl
      show (l.drop (i + 1)).foldl xor2 (xor2 n l[i]) = _
      rw [← hN, List.drop_eq_getElem_cons hil, List.foldl_cons]
    · have hil : i = l.length := by simp [ints] at h; omega
      subst hil
      refine ab 1000 rfl trivial ?_
      refine S_ret ⟨_, _, rfl, trivial, _, rfl, ?_⟩
      rw [← hN]; simp
      exact .refl .int
end Go.Proofs.YtpehmhlgldbeoaaGreatDoor
end
section
set_option linter.unusedVariables false
set_option linter.unusedSimpArgs false
set_option maxRecDepth 20000
namespace Go.Proofs.YtpehmhlgldbeoaaGreatDoor
open Go Go.Ab
theorem xor_half (a b : Nat) : a ^^^ b = (a % 2 + b % 2) % 2 + 2 * ((a / 2) ^^^ (b / 2)) := by
  have h1 : (a ^^^ b) / 2 = (a / 2) ^^^ (b / 2) := by
    have := Nat.shiftRight_xor_distrib (a := a) (b := b) (i := 1)
    simpa [Nat.shiftRight_eq_div_pow] using this
  have h2 : (a ^^^ b) % 2 = (a % 2 + b % 2) % 2 := by
    clear h1
    have h := @Nat.xor_mod_two_eq_one a b
    have hz := Nat.mod_two_eq_zero_or_one (a ^^^ b)
    generalize (a ^^^ b) % 2 = z at *
    rcases Nat.mod_two_eq_zero_or_one a with ha | ha <;> rcases Nat.mod_two_eq_zero_or_one b with hb | hb <;> rw [ha, hb] at h ⊢ <;> rcases hz with rfl | rfl <;> simp at h ⊢
  rw [← h1, ← h2]; omega
theorem bitsN_xor : ∀ k a b, bitsN (fun x y => (x + y) % 2) k a b = (a ^^^ b) % 2 ^ k
  | 0, a, b => by simp [bitsN, Nat.mod_one]
  | k + 1, a, b => by
    rw [bitsN, bitsN_xor k, xor_half a b, Nat.pow_succ, Nat.mul_comm (2 ^ k) 2, Nat.mod_mul]
    have h : (a % 2 + b % 2) % 2 < 2 := Nat.mod_lt _ (by decide)
    generalize (a % 2 + b % 2) % 2 = x at *
    generalize (a / 2) ^^^ (b / 2) = y at *
    have e1 : (x + 2 * y) % 2 = x := by omega
    have e2 : (x + 2 * y) / 2 = y := by omega
    rw [e1, e2]
theorem xor2_eq {a b : Nat} (ha : a < 4294967296) (hb : b < 4294967296) : xor2 a b = a ^^^ b := by
  unfold xor2
  rw [bitsN_xor]
  exact Nat.mod_eq_of_lt (Nat.xor_lt_two_pow (n := 32) ha hb)
theorem xorL_two {a b : Nat} (ha : a < 4294967296) (hb : b < 4294967296) : xorL [a, b] = a ^^^ b := by
  simp only [xorL, List.foldl_cons, List.foldl_nil]
  rw [xor2_eq (by decide) ha, Nat.zero_xor, xor2_eq ha hb]
theorem xorL_three {a b c : Nat} (ha : a < 4294967296) (hb : b < 4294967296) (hc : c < 4294967296) : xorL [a, b, c] = a ^^^ b ^^^ c := by
  simp only [xorL, List.foldl_cons, List.foldl_nil]
  rw [xor2_eq (by decide) ha, Nat.zero_xor, xor2_eq ha hb, xor2_eq (Nat.xor_lt_two_pow (n := 32) ha hb) hc]
end Go.Proofs.YtpehmhlgldbeoaaGreatDoor
end
section
set_option linter.unusedVariables false
set_option linter.unusedSimpArgs false
set_option maxRecDepth 20000
namespace Go.Proofs.YtpehmhlgldbeoaaGreatDoor
open Go Go.Ab
theorem Pow2_ok (m : Nat) (hm : m ≤ 62) : Calc cx 79 [.int .i64 m] (.int .i64 ((2 ^ m : Nat) : Int)) :=
  pure_intro (fun a w => Tryz.call79 a w) Tryz.func79 rfl Tryz.ntmps79 rfl .int fun B => by
    refine ab 1000 rfl trivial ?_
    refine S_while (α := Nat) (fun i => [(0, .int .i64 ((m - i : Nat) : Int)), (3, .int .i64 ((2 ^ i : Nat) : Int))]) (fun _ => []) (fun i => i ≤ m) (fun i => m - i) 0 (Nat.zero_le _) (.cons rfl (.cons rfl (.nil _))) rfl ?_
    intro i hi
    have hp : 2 ^ i ≤ 2 ^ 62 := Nat.pow_le_pow_right (by decide) (by omega)
    refine ab 1000 rfl trivial ?_
    refine S_dec rfl (fun h => ?_) (fun h => ?_)
    · have hil : i < m := by omega
      have hp2 : 2 ^ (i + 1) = 2 * 2 ^ i := by rw [Nat.pow_succ]; omega
      have hp3 : 2 ^ (i + 1) ≤ 2 ^ 62 := Nat.pow_le_pow_right (by decide) (by omega)
      refine ab 1000 rfl trivial ?_
      refine S_round (i + 1) (by show m - (i + 1) < m - i; omega) hil (.cons ?_ (.cons ?_ (.nil _))) rfl
      · exact ai64 (k := m - (i + 1)) (by omega) (by omega)
      · exact ai64 (k := 2 ^ (i + 1)) (by rw [hp2]; rfl) (by omega)
    · have him : i = m := by omega
      subst him
      refine ab 1000 rfl trivial ?_
      exact S_retc .int rfl trivial rfl
end Go.Proofs.YtpehmhlgldbeoaaGreatDoor
end
section
set_option linter.unusedVariables false
set_option linter.unusedSimpArgs false
set_option maxRecDepth 20000
namespace Go.Proofs.YtpehmhlgldbeoaaGreatDoor
open Go Go.Ab
theorem and_half (a b : Nat) : a &&& b = (a % 2) * (b % 2) + 2 * ((a / 2) &&& (b / 2)) := by
  have h1 : (a &&& b) / 2 = (a / 2) &&& (b / 2) := by
    have := Nat.shiftRight_and_distrib (a := a) (b := b) (i := 1)
    simpa [Nat.shiftRight_eq_div_pow] using this
  have h2 : (a &&& b) % 2 = (a % 2) * (b % 2) := by
    have h := @Nat.and_mod_two_eq_one a b
    have hz := Nat.mod_two_eq_zero_or_one (a &&& b)
    clear h1
    generalize (a &&& b) % 2 = z at *
    rcases Nat.mod_two_eq_zero_or_one a with ha | ha <;> rcases Nat.mod_two_eq_zero_or_one b with hb | hb <;> rw [ha, hb] at h ⊢ <;> rcases hz with rfl | rfl <;> simp at h ⊢
  rw [← h1, ← h2]; omega
theorem bitsN_and : ∀ k a b, bitsN (fun x y => x * y) k a b = (a &&& b) % 2 ^ k
  | 0, a, b => by simp [bitsN, Nat.mod_one]
  | k + 1, a, b => by
    rw [bitsN, bitsN_and k, and_half a b, Nat.pow_succ, Nat.mul_comm (2 ^ k) 2, Nat.mod_mul]
    have h : (a % 2) * (b % 2) < 2 := by
      rcases Nat.mod_two_eq_zero_or_one a with ha | ha <;> rcases Nat.mod_two_eq_zero_or_one b with hb | hb <;> rw [ha, hb] <;> decide
    generalize (a % 2) * (b % 2) = x at *
    generalize (a / 2) &&& (b / 2) = y at *
    have e1 : (x + 2 * y) % 2 = x := by omega
    have e2 : (x + 2 * y) / 2 = y := by omega
    rw [e1, e2]
theorem and1_nat (x y : Nat) (hx : x < 2) (hy : y < 2) : x * y < 2 ∧ Calc cx 120 [.int .i64 x, .int .i64 y] (.int .i64 (x * y : Nat)) := by
  have h2 : x * y < 2 := by
    have : x = 0 ∨ x = 1 := by omega
    rcases this with rfl | rfl <;> simp <;> omega
  refine ⟨h2, pure_intro (fun a w => Tryz.call120 a w) Tryz.func120 rfl Tryz.ntmps120 rfl .int fun B => ?_⟩
  refine ab 1000 rfl trivial ?_
  refine S_retc .int rfl trivial ?_
  exact ai64 (by simp) (by omega)
theorem And_ok (a b : Nat) (ha : a < M32) (hb : b < M32) : Calc cx 85 [.int .i64 a, .int .i64 b] (.int .i64 (a &&& b : Nat)) :=
  pure_intro (fun a w => Tryz.call85 a w) Tryz.func85 rfl Tryz.ntmps85 rfl .int fun B => by
    have hc := bits_ok (fun x y => x * y) 120 and1_nat a b ha hb
    rw [bitsN_and, Nat.mod_eq_of_lt (show a &&& b < 2 ^ 32 from Nat.lt_of_le_of_lt Nat.and_le_left ha)] at hc
    refine ab 1000 rfl trivial ?_
    refine S_pure rfl rfl rfl hc (.cons (.refl .int) (.cons (.refl .int) (.cons (.refl (.func (by simp) (by simp))) (.nil _)))) ?_
    refine ab 1000 rfl trivial ?_
    exact S_retc .int rfl trivial rfl
theorem Wrap_ok (n : Nat) (hn : n ≤ 4611686018427387904) : Calc cx 84 [.int .i64 n] (.int .i64 (n % M32 : Nat)) :=
  pure_intro (fun a w => Tryz.call84 a w) Tryz.func84 rfl Tryz.ntmps84 rfl .int fun B => by
    have e : (n : Int).tmod 4294967296 = ((n % M32 : Nat) : Int) := rfl
    refine ab 1000 rfl ⟨by decide, trivial⟩ ?_
    refine S_dec rfl (fun h => ?_) (fun h => ?_)
    · exfalso
      have h : (n : Int).tmod 4294967296 < 0 := h
      rw [e] at h; omega
    · refine ab 1000 rfl trivial ?_
      exact S_retc .int rfl trivial rfl
theorem rotr_sum {x n : Nat} (h1 : n ≤ 32) : x / 2 ^ n + x % 2 ^ n * 2 ^ (32 - n) = rotr x n ∨ M32 ≤ x := by
  rcases Nat.lt_or_ge x M32 with hx | hx
  · left
    have e : M32 = 2 ^ n * 2 ^ (32 - n) := by rw [← Nat.pow_add, show n + (32 - n) = 32 by omega]; rfl
    have e2 : x * 2 ^ (32 - n) % M32 = x % 2 ^ n * 2 ^ (32 - n) := by rw [e, Nat.mul_mod_mul_right]
    have h3 : x / 2 ^ n < 2 ^ (32 - n) := by
      rw [Nat.div_lt_iff_lt_mul (Nat.two_pow_pos n), Nat.mul_comm, ← e]; exact hx
    rw [rotr, e2, Nat.mul_comm (x % 2 ^ n), ← Nat.two_pow_add_eq_or_of_lt h3, Nat.add_comm]
  · exact .inr hx
theorem Right_ok (x n : Nat) (hx : x < M32) (h1 : 1 ≤ n) (h2 : n ≤ 31) : Calc cx 83 [.int .i64 x, .int .i64 n] (.int .i64 (rotr x n : Nat)) :=
  pure_intro (fun a w => Tryz.call83 a w) Tryz.func83 rfl Tryz.ntmps83 rfl .int fun B => by
    have hs := (rotr_sum (x := x) (n := n) (by omega)).resolve_right (by omega)
    have hlt := rotr_lt n hx
    have hw : IntKind.i64.wrap (32 - (n : Int)) = ((32 - n : Nat) : Int) := w64 (by omega) (by omega)
    have p1 : 0 < 2 ^ n := Nat.two_pow_pos n
    have p2 : 0 < 2 ^ (32 - n) := Nat.two_pow_pos _
    have hx' : x < 4294967296 := hx
    have q1 : x / 2 ^ n ≤ x := Nat.div_le_self _ _
    have hlt' : rotr x n < 4294967296 := hlt
    have d1 : IntKind.i64.wrap ((x : Int).tdiv ((2 ^ n : Nat) : Int)) = ((x / 2 ^ n : Nat) : Int) := w64 rfl (by omega)
    have d2 : (x : Int).tmod ((2 ^ n : Nat) : Int) = ((x % 2 ^ n : Nat) : Int) := rfl
    have d0 : x % 2 ^ n * 2 ^ (32 - n) < 4294967296 := Nat.lt_of_le_of_lt (Nat.le_add_left _ _) (hs ▸ hlt')
    have d3 : IntKind.i64.wrap (((x % 2 ^ n : Nat) : Int) * ((2 ^ (32 - n) : Nat) : Int)) = ((x % 2 ^ n * 2 ^ (32 - n) : Nat) : Int) := w64 (by simp) (by generalize x % 2 ^ n * 2 ^ (32 - n) = z at *; omega)
    refine ab 1000 rfl trivial ?_
    refine S_draw 13 [] [.int .i64 ((2 ^ n : Nat) : Int), .int .i64 ((2 ^ n : Nat) : Int), .int .i64 ((2 ^ (32 - n) : Nat) : Int)] rfl rfl rfl rfl ⟨rfl, rfl, ⟨_, Pow2_ok n (by omega), .cons (.refl .int) (.nil _)⟩, rfl, by omega, rfl, rfl, ⟨_, Pow2_ok n (by omega), .cons (.refl .int) (.nil _)⟩, rfl, by omega, rfl, rfl, ⟨_, Pow2_ok (32 - n) (by omega), .cons (by rw [← hw]; exact .refl .int) (.nil _)⟩, rfl, rfl, trivial⟩ ?_
    refine ab 1000 rfl trivial ?_
    refine S_retc .int rfl trivial ?_
    show AV.int .i64 (IntKind.i64.wrap (IntKind.i64.wrap ((x : Int).tdiv ((2 ^ n : Nat) : Int)) + IntKind.i64.wrap ((x : Int).tmod ((2 ^ n : Nat) : Int) * ((2 ^ (32 - n) : Nat) : Int)))) = _
    rw [d2, d1, d3]
    exact ai64 (by rw [← hs]; simp) (by omega)
theorem Constants_ok : Calc cx 80 [] (.sl true true 1 (ints kTab)) :=
  pure_intro (fun a w => Tryz.call80 a w) Tryz.func80 rfl Tryz.ntmps80 rfl (.sl (fun _ => rfl) (by intro x hx; obtain ⟨y, _, rfl⟩ := List.mem_map.1 hx; exact .int)) fun B => by
    refine ab 1000 rfl trivial ?_
    exact S_retc (.sl (fun _ => rfl) (by intro x hx; obtain ⟨y, _, rfl⟩ := List.mem_map.1 hx; exact .int)) rfl trivial rfl
def iB (v : Nat) (l : List Nat) : Nat × Option Box := (v, some (.cells (ints l) ⟨false, none⟩))
theorem Firsts_ok : CallOk cx 81 [] [] (fun o σ' => o = .ret (.ms 0 0 0 8 1 true) ∧ σ' = [iB 0 hTab]) :=
  callOk_intro (fun a w => Tryz.call81 a w) Tryz.func81 rfl Tryz.ntmps81 rfl fun B => by
    refine go (M := [1]) 1000 rfl trivial ?_
    exact S_ret ⟨_, _, rfl, trivial, rfl, rfl⟩
end Go.Proofs.YtpehmhlgldbeoaaGreatDoor
end
section
set_option linter.unusedVariables false
set_option linter.unusedSimpArgs false
set_option maxRecDepth 20000
namespace Go.Proofs.YtpehmhlgldbeoaaGreatDoor
open Go Go.Ab
theorem ints_len (l : List Nat) : (ints l).length = l.length := by simp [ints]
theorem ints_one (l : List Nat) : ∀ x ∈ ints l, x.one = true := by
  intro x hx; obtain ⟨y, _, rfl⟩ := List.mem_map.1 hx; rfl
theorem ints_any {st : Bool} (l : List Nat) : ∀ x ∈ ints l, Free st x := by
  intro x hx; obtain ⟨y, _, rfl⟩ := List.mem_map.1 hx; exact .int
theorem ints_get {l : List Nat} {i : Nat} (h : i < l.length) : (ints l)[i]? = some (.int .i64 (l.getD i 0 : Nat)) := by
  simp [ints, List.getD, h]
theorem ints_ld {l : List Nat} {i : Nat} (h : i < l.length) : ((ints l).drop i)[0]? = some (.int .i64 (l.getD i 0 : Nat)) := by
  simp [ints, List.getD, h]
theorem getD_mid (A : List Nat) (x : Nat) (B : List Nat) : (A ++ x :: B).getD A.length 0 = x := by simp [List.getD]
def WInv (p : List UInt8) (t : Nat) (w : List Nat) : Prop := w.length = t ∧ W32 w ∧ (t ≤ 16 → w = (words p).take t) ∧ (16 ≤ t → sched (64 - t) w = schedOf p)
theorem sum4 {Z a V b : Nat} (hZ : Z < M32) (ha : a < M32) (hV : V < M32) (hb : b < M32) :
    IntKind.i64.wrap (IntKind.i64.wrap (IntKind.i64.wrap ((Z : Int) + (a : Int)) + (V : Int)) + (b : Int)) = ((Z + a + V + b : Nat) : Int) ∧ Z + a + V + b ≤ 4611686018427387904 := by
  simp only [M32] at *
  have e1 : IntKind.i64.wrap ((Z : Int) + (a : Int)) = ((Z + a : Nat) : Int) := w64 (by omega) (by omega)
  have e2 : IntKind.i64.wrap (((Z + a : Nat) : Int) + (V : Int)) = ((Z + a + V : Nat) : Int) := w64 (by omega) (by omega)
  have e3 : IntKind.i64.wrap (((Z + a + V : Nat) : Int) + (b : Int)) = ((Z + a + V + b : Nat) : Int) := w64 (by omega) (by omega)
  rw [e1, e2, e3]
  exact ⟨rfl, by omega⟩
theorem sum5 {Z a V b d : Nat} (hZ : Z < M32) (ha : a < M32) (hV : V < M32) (hb : b < M32) (hd : d < M32) :
    IntKind.i64.wrap (IntKind.i64.wrap (IntKind.i64.wrap (IntKind.i64.wrap ((Z : Int) + (a : Int)) + (V : Int)) + (b : Int)) + (d : Int)) = ((Z + a + V + b + d : Nat) : Int) ∧ Z + a + V + b + d ≤ 4611686018427387904 := by
  obtain ⟨h1, _⟩ := sum4 hZ ha hV hb
  rw [h1]
  simp only [M32] at *
  exact ⟨w64 (by omega) (by omega), by omega⟩
theorem sum2 {Z a : Nat} (hZ : Z < M32) (ha : a < M32 + M32) : IntKind.i64.wrap ((Z : Int) + (a : Int)) = ((Z + a : Nat) : Int) ∧ Z + a ≤ 4611686018427387904 := by
  simp only [M32] at *
  exact ⟨w64 (by omega) (by omega), by omega⟩
theorem lt2 {a : Nat} (h : a < M32) : a < M32 + M32 := Nat.lt_of_lt_of_le h (Nat.le_add_left _ _)
theorem round_eq (v0 v1 v2 v3 v4 v5 v6 v7 kt wt : Nat) : round [v0, v1, v2, v3, v4, v5, v6, v7] (kt + wt) =
    [((v7 + Sig1 v4 + ((v4 &&& v5) ^^^ ((4294967295 - v4) &&& v6)) + kt + wt) % M32 + (Sig0 v0 + ((v0 &&& v1) ^^^ (v0 &&& v2) ^^^ (v1 &&& v2)))) % M32, v0, v1, v2,
      (v3 + (v7 + Sig1 v4 + ((v4 &&& v5) ^^^ ((4294967295 - v4) &&& v6)) + kt + wt) % M32) % M32, v4, v5, v6] := by
  simp only [round, List.getD, List.getElem?_cons_zero, List.getElem?_cons_succ, Option.getD_some]
  rw [Nat.add_mod_mod, ← Nat.add_assoc (v7 + Sig1 v4 + ((v4 &&& v5) ^^^ ((4294967295 - v4) &&& v6))) kt wt]
theorem div32 {X k : Nat} (hX : X < M32) : IntKind.i64.wrap ((X : Int).tdiv (k : Int)) = ((X / k : Nat) : Int) :=
  w64 rfl (by have := Nat.div_le_self X k; simp only [M32] at hX; omega)
set_option maxHeartbeats 8000000 in
theorem SumR_ok (s : List UInt8) (hs : s.length ≤ 70368744177664) : Calc cx 52 [.str s] (.str (sha s)) :=
  pure_intro (fun a w => Tryz.call52 a w) Tryz.func52 rfl Tryz.ntmps52 rfl .str fun B => by
    refine go (M := [30]) 1000 rfl ⟨?_, ?_, ?_, rfl, rfl, allOne_mem (cs := [.int .u8 128]) rfl, allOne_mem (cs := [.int .u8 128]) rfl, rfl, trivial⟩ ?_
    · show s.length + 1 ≤ 9223372036854775807; omega
    · show (s.length + 1) * 1 ≤ 140737488355328; omega
    · show 0 + s.length * 1 = (s.map byteAV).length; simp
    have hbl : ∀ k, ((s ++ [128] ++ List.replicate k (0 : UInt8))).length = s.length + 1 + k := fun k => by simp; omega
    have hpl : padLen s.length < 64 := Nat.mod_lt _ (by decide)
    refine S_while (α := Nat × Nat) (fun (u, k) => [(0, .str s), (3, .ms 0 u 0 (s.length + 1 + k) 1 false)]) (fun (u, k) => [bB u (s ++ [128] ++ List.replicate k 0) ⟨false, some 5⟩])
      (fun (u, k) => k ≤ padLen s.length) (fun (u, k) => padLen s.length - k) (1, 0)
      (Nat.zero_le _) (.cons rfl (.cons rfl (.nil _))) (by simp only [bB, List.replicate_zero, List.append_nil, List.map_append, List.map_cons, List.map_nil]; rfl) ?_
    rintro ⟨u, k⟩ hk
    refine ab 1000 rfl ⟨by decide, trivial⟩ ?_
    have hmod : (((s.length + 1 + k : Nat) : Int)).tmod 64 = (((s.length + 1 + k) % 64 : Nat) : Int) := rfl
    refine S_bne rfl (fun h56 => ?_) (fun h56 => ?_)
    · have h56 : (s.length + 1 + k) % 64 ≠ 56 := by
        have : ((((s.length + 1 + k : Nat) : Int)).tmod 64) ≠ 56 := h56
        rw [hmod] at this; omega
      have hkl : k < padLen s.length := by unfold padLen at *; omega
      refine ab 1000 rfl ⟨?_, ?_, ?_, rfl, rfl, allOne_mem (cs := [.int .u8 0]) rfl, allOne_mem (cs := [.int .u8 0]) rfl, rfl, trivial⟩ ?_
      · show s.length + 1 + k + 1 ≤ 9223372036854775807; omega
      · show (s.length + 1 + k + 1) * 1 ≤ 140737488355328; omega
      · show 0 + (s.length + 1 + k) * 1 = ((s ++ [128] ++ List.replicate k (0 : UInt8)).map byteAV).length
        rw [List.length_map, hbl]; omega
      refine S_round (u + 1, k + 1) (by show padLen s.length - (k + 1) < padLen s.length - k; omega) hkl (.cons rfl (.cons rfl (.nil _))) ?_
      show [(u + 1, some (Box.cells ((s ++ [128] ++ List.replicate k (0 : UInt8)).map byteAV ++ [.int .u8 0]) _))] = [bB (u + 1) (s ++ [128] ++ List.replicate (k + 1) 0) _]
      rw [List.replicate_succ', ← List.append_assoc]
      simp only [bB, List.map_append, List.map_cons, List.map_nil]
      rfl
    have h56 : (s.length + 1 + k) % 64 = 56 := by
      have : ((((s.length + 1 + k : Nat) : Int)).tmod 64) = 56 := h56
      rw [hmod] at this; omega
    have hkl : k = padLen s.length := by unfold padLen at *; omega
    subst hkl
    obtain ⟨base, hbase⟩ : ∃ base, base = s ++ [128] ++ List.replicate (padLen s.length) (0 : UInt8) := ⟨_, rfl⟩
    have hbl' : base.length = s.length + 1 + padLen s.length := by rw [hbase]; exact hbl _
    have hpd : padded s = base ++ be8 (8 * s.length) := by rw [hbase]; rfl
    have hw8 : IntKind.i64.wrap (8 * (s.length : Int)) = ((8 * s.length : Nat) : Int) := w64 (by omega) (by omega)
    refine ab 1000 rfl trivial ?_
    refine S_while (α := Nat × Nat) (fun (u, j) => [(3, .ms 0 u 0 (base.length + j) 1 false), (4, .int .i64 (8 * s.length : Nat)), (5, .int .i64 (7 - (j : Int)))]) (fun (u, j) => [bB u (base ++ (be8 (8 * s.length)).take j) ⟨false, some 5⟩])
      (fun (u, j) => j ≤ 8) (fun (u, j) => 8 - j) (u, 0)
      (Nat.zero_le _) (.cons (by rw [hbl']; rfl) (.cons (ai64 (by omega) (by omega)) (.cons rfl (.nil _)))) (by rw [hbase]; simp) ?_
    rintro ⟨u, j⟩ hj
    refine ab 1000 rfl trivial ?_
    refine S_dec rfl (fun hlt => ?_) (fun hlt => ?_)
    · have hj8 : j < 8 := by omega
      have hw3 : IntKind.i64.wrap (8 * (7 - (j : Int))) = ((8 * (7 - j) : Nat) : Int) := w64 (by omega) (by omega)
      refine ab 1000 rfl trivial ?_
      refine S_pure rfl rfl rfl (Pow2_ok (8 * (7 - j)) (by omega)) (.cons (by show Frz false _ (AV.int .i64 (IntKind.i64.wrap (8 * (7 - (j : Int))))) _; rw [hw3]; exact .refl .int) (.nil _)) ?_
      have hp0 : 0 < 2 ^ (8 * (7 - j)) := Nat.two_pow_pos _
      have e256 : (2 : Nat) ^ (8 * (7 - j)) = 256 ^ (7 - j) := by rw [show (256 : Nat) = 2 ^ 8 from rfl, ← Nat.pow_mul]
      have hval : AV.int .u8 (IntKind.u8.wrap ((IntKind.i64.wrap (((8 * s.length : Nat) : Int).tdiv ((2 ^ (8 * (7 - j)) : Nat) : Int))).tmod 256)) = byteAV (UInt8.ofNat (8 * s.length / 256 ^ (7 - j) % 256)) := by
        have hd : IntKind.i64.wrap (((8 * s.length : Nat) : Int).tdiv ((2 ^ (8 * (7 - j)) : Nat) : Int)) = ((8 * s.length / 256 ^ (7 - j) : Nat) : Int) := by
          rw [← e256]
          exact w64 rfl (by have := Nat.div_le_self (8 * s.length) (2 ^ (8 * (7 - j))); omega)
        rw [hd]
        show AV.int .u8 (IntKind.u8.wrap ((8 * s.length / 256 ^ (7 - j) % 256 : Nat) : Int)) = _
        rw [wrap_low rfl]
        exact byteAV_of (by simp [IntKind.bits]) (Nat.mod_lt _ (by decide))
      refine ab 1000 rfl ⟨?_, ?_, ?_, rfl, rfl, ?_, ?_, rfl, by decide, by omega, trivial⟩ ?_
      · show base.length + j + 1 ≤ 9223372036854775807; omega
      · show (base.length + j + 1) * 1 ≤ 140737488355328; omega
      · show 0 + (base.length + j) * 1 = ((base ++ (be8 (8 * s.length)).take j).map byteAV).length
        simp [be8]; omega
      · exact allOne_mem (cs := [.int .u8 _]) rfl
      · exact allOne_mem (cs := [.int .u8 _]) rfl
      refine S_round (u + 1, j + 1) (by show 8 - (j + 1) < 8 - j; omega) hj8 (.cons rfl (.cons rfl (.cons ?_ (.nil _)))) ?_
      · show AV.int .i64 (IntKind.i64.wrap (7 - (j : Int) - 1)) = .int .i64 (7 - ((j + 1 : Nat) : Int))
        exact ai64i (by omega) (by omega)
      · show [(u + 1, some (Box.cells ((base ++ (be8 (8 * s.length)).take j).map byteAV ++ [AV.int .u8 (IntKind.u8.wrap ((IntKind.i64.wrap (((8 * s.length : Nat) : Int).tdiv ((2 ^ (8 * (7 - j)) : Nat) : Int))).tmod 256))]) _))] = [bB (u + 1) (base ++ (be8 (8 * s.length)).take (j + 1)) _]
        rw [hval]
        have ht : (be8 (8 * s.length)).take (j + 1) = (be8 (8 * s.length)).take j ++ [UInt8.ofNat (8 * s.length / 256 ^ (7 - j) % 256)] := by
          rw [List.take_succ_eq_append_getElem (by simp [be8]; omega)]
          simp [be8]
        rw [ht]
        simp only [bB, List.map_append, List.map_cons, List.map_nil, List.append_assoc]
        rfl
    have hj8 : j = 8 := by omega
    subst hj8
    have htake : base ++ (be8 (8 * s.length)).take 8 = padded s := by rw [hpd, List.take_of_length_le (by simp [be8])]
    have hPl : (padded s).length = base.length + 8 := by rw [hpd, List.length_append]; simp [be8]
    have hPm := padded_mod s
    have hPb : (padded s).length ≤ 140737488355328 := by rw [padded_len]; omega
    refine S_heap [bB u (padded s) ⟨false, some 5⟩] (by rw [← htake]) ?_
    refine ab 1000 rfl trivial ?_
    refine S_pure rfl rfl rfl Constants_ok (.nil _) ?_
    refine ab 1000 rfl trivial ?_
    refine S_callf [] Firsts_ok rfl (.nil _) (Part.mk' (es := []) rfl rfl (.nil _)) rfl rfl ?_ (by rintro y σ1 ⟨h1, _⟩; cases h1)
    rintro y σ1 ⟨h1, rfl⟩
    cases h1
    refine ⟨.ms 1 0 0 8 1 true, [iB 0 hTab], .cons (.live (.cells (Rns.free (ints_any _)))) (.nil _), .ms rfl, ?_⟩
    refine S_heap [bB u (padded s) ⟨false, some 5⟩, iB 0 hTab] rfl ?_
    refine ab 1000 rfl trivial ?_
    refine S_dead ?_ ⟨_, _, .inl rfl⟩
    refine S_dead ?_ ⟨_, _, .inl rfl⟩
    refine S_dead ?_ ⟨_, _, .inl rfl⟩
    obtain ⟨P, hP⟩ : ∃ P, P = padded s := ⟨_, rfl⟩
    rw [← hP] at hPl hPm hPb ⊢
    have hHs : hashOf s = blocks (P.length / 64) hTab P := by rw [hP]; rfl
    refine S_while (α := Nat × List Nat × Nat × Nat × Nat) (fun (m, h, a, b, c) => [(3, .ms 0 u 0 P.length 1 false), (6, .sl true true 1 (ints kTab)), (7, .ms 1 0 0 8 1 true), (8, .int .i64 (64 * m : Nat))])
      (fun (m, h, a, b, c) => [bB u P ⟨false, some 5⟩, iB 0 h, (a, none), (b, none), (c, none)])
      (fun (m, h, a, b, c) => 64 * m ≤ P.length ∧ h.length = 8 ∧ W32 h ∧ blocks (P.length / 64 - m) h (P.drop (64 * m)) = hashOf s) (fun (m, h, a, b, c) => P.length - 64 * m) (0, hTab, 0, 0, 0)
      ⟨Nat.zero_le _, rfl, by show ∀ x ∈ hTab, x < M32; decide +kernel, by rw [hHs]; rfl⟩ (.cons (by rw [hPl]; rfl) (.cons rfl (.cons rfl (.cons rfl (.nil _))))) rfl ?_
    rintro ⟨m, h, a, b, c⟩ ⟨hm, hhl, hh32, hN⟩
    refine ab 1000 rfl trivial ?_
    refine S_dec rfl (fun hlt => ?_) (fun hlt => ?_)
    · have hm64 : 64 * m + 64 ≤ P.length := by omega
      obtain ⟨p, hp⟩ : ∃ p, p = P.drop (64 * m) := ⟨_, rfl⟩
      have hpl : 64 ≤ p.length := by rw [hp, List.length_drop]; omega
      have hpg : ∀ i, i < 64 → P.getD (64 * m + i) 0 = p.getD i 0 := by
        intro i hi
        rw [hp]
        simp [List.getD]
      refine ab 1000 rfl trivial ?_
      refine S_ghostF (t := 9) 1 ⟨false, none⟩ rfl rfl ⟨_, _, .inl rfl⟩ ?_
      refine S_while (α := Nat × List Nat × Nat) (fun (t, w, x) => [(3, .ms 0 u 0 P.length 1 false), (6, .sl true true 1 (ints kTab)), (7, .ms 1 0 0 8 1 true), (8, .int .i64 (64 * m : Nat)), (9, .ms 2 x 0 t 1 false), (10, .int .i64 (t : Nat))])
        (fun (t, w, x) => [bB u P ⟨false, some 5⟩, iB 0 h, iB x w, (b, none), (c, none)])
        (fun (t, w, x) => t ≤ 64 ∧ WInv p t w) (fun (t, w, x) => 64 - t) (0, [], a + 1)
        ⟨Nat.zero_le _, rfl, (by intro y hy; cases hy), fun _ => rfl, fun h => absurd h (by decide)⟩ (.cons rfl (.cons rfl (.cons rfl (.cons rfl (.cons rfl (.cons rfl (.nil _))))))) rfl ?_
      rintro ⟨t, w, x⟩ ⟨ht64, hwl, hw32, hw16, hws⟩
      have ht64 : t ≤ 64 := ht64
      refine ab 1000 rfl trivial ?_
      refine S_dec rfl (fun hlt => ?_) (fun hlt => ?_)
      · have ht : t < 64 := by omega
        refine ab 1000 rfl trivial ?_
        refine S_dec rfl (fun hlt => ?_) (fun hlt => ?_)
        · have ht16 : t < 16 := by omega
          have hw0 := hw16 (by omega)
          refine ab 1000 rfl trivial ?_
          refine S_while (α := Nat) (fun j => [(3, .ms 0 u 0 P.length 1 false), (6, .sl true true 1 (ints kTab)), (7, .ms 1 0 0 8 1 true), (8, .int .i64 (64 * m : Nat)), (9, .ms 2 x 0 t 1 false), (10, .int .i64 (t : Nat)), (11, .int .i64 (accW p (4 * t) j : Nat)), (12, .int .i64 (j : Nat))])
            (fun j => [bB u P ⟨false, some 5⟩, iB 0 h, iB x w, (b, none), (c, none)]) (fun j => j ≤ 4) (fun j => 4 - j) 0
            (Nat.zero_le _) (.cons rfl (.cons rfl (.cons rfl (.cons rfl (.cons rfl (.cons rfl (.cons rfl (.cons rfl (.nil _))))))))) rfl ?_
          intro j hj
          refine ab 1000 rfl trivial ?_
          refine S_dec rfl (fun hlt => ?_) (fun hlt => ?_)
          · have hj4 : j < 4 := by omega
            have hacc := accW_lt p (4 * t) j
            have hap : 256 ^ j ≤ 256 ^ 3 := Nat.pow_le_pow_right (by decide) (by omega)
            have hi1 : IntKind.i64.wrap (4 * (t : Int)) = ((4 * t : Nat) : Int) := w64 (by omega) (by omega)
            have hi2 : IntKind.i64.wrap (((64 * m : Nat) : Int) + ((4 * t : Nat) : Int)) = ((64 * m + 4 * t : Nat) : Int) := w64 (by omega) (by omega)
            have hi3 : IntKind.i64.wrap (((64 * m + 4 * t : Nat) : Int) + (j : Int)) = ((64 * m + (4 * t + j) : Nat) : Int) := w64 (by omega) (by omega)
            refine ab 1000 rfl trivial ?_
            refine S_index .top rfl rfl rfl ⟨rfl, by rw [hi1, hi2, hi3]; omega, by rw [hi1, hi2, hi3]; omega, trivial⟩ ?_
            refine S_load (byteAV (p.getD (4 * t + j) 0)) rfl rfl rfl ⟨rfl, ?_, trivial⟩ ?_
            · show ((P.map byteAV).drop (offN 0 (mulN (IntKind.i64.wrap (IntKind.i64.wrap (((64 * m : Nat) : Int) + IntKind.i64.wrap (4 * (t : Int))) + (j : Int))).toNat 1)))[0]? = _
              rw [hi1, hi2, hi3, offN_eq, mulN_eq, Int.toNat_natCast, Nat.mul_one, Nat.zero_add, bytes_ld (by omega), hpg _ (by omega)]
            refine ab 1000 rfl trivial ?_
            have hb8 := (p.getD (4 * t + j) 0).toNat_lt
            refine S_round (j + 1) (by show 4 - (j + 1) < 4 - j; omega) hj4 (.cons rfl (.cons rfl (.cons rfl (.cons rfl (.cons rfl (.cons rfl (.cons ?_ (.cons (ai64 rfl (by omega)) (.nil _))))))))) rfl
            show AV.int .i64 (IntKind.i64.wrap (IntKind.i64.wrap (256 * ((accW p (4 * t) j : Nat) : Int)) + IntKind.i64.wrap (((p.getD (4 * t + j) 0).toNat : Nat) : Int))) = .int .i64 (accW p (4 * t) (j + 1) : Nat)
            rw [w64 (x := 256 * ((accW p (4 * t) j : Nat) : Int)) (k := 256 * accW p (4 * t) j) (by omega) (by omega), w64 (k := (p.getD (4 * t + j) 0).toNat) rfl (by omega)]
            exact ai64 (by rw [accW]; omega) (by rw [accW]; omega)
          · have hj4 : j = 4 := by omega
            subst hj4
            have hacc := accW_lt p (4 * t) 4
            refine ab 1000 rfl ⟨?_, ?_, ?_, rfl, rfl, ?_, ?_, rfl, trivial⟩ ?_
            · show t + 1 ≤ 9223372036854775807; omega
            · show (t + 1) * 8 ≤ 140737488355328; omega
            · show 0 + t * 1 = (ints w).length; rw [ints_len]; omega
            · exact allOne_mem (cs := [.int .i64 _]) rfl
            · exact allOne_mem (cs := [.int .i64 _]) rfl
            have hnext : (words p).take (t + 1) = w ++ [accW p (4 * t) 4] := by
              rw [List.take_succ_eq_append_getElem (by rw [words_len]; exact ht16), words_get p ht16, ← hw0]
            refine S_round (t + 1, w ++ [accW p (4 * t) 4], x + 1) (by show 64 - (t + 1) < 64 - t; omega) ⟨by omega, by simp [hwl], hw32.app (.one hacc), fun _ => hnext.symm, fun h => ?_⟩ (.cons rfl (.cons rfl (.cons rfl (.cons rfl (.cons rfl (.cons (ai64 rfl (by omega)) (.nil _))))))) ?_
            · have h15 : t + 1 = 16 := by omega
              rw [← hnext, h15, List.take_of_length_le (by rw [words_len]; exact Nat.le_refl _)]; rfl
            · show [bB u P _, iB 0 h, (x + 1, some (Box.cells (ints w ++ [.int .i64 (accW p (4 * t) 4 : Nat)]) ⟨false, none⟩)), (b, none), (c, none)] = _
              simp [iB, ints]
        · have ht16 : 16 ≤ t := by omega
          have hi15 : IntKind.i64.wrap ((t : Int) - 15) = ((t - 15 : Nat) : Int) := w64 (by omega) (by omega)
          have hi2 : IntKind.i64.wrap ((t : Int) - 2) = ((t - 2 : Nat) : Int) := w64 (by omega) (by omega)
          have hi16 : IntKind.i64.wrap ((t : Int) - 16) = ((t - 16 : Nat) : Int) := w64 (by omega) (by omega)
          have hi7 : IntKind.i64.wrap ((t : Int) - 7) = ((t - 7 : Nat) : Int) := w64 (by omega) (by omega)
          have g15 : 0 ≤ IntKind.i64.wrap ((t : Int) - 15) ∧ IntKind.i64.wrap ((t : Int) - 15) < (t : Int) ∧ t - 15 < t := by rw [hi15]; omega
          have g2 : 0 ≤ IntKind.i64.wrap ((t : Int) - 2) ∧ IntKind.i64.wrap ((t : Int) - 2) < (t : Int) ∧ t - 2 < t := by rw [hi2]; omega
          have g16 : 0 ≤ IntKind.i64.wrap ((t : Int) - 16) ∧ IntKind.i64.wrap ((t : Int) - 16) < (t : Int) ∧ t - 16 < t := by rw [hi16]; omega
          have g7 : 0 ≤ IntKind.i64.wrap ((t : Int) - 7) ∧ IntKind.i64.wrap ((t : Int) - 7) < (t : Int) ∧ t - 7 < t := by rw [hi7]; omega
          have k1 : t + 1 ≤ 9223372036854775807 ∧ (t + 1) * 8 ≤ 140737488355328 ∧ 0 + t * 1 = (ints w).length := by rw [ints_len]; omega
          have k2 : 64 - (t + 1) < 64 - t ∧ t + 1 ≤ 64 ∧ ¬ t + 1 ≤ 16 ∧ (w ++ [wNext w]).length = t + 1 := by rw [List.length_append]; simp only [List.length_cons, List.length_nil]; omega
          have k3 : AV.int .i64 (IntKind.i64.wrap ((t : Int) + 1)) = .int .i64 ((t + 1 : Nat) : Int) := ai64 rfl (by omega)
          have k4 : 64 - t = (64 - (t + 1)) + 1 := by omega
          have ld : ∀ (i : Int) (k : Nat), i = (k : Int) → k < t → ((ints w).drop (offN 0 (mulN i.toNat 1)))[0]? = some (.int .i64 (w.getD k 0 : Nat)) := by
            intro i k hi hk
            rw [hi, offN_eq, mulN_eq, Int.toNat_natCast, Nat.mul_one, Nat.zero_add, ints_ld (by omega)]
          obtain ⟨X, hX⟩ : ∃ X, X = w.getD (t - 15) 0 := ⟨_, rfl⟩
          obtain ⟨Y, hY⟩ : ∃ Y, Y = w.getD (t - 2) 0 := ⟨_, rfl⟩
          obtain ⟨Z, hZ⟩ : ∃ Z, Z = w.getD (t - 16) 0 := ⟨_, rfl⟩
          obtain ⟨V, hV⟩ : ∃ V, V = w.getD (t - 7) 0 := ⟨_, rfl⟩
          have hX32 : X < M32 := by rw [hX]; exact hw32.getD _
          have hY32 : Y < M32 := by rw [hY]; exact hw32.getD _
          have hZ32 : Z < M32 := by rw [hZ]; exact hw32.getD _
          have hV32 : V < M32 := by rw [hV]; exact hw32.getD _
          refine ab 1000 rfl trivial ?_
          refine S_draw 12 [] [.top, .int .i64 (X : Nat), .top, .int .i64 (Y : Nat)] rfl rfl rfl rfl ⟨rfl, rfl, rfl, rfl, g15.1, g15.2.1, rfl, (by rw [hX]; exact ld _ _ hi15 g15.2.2), rfl, rfl, rfl, rfl, g2.1, g2.2.1, rfl, (by rw [hY]; exact ld _ _ hi2 g2.2.2), rfl, rfl, trivial⟩ ?_
          refine ab 1000 rfl trivial ?_
          refine S_pure rfl rfl rfl (Right_ok X 7 hX32 (by decide) (by decide)) (.cons (.refl .int) (.cons (.refl .int) (.nil _))) ?_
          refine ab 1000 rfl trivial ?_
          refine S_pure rfl rfl rfl (Right_ok X 18 hX32 (by decide) (by decide)) (.cons (.refl .int) (.cons (.refl .int) (.nil _))) ?_
          refine ab 1000 rfl ⟨by decide, trivial⟩ ?_
          have hx8 : IntKind.i64.wrap ((X : Int).tdiv 8) = ((X / 8 : Nat) : Int) := div32 (k := 8) hX32
          have hs0 : Calc cx 82 [.sl true true 1 (ints [rotr X 7, rotr X 18, X / 8])] (.int .i64 (sig0 X : Nat)) := by
            have := xor_ok (st := true) (fl := true) [rotr X 7, rotr X 18, X / 8] (by intro y hy; simp at hy; rcases hy with rfl | rfl | rfl; exact rotr_lt _ hX32; exact rotr_lt _ hX32; exact div_lt _ hX32) (by simp)
            rwa [xorL_three (rotr_lt _ hX32) (rotr_lt _ hX32) (div_lt _ hX32)] at this
          refine S_pure rfl rfl rfl hs0 (.cons ?_ (.nil _)) ?_
          · show Frz false _ (.sl true true 1 [.int .i64 (rotr X 7 : Nat), .int .i64 (rotr X 18 : Nat), .int .i64 (IntKind.i64.wrap ((X : Int).tdiv 8))]) _
            rw [hx8]; exact .refl (.sl (fun h => by cases h) (ints_any [rotr X 7, rotr X 18, X / 8]))
          refine ab 1000 rfl trivial ?_
          refine S_pure rfl rfl rfl (Right_ok Y 17 hY32 (by decide) (by decide)) (.cons (.refl .int) (.cons (.refl .int) (.nil _))) ?_
          refine ab 1000 rfl trivial ?_
          refine S_pure rfl rfl rfl (Right_ok Y 19 hY32 (by decide) (by decide)) (.cons (.refl .int) (.cons (.refl .int) (.nil _))) ?_
          refine ab 1000 rfl ⟨by decide, trivial⟩ ?_
          have hy10 : IntKind.i64.wrap ((Y : Int).tdiv 1024) = ((Y / 1024 : Nat) : Int) := div32 (k := 1024) hY32
          have hs1 : Calc cx 82 [.sl true true 1 (ints [rotr Y 17, rotr Y 19, Y / 1024])] (.int .i64 (sig1 Y : Nat)) := by
            have := xor_ok (st := true) (fl := true) [rotr Y 17, rotr Y 19, Y / 1024] (by intro y hy; simp at hy; rcases hy with rfl | rfl | rfl; exact rotr_lt _ hY32; exact rotr_lt _ hY32; exact div_lt _ hY32) (by simp)
            rwa [xorL_three (rotr_lt _ hY32) (rotr_lt _ hY32) (div_lt _ hY32)] at this
          refine S_pure rfl rfl rfl hs1 (.cons ?_ (.nil _)) ?_
          · show Frz false _ (.sl true true 1 [.int .i64 (rotr Y 17 : Nat), .int .i64 (rotr Y 19 : Nat), .int .i64 (IntKind.i64.wrap ((Y : Int).tdiv 1024))]) _
            rw [hy10]; exact .refl (.sl (fun h => by cases h) (ints_any [rotr Y 17, rotr Y 19, Y / 1024]))
          refine ab 1000 rfl trivial ?_
          obtain ⟨hsum, hsle⟩ := sum4 hZ32 (sig0_lt hX32) hV32 (sig1_lt hY32)
          have hnx : wNext w = (Z + sig0 X + V + sig1 Y) % M32 := by rw [wNext, hwl, hX, hY, hZ, hV]
          refine S_draw 18 [] [.top, .int .i64 (Z : Nat), .top, .int .i64 (V : Nat), .int .i64 (wNext w : Nat)] rfl rfl rfl rfl ⟨rfl, rfl, rfl, rfl, rfl, g16.1, g16.2.1, rfl, (by rw [hZ]; exact ld _ _ hi16 g16.2.2), rfl, rfl, rfl, rfl, rfl, rfl, g7.1, g7.2.1, rfl, (by rw [hV]; exact ld _ _ hi7 g7.2.2), rfl, rfl, rfl, ⟨_, (by rw [hnx]; exact Wrap_ok (Z + sig0 X + V + sig1 Y) hsle), .cons (by show Frz false _ (.int .i64 (IntKind.i64.wrap (IntKind.i64.wrap (IntKind.i64.wrap ((Z : Int) + ((sig0 X : Nat) : Int)) + (V : Int)) + ((sig1 Y : Nat) : Int)))) _; rw [hsum]; exact .refl .int) (.nil _)⟩, rfl, trivial⟩ ?_
          refine ab 1000 rfl ⟨k1.1, k1.2.1, k1.2.2, rfl, rfl, allOne_mem (cs := [.int .i64 _]) rfl, allOne_mem (cs := [.int .i64 _]) rfl, rfl, trivial⟩ ?_
          refine S_round (t + 1, w ++ [wNext w], x + 1) k2.1 ⟨k2.2.1, k2.2.2.2, hw32.app (.one (wNext_lt w)), fun h => absurd h k2.2.2.1, fun _ => ?_⟩ (.cons rfl (.cons rfl (.cons rfl (.cons rfl (.cons rfl (.cons k3 (.nil _))))))) ?_
          · have := hws ht16
            rw [k4, sched] at this
            exact this
          · show [bB u P _, iB 0 h, (x + 1, some (Box.cells (ints w ++ [.int .i64 (wNext w : Nat)]) ⟨false, none⟩)), (b, none), (c, none)] = _
            simp [iB, ints]
      · have ht : t = 64 := by omega
        subst ht
        have hW : w = schedOf p := hws (by decide)
        have hWl : w.length = 64 := hwl
        refine go (M := [137]) 1000 rfl ⟨by decide, ?_, .inl (by decide), ?_, rfl, rfl, fun y hy => ints_one h y (List.mem_of_mem_take hy), ?_, rfl, rfl, trivial⟩ ?_
        · show (0 + 8) * 8 ≤ 140737488355328; decide
        · exact Nat.zero_le _
        · show 0 + 8 * 1 ≤ (ints h).length; rw [ints_len]; omega
        refine S_drop (id := 3) rfl ?_ ⟨_, _, .inl rfl⟩
        refine S_heap [bB u P ⟨false, some 5⟩, iB 0 h, iB x w, (b + 1, none), iB (c + 1) h] ?_ ?_
        · show [_, _, _, (b + 1, none), (c + 1, some (Box.cells ((ints h).take 8) ⟨false, none⟩))] = _
          rw [List.take_of_length_le (by rw [ints_len]; omega)]; rfl
        refine S_freeze1 (t := 17) (id := 4) (len := 8) rfl rfl (by rw [ints_len]; exact hhl) (ints_one h) (ints_any h) ⟨_, _, .inl rfl⟩ ?_
        refine S_while (α := Nat × List Nat × Bool × Bool) (fun (t, v, st, fl) => [(3, .ms 0 u 0 P.length 1 false), (6, .sl true true 1 (ints kTab)), (7, .ms 1 0 0 8 1 true), (8, .int .i64 (64 * m : Nat)), (9, .ms 2 x 0 64 1 false), (17, .sl st fl 1 (ints v)), (18, .int .i64 (t : Nat))])
          (fun (t, v, st, fl) => [bB u P ⟨false, some 5⟩, iB 0 h, iB x w, (b + 1, none), (c + 1, none)])
          (fun (t, v, st, fl) => t ≤ 64 ∧ v.length = 8 ∧ W32 v ∧ rounds (64 - t) t w v = rounds 64 0 w h) (fun (t, v, st, fl) => 64 - t) (0, h, false, false)
          ⟨Nat.zero_le _, hhl, hh32, rfl⟩ (.cons rfl (.cons rfl (.cons rfl (.cons rfl (.cons rfl (.cons rfl (.cons rfl (.nil _)))))))) rfl ?_
        rintro ⟨t, v, st, fl⟩ ⟨ht64, hvl, hv32, hvN⟩
        have ht64 : t ≤ 64 := ht64
        have hvl : v.length = 8 := hvl
        refine ab 1000 rfl trivial ?_
        refine S_dec rfl (fun hlt => ?_) (fun hlt => ?_)
        · have ht : t < 64 := by omega
          obtain ⟨v0, v1, v2, v3, v4, v5, v6, v7, rfl⟩ : ∃ v0 v1 v2 v3 v4 v5 v6 v7, v = [v0, v1, v2, v3, v4, v5, v6, v7] := by
            match v, hvl with
            | [v0, v1, v2, v3, v4, v5, v6, v7], _ => exact ⟨_, _, _, _, _, _, _, _, rfl⟩
          have q0 : v0 < M32 := hv32 _ (by simp)
          have q1 : v1 < M32 := hv32 _ (by simp)
          have q2 : v2 < M32 := hv32 _ (by simp)
          have q3 : v3 < M32 := hv32 _ (by simp)
          have q4 : v4 < M32 := hv32 _ (by simp)
          have q5 : v5 < M32 := hv32 _ (by simp)
          have q6 : v6 < M32 := hv32 _ (by simp)
          have q7 : v7 < M32 := hv32 _ (by simp)
          have qn : 4294967295 - v4 < M32 := by simp only [M32]; omega
          obtain ⟨kt, hkt⟩ : ∃ kt, kt = kTab.getD t 0 := ⟨_, rfl⟩
          obtain ⟨wt, hwt⟩ : ∃ wt, wt = w.getD t 0 := ⟨_, rfl⟩
          have qk : kt < M32 := by rw [hkt]; exact kTab32.getD _
          have qw : wt < M32 := by rw [hwt]; exact hw32.getD _
          have hkg : (ints kTab)[(t : Int).toNat]? = some (.int .i64 (kt : Nat)) := by rw [Int.toNat_natCast, hkt]; exact ints_get (by show t < 64; exact ht)
          have hwg : ((ints w).drop (offN 0 (mulN (t : Int).toNat 1)))[0]? = some (.int .i64 (wt : Nat)) := by
            rw [offN_eq, mulN_eq, Int.toNat_natCast, Nat.mul_one, Nat.zero_add, hwt, ints_ld (by omega)]
          have hnw : IntKind.i64.wrap (4294967295 - (v4 : Int)) = ((4294967295 - v4 : Nat) : Int) := w64 (by simp only [M32] at q4; omega) (by omega)
          have t1 : 0 ≤ (t : Int) ∧ (t : Int) < 64 := by omega
          have t2 : 64 - (t + 1) < 64 - t ∧ t + 1 ≤ 64 := by omega
          have t3 : AV.int .i64 (IntKind.i64.wrap ((t : Int) + 1)) = .int .i64 ((t + 1 : Nat) : Int) := ai64 rfl (by omega)
          have t4 : 64 - t = (64 - (t + 1)) + 1 := by omega
          have xor2c : ∀ {a b : Nat}, a < M32 → b < M32 → Calc cx 82 [.sl true true 1 (ints [a, b])] (.int .i64 (a ^^^ b : Nat)) := fun {a b} ha hb => by
            have := xor_ok (st := true) (fl := true) [a, b] (by intro y hy; simp at hy; rcases hy with rfl | rfl; exact ha; exact hb) (by simp)
            rwa [xorL_two ha hb] at this
          have xor3c : ∀ {a b c : Nat}, a < M32 → b < M32 → c < M32 → Calc cx 82 [.sl true true 1 (ints [a, b, c])] (.int .i64 (a ^^^ b ^^^ c : Nat)) := fun {a b c} ha hb hc => by
            have := xor_ok (st := true) (fl := true) [a, b, c] (by intro y hy; simp at hy; rcases hy with rfl | rfl | rfl; exact ha; exact hb; exact hc) (by simp)
            rwa [xorL_three ha hb hc] at this
          refine ab 1000 rfl trivial ?_
          have z0 : (0 : Int) ≤ 0 := Int.le_refl _
          have z1 : (0 : Int) ≤ 1 := by decide
          have z2 : (0 : Int) ≤ 2 := by decide
          have z3 : (0 : Int) ≤ 3 := by decide
          have z4 : (0 : Int) ≤ 4 := by decide
          have z5 : (0 : Int) ≤ 5 := by decide
          have z6 : (0 : Int) ≤ 6 := by decide
          have z7 : (0 : Int) ≤ 7 := by decide
          have i2 : ∀ {σ : Heap} {a b : Nat}, Frzs σ [.int .i64 (a : Nat), .int .i64 (b : Nat)] [.int .i64 (a : Nat), .int .i64 (b : Nat)] := .cons (.refl .int) (.cons (.refl .int) (.nil _))
          have sl3 : ∀ {σ : Heap} {a b c : Nat}, Frzs σ [.sl true true 1 (ints [a, b, c])] [.sl true true 1 (ints [a, b, c])] := fun {σ a b c} => .cons (.refl (.sl (fun h => by cases h) (ints_any _))) (.nil _)
          have sl2 : ∀ {σ : Heap} {a b : Nat}, Frzs σ [.sl true true 1 (ints [a, b])] [.sl true true 1 (ints [a, b])] := fun {σ a b} => .cons (.refl (.sl (fun h => by cases h) (ints_any _))) (.nil _)
          refine S_draw 8 [] [.int .i64 (v0 : Nat), .int .i64 (v4 : Nat)] rfl rfl rfl rfl ⟨rfl, rfl, z0, rfl, rfl, rfl, rfl, z4, rfl, rfl, rfl, rfl, trivial⟩ ?_
          obtain ⟨ch, hch⟩ : ∃ ch, ch = (v4 &&& v5) ^^^ ((4294967295 - v4) &&& v6) := ⟨_, rfl⟩
          have qch : ch < M32 := by rw [hch]; exact xor_lt (and_lt q4) (and_lt qn)
          refine ab 1000 rfl trivial ?_
          refine S_draw 14 [] [.int .i64 (v5 : Nat), .int .i64 (v4 &&& v5 : Nat), .int .i64 (v6 : Nat), .int .i64 ((4294967295 - v4) &&& v6 : Nat), .int .i64 (ch : Nat)] rfl rfl rfl rfl
            ⟨rfl, rfl, rfl, z5, rfl, rfl, ⟨_, And_ok v4 v5 q4 q5, i2⟩, rfl, rfl, rfl, rfl, z6, rfl, rfl, ⟨_, And_ok (4294967295 - v4) v6 qn q6, .cons (by show Frz false _ (.int .i64 (IntKind.i64.wrap (4294967295 - (v4 : Int)))) _; rw [hnw]; exact .refl .int) (.cons (.refl .int) (.nil _))⟩, rfl, ⟨_, (by rw [hch]; exact xor2c (and_lt q4) (and_lt qn)), sl2⟩, rfl, trivial⟩ ?_
          refine ab 1000 rfl trivial ?_
          obtain ⟨hs5, hs5l⟩ := sum5 q7 (Sig1_lt q4) qch qk qw
          obtain ⟨U, hU⟩ : ∃ U, U = (v7 + Sig1 v4 + ch + kt + wt) % M32 := ⟨_, rfl⟩
          have qU : U < M32 := by rw [hU]; exact mod_lt _
          refine S_draw 26 [] [.int .i64 (v7 : Nat), .int .i64 (rotr v4 6 : Nat), .int .i64 (rotr v4 11 : Nat), .int .i64 (rotr v4 25 : Nat), .int .i64 (Sig1 v4 : Nat), .int .i64 (kt : Nat), .top, .int .i64 (wt : Nat), .int .i64 (U : Nat)] rfl rfl rfl rfl
            ⟨rfl, rfl, z7, rfl, rfl, rfl, ⟨_, Right_ok v4 6 q4 (by decide) (by decide), i2⟩, rfl, ⟨_, Right_ok v4 11 q4 (by decide) (by decide), i2⟩, rfl, ⟨_, Right_ok v4 25 q4 (by decide) (by decide), i2⟩, rfl, ⟨_, xor3c (rotr_lt 6 q4) (rotr_lt 11 q4) (rotr_lt 25 q4), sl3⟩, rfl, rfl, rfl, rfl, rfl, rfl, t1.1, hkg, rfl, rfl, rfl, rfl, rfl, t1.1, t1.2, rfl, hwg, rfl, ⟨_, (by rw [hU]; exact Wrap_ok _ hs5l), .cons (by show Frz false _ (.int .i64 (IntKind.i64.wrap (IntKind.i64.wrap (IntKind.i64.wrap (IntKind.i64.wrap ((v7 : Int) + ((Sig1 v4 : Nat) : Int)) + (ch : Int)) + (kt : Int)) + (wt : Int)))) _; rw [hs5]; exact .refl .int) (.nil _)⟩, rfl, trivial⟩ ?_
          refine ab 1000 rfl trivial ?_
          obtain ⟨mo, hmo⟩ : ∃ mo, mo = (v0 &&& v1) ^^^ (v0 &&& v2) ^^^ (v1 &&& v2) := ⟨_, rfl⟩
          have qmo : mo < M32 := by rw [hmo]; exact xor_lt (xor_lt (and_lt q0) (and_lt q0)) (and_lt q1)
          refine S_draw 20 [] [.int .i64 (v1 : Nat), .int .i64 (v0 &&& v1 : Nat), .int .i64 (v2 : Nat), .int .i64 (v0 &&& v2 : Nat), .int .i64 (v1 : Nat), .int .i64 (v2 : Nat), .int .i64 (v1 &&& v2 : Nat), .int .i64 (mo : Nat)] rfl rfl rfl rfl
            ⟨rfl, rfl, rfl, z1, rfl, rfl, ⟨_, And_ok v0 v1 q0 q1, i2⟩, rfl, rfl, rfl, z2, rfl, rfl, ⟨_, And_ok v0 v2 q0 q2, i2⟩, rfl, rfl, z1, rfl, rfl, rfl, rfl, z2, rfl, rfl, ⟨_, And_ok v1 v2 q1 q2, i2⟩, rfl, ⟨_, (by rw [hmo]; exact xor3c (and_lt q0) (and_lt q0) (and_lt q1)), sl3⟩, rfl, trivial⟩ ?_
          refine ab 1000 rfl trivial ?_
          refine S_pure rfl rfl rfl (Right_ok v0 2 q0 (by decide) (by decide)) i2 ?_
          refine ab 1000 rfl trivial ?_
          refine S_pure rfl rfl rfl (Right_ok v0 13 q0 (by decide) (by decide)) i2 ?_
          refine ab 1000 rfl trivial ?_
          refine S_pure rfl rfl rfl (Right_ok v0 22 q0 (by decide) (by decide)) i2 ?_
          refine ab 1000 rfl trivial ?_
          refine S_pure rfl rfl rfl (xor3c (rotr_lt 2 q0) (rotr_lt 13 q0) (rotr_lt 22 q0)) sl3 ?_
          have hsm := (sum2 (Z := Sig0 v0) (a := mo) (Sig0_lt q0) (lt2 qmo)).1
          have qsm : Sig0 v0 + mo < M32 + M32 := Nat.add_lt_add (Sig0_lt q0) qmo
          refine ab 1000 rfl trivial ?_
          refine S_weak (fr' := [(3, .ms 0 u 0 P.length 1 false), (6, .sl true true 1 (ints kTab)), (7, .ms 1 0 0 8 1 true), (8, .int .i64 (64 * m : Nat)), (9, .ms 2 x 0 64 1 false), (17, .sl st fl 1 (ints [v0, v1, v2, v3, v4, v5, v6, v7])), (18, .int .i64 (t : Nat)), (22, .int .i64 (U : Nat)), (24, .int .i64 (Sig0 v0 + mo : Nat))]) (.cons rfl (.cons rfl (.cons rfl (.cons rfl (.cons rfl (.cons rfl (.cons rfl (.cons rfl (.cons (congrArg (AV.int .i64) hsm) (.nil _)))))))))) ?_
          obtain ⟨na, hna⟩ : ∃ na, na = (U + (Sig0 v0 + mo)) % M32 := ⟨_, rfl⟩
          obtain ⟨ne, hne⟩ : ∃ ne, ne = (v3 + U) % M32 := ⟨_, rfl⟩
          obtain ⟨hs6, hs6l⟩ := sum2 qU qsm
          obtain ⟨hs7, hs7l⟩ := sum2 q3 (lt2 qU)
          refine S_draw 30 [] [.int .i64 (na : Nat), .int .i64 (v0 : Nat), .int .i64 (v1 : Nat), .int .i64 (v2 : Nat), .int .i64 (v3 : Nat), .int .i64 (ne : Nat), .int .i64 (v4 : Nat), .int .i64 (v5 : Nat), .int .i64 (v6 : Nat)] rfl rfl rfl rfl
            ⟨rfl, rfl, rfl, ⟨_, (by rw [hna]; exact Wrap_ok _ hs6l), .cons (by show Frz false _ (.int .i64 (IntKind.i64.wrap ((U : Int) + ((Sig0 v0 + mo : Nat) : Int)))) _; rw [hs6]; exact .refl .int) (.nil _)⟩, rfl, rfl, z0, rfl, rfl, rfl, rfl, z1, rfl, rfl, rfl, rfl, z2, rfl, rfl, rfl, rfl, z3, rfl, rfl, rfl, rfl, ⟨_, (by rw [hne]; exact Wrap_ok _ hs7l), .cons (by show Frz false _ (.int .i64 (IntKind.i64.wrap ((v3 : Int) + (U : Int)))) _; rw [hs7]; exact .refl .int) (.nil _)⟩, rfl, rfl, z4, rfl, rfl, rfl, rfl, z5, rfl, rfl, rfl, rfl, z6, rfl, rfl, rfl, rfl, trivial⟩ ?_
          refine ab 1000 rfl trivial ?_
          have hro : round [v0, v1, v2, v3, v4, v5, v6, v7] (kt + wt) = [na, v0, v1, v2, ne, v4, v5, v6] := by rw [round_eq, hna, hne, hU, hch, hmo]
          refine S_round (t + 1, [na, v0, v1, v2, ne, v4, v5, v6], true, true) t2.1 ⟨t2.2, rfl, by rw [← hro]; exact round_lt _ hv32, ?_⟩ (.cons rfl (.cons rfl (.cons rfl (.cons rfl (.cons rfl (.cons rfl (.cons t3 (.nil _)))))))) rfl
          rw [t4, rounds, ← hkt, ← hwt, hro] at hvN
          exact hvN
        · have ht : t = 64 := by omega
          subst ht
          have hvE : v = rounds 64 0 w h := hvN
          have hblk : block h p = addW h v := by rw [block, hvE, ← hW]
          have hal := addW_len h v
          refine ab 1000 rfl trivial ?_
          refine S_while (α := Nat) (fun i => [(3, .ms 0 u 0 P.length 1 false), (6, .sl true true 1 (ints kTab)), (7, .ms 1 0 0 8 1 true), (8, .int .i64 (64 * m : Nat)), (17, .sl st fl 1 (ints v)), (25, .int .i64 (i : Nat))])
            (fun i => [bB u P ⟨false, some 5⟩, iB 0 ((addW h v).take i ++ h.drop i), iB x w, (b + 1, none), (c + 1, none)])
            (fun i => i ≤ 8) (fun i => 8 - i) 0 (Nat.zero_le _) (.cons rfl (.cons rfl (.cons rfl (.cons rfl (.cons rfl (.cons rfl (.nil _))))))) (by simp) ?_
          intro i hi
          refine ab 1000 rfl trivial ?_
          refine S_dec rfl (fun hlt => ?_) (fun hlt => ?_)
          · have hi8 : i < 8 := by omega
            have c1 : 0 ≤ (i : Int) ∧ (i : Int) < 8 := by omega
            have c2 : 8 - (i + 1) < 8 - i := by omega
            have c3 : AV.int .i64 (IntKind.i64.wrap ((i : Int) + 1)) = .int .i64 ((i + 1 : Nat) : Int) := ai64 rfl (by omega)
            have htk : ((addW h v).take i).length = i := by rw [List.length_take, hal]; omega
            have hil : i < h.length := by omega
            have hiv : i < v.length := by omega
            have hdr : h.drop i = h.getD i 0 :: h.drop (i + 1) := by
              rw [List.drop_eq_getElem_cons hil]
              simp [List.getD, hil]
            have hld : ((ints ((addW h v).take i ++ h.drop i)).drop (offN 0 (mulN (i : Int).toNat 1)))[0]? = some (.int .i64 (h.getD i 0 : Nat)) := by
              have hgi : ((addW h v).take i ++ h.drop i).getD i 0 = h.getD i 0 := by
                rw [hdr]
                have h2 := getD_mid ((addW h v).take i) (h.getD i 0) (h.drop (i + 1))
                rwa [htk] at h2
              rw [offN_eq, mulN_eq, Int.toNat_natCast, Nat.mul_one, Nat.zero_add, ints_ld (by rw [List.length_append, htk, List.length_drop]; omega), hgi]
            have hvg : (ints v)[(i : Int).toNat]? = some (.int .i64 (v.getD i 0 : Nat)) := by rw [Int.toNat_natCast]; exact ints_get hiv
            obtain ⟨hh1, hhle⟩ := sum2 (hh32.getD i) (lt2 (hv32.getD i))
            have hst : offN 0 (mulN (i : Int).toNat 1) + 1 ≤ (ints ((addW h v).take i ++ h.drop i)).length := by
              rw [offN_eq, mulN_eq, Int.toNat_natCast, ints_len, List.length_append, htk, List.length_drop]; omega
            refine ab 1000 rfl trivial ?_
            refine S_draw 12 [] [.top, .int .i64 (h.getD i 0 : Nat), .int .i64 (v.getD i 0 : Nat), .int .i64 ((h.getD i 0 + v.getD i 0) % M32 : Nat)] rfl rfl rfl rfl
              ⟨rfl, rfl, rfl, rfl, rfl, c1.1, c1.2, rfl, hld, rfl, rfl, rfl, c1.1, hvg, rfl, rfl, ⟨_, Wrap_ok _ hhle, .cons (by show Frz false _ (.int .i64 (IntKind.i64.wrap (((h.getD i 0 : Nat) : Int) + ((v.getD i 0 : Nat) : Int)))) _; rw [hh1]; exact .refl .int) (.nil _)⟩, trivial⟩ ?_
            refine S_index .top rfl rfl rfl ⟨rfl, c1.1, c1.2, trivial⟩ ?_
            refine S_store rfl rfl rfl ⟨rfl, rfl, rfl, hst, trivial⟩ ?_
            refine ab 1000 rfl trivial ?_
            refine S_round (i + 1) c2 hi8 (.cons rfl (.cons rfl (.cons rfl (.cons rfl (.cons rfl (.cons c3 (.nil _))))))) ?_
            show [bB u P _, (0, some (Box.cells (setRange (ints ((addW h v).take i ++ h.drop i)) (offN 0 (mulN (i : Int).toNat 1)) [.int .i64 ((h.getD i 0 + v.getD i 0) % M32 : Nat)]) ⟨false, none⟩)), iB x w, (b + 1, none), (c + 1, none)] = _
            rw [offN_eq, mulN_eq, Int.toNat_natCast, Nat.mul_one, Nat.zero_add]
            have hta : (addW h v).take (i + 1) = (addW h v).take i ++ [(h.getD i 0 + v.getD i 0) % M32] := by
              rw [List.take_succ_eq_append_getElem (by rw [hal]; exact hi8)]
              simp [addW]
            have hsf := set_fill ((addW h v).take i) 0 ((h.getD i 0 + v.getD i 0) % M32) (h.getD i 0) (h.drop (i + 1))
            rw [htk] at hsf
            show [_, (0, some (Box.cells (List.set (ints ((addW h v).take i ++ h.drop i)) i (.int .i64 ((h.getD i 0 + v.getD i 0) % M32 : Nat))) _)), _, _, _] = _
            have hse : List.set (ints ((addW h v).take i ++ h.drop i)) i (.int .i64 ((h.getD i 0 + v.getD i 0) % M32 : Nat)) = ints ((addW h v).take (i + 1) ++ h.drop (i + 1)) := by
              rw [hta, hdr, List.append_assoc, List.singleton_append, ← hsf]
              simp only [ints, List.map_set]
            rw [hse]; rfl
          · have hi8 : i = 8 := by omega
            subst hi8
            have hfin : (addW h v).take 8 ++ h.drop 8 = block h p := by
              rw [List.take_of_length_le (by omega), List.drop_of_length_le (by omega), List.append_nil, hblk]
            rw [hfin]
            have d1 : P.length - 64 * (m + 1) < P.length - 64 * m ∧ 64 * (m + 1) ≤ P.length := by omega
            have d2 : AV.int .i64 (IntKind.i64.wrap (((64 * m : Nat) : Int) + 64)) = .int .i64 ((64 * (m + 1) : Nat) : Int) := ai64 (by omega) (by omega)
            have d3 : P.length / 64 - m = (P.length / 64 - (m + 1)) + 1 := by omega
            have d4 : 64 * m + 64 = 64 * (m + 1) := by omega
            refine S_drop (id := 2) rfl ?_ ⟨_, _, .inl rfl⟩
            refine ab 1000 rfl trivial ?_
            refine S_round (m + 1, block h p, x, b + 1, c + 1) d1.1 ⟨d1.2, block_len _ _, block_lt _ _, ?_⟩ (.cons rfl (.cons rfl (.cons rfl (.cons d2 (.nil _))))) rfl
            rw [← hN, d3, blocks, block_take, List.drop_drop, d4, hp]
    · have hm64 : 64 * m = P.length := by omega
      have hH : h = hashOf s := by
        rw [← hN, show P.length / 64 - m = 0 by omega]; rfl
      subst hH
      obtain ⟨HL, hHL⟩ : ∃ HL, HL = hashOf s := ⟨_, rfl⟩
      have hsh : sha s = HL.flatMap hexW := by rw [hHL]; rfl
      have hHl : HL.length = 8 := by rw [hHL]; exact hashOf_len s
      have hH32 : W32 HL := by rw [hHL]; exact hashOf_lt s
      rw [hsh]
      rw [← hHL] at *
      have hxl : ∀ n, (hexW n).length = 8 := fun n => by simp [hexW]
      have hfl : ∀ l : List Nat, (l.flatMap hexW).length = 8 * l.length := by
        intro l
        induction l with
        | nil => rfl
        | cons a r ih => rw [List.flatMap_cons, List.length_append, hxl, ih, List.length_cons]; omega
      refine ab 1000 rfl trivial ?_
      refine S_while (α := Nat) (fun i => [(7, .ms 1 0 0 8 1 true), (26, .str ((HL.take i).flatMap hexW)), (27, .int .i64 (i : Nat))]) (fun i => [bB u P ⟨false, some 5⟩, iB 0 HL, (a, none), (b, none), (c, none)])
        (fun i => i ≤ 8) (fun i => 8 - i) 0 (Nat.zero_le _) (.cons rfl (.cons rfl (.cons rfl (.nil _)))) rfl ?_
      intro i hi
      refine ab 1000 rfl trivial ?_
      refine S_dec rfl (fun hlt => ?_) (fun hlt => ?_)
      · have hi8 : i < 8 := by omega
        obtain ⟨nn, hnn⟩ : ∃ nn, nn = HL.getD i 0 := ⟨_, rfl⟩
        have qn : nn < M32 := by rw [hnn]; exact hH32.getD i
        have htl : ((HL.take i).flatMap hexW).length = 8 * i := by rw [hfl, List.length_take]; omega
        refine ab 1000 rfl trivial ?_
        refine S_while (α := Nat) (fun j => [(7, .ms 1 0 0 8 1 true), (26, .str ((HL.take i).flatMap hexW ++ (hexW nn).take j)), (27, .int .i64 (i : Nat)), (28, .int .i64 (7 - (j : Int)))]) (fun j => [bB u P ⟨false, some 5⟩, iB 0 HL, (a, none), (b, none), (c, none)])
          (fun j => j ≤ 8) (fun j => 8 - j) 0 (Nat.zero_le _) (.cons rfl (.cons (by simp; rfl) (.cons rfl (.cons rfl (.nil _))))) rfl ?_
        intro j hj
        refine ab 1000 rfl trivial ?_
        refine S_dec rfl (fun hlt => ?_) (fun hlt => ?_)
        · have hj8 : j < 8 := by omega
          have c1 : 0 ≤ (i : Int) ∧ (i : Int) < 8 := by omega
          have c2 : 8 - (j + 1) < 8 - j := by omega
          have hw4 : IntKind.i64.wrap (4 * (7 - (j : Int))) = ((4 * (7 - j) : Nat) : Int) := w64 (by omega) (by omega)
          have c3 : AV.int .i64 (IntKind.i64.wrap (7 - (j : Int) - 1)) = .int .i64 (7 - ((j + 1 : Nat) : Int)) := ai64i (by omega) (by omega)
          have c4 : 4 * (7 - j) ≤ 62 := by omega
          have hp0 : ((2 ^ (4 * (7 - j)) : Nat) : Int) ≠ 0 := by have := Nat.two_pow_pos (4 * (7 - j)); omega
          have hld : ((ints HL).drop (offN 0 (mulN (i : Int).toNat 1)))[0]? = some (.int .i64 (nn : Nat)) := by
            rw [offN_eq, mulN_eq, Int.toNat_natCast, Nat.mul_one, Nat.zero_add, hnn, ints_ld (by omega)]
          have e16 : (2 : Nat) ^ (4 * (7 - j)) = 16 ^ (7 - j) := by rw [show (16 : Nat) = 2 ^ 4 from rfl, ← Nat.pow_mul]
          have hdv : IntKind.i64.wrap ((nn : Int).tdiv ((2 ^ (4 * (7 - j)) : Nat) : Int)) = ((nn / 16 ^ (7 - j) : Nat) : Int) := by
            rw [← e16]; exact div32 qn
          have hm16 : (((nn / 16 ^ (7 - j) : Nat) : Int)).tmod 16 = ((nn / 16 ^ (7 - j) % 16 : Nat) : Int) := rfl
          have hlen : (((((HL.take i).flatMap hexW ++ (hexW nn).take j).length + 1 : Nat)) : Int) ≤ 9223372036854775807 := by
            rw [List.length_append, htl, List.length_take, hxl]; omega
          have hnx : (hexW nn).take (j + 1) = (hexW nn).take j ++ [hexC (nn / 16 ^ (7 - j) % 16)] := by
            rw [List.take_succ_eq_append_getElem (by rw [hxl]; exact hj8)]
            simp [hexW]
          refine ab 1000 rfl trivial ?_
          refine S_draw 13 [] [.top, .int .i64 (nn : Nat), .int .i64 ((2 ^ (4 * (7 - j)) : Nat) : Int), .str [hexC (nn / 16 ^ (7 - j) % 16)]] rfl rfl rfl rfl
            ⟨rfl, rfl, rfl, rfl, c1.1, c1.2, rfl, hld, rfl, rfl, ⟨_, Pow2_ok (4 * (7 - j)) c4, .cons (by show Frz false _ (.int .i64 (IntKind.i64.wrap (4 * (7 - (j : Int))))) _; rw [hw4]; exact .refl .int) (.nil _)⟩, rfl, hp0, rfl, by decide, ⟨_, HexDigit_ok (nn / 16 ^ (7 - j) % 16) (Nat.mod_lt _ (by decide)), .cons (by show Frz false _ (.int .i64 ((IntKind.i64.wrap ((nn : Int).tdiv ((2 ^ (4 * (7 - j)) : Nat) : Int))).tmod 16)) _; rw [hdv, hm16]; exact .refl .int) (.nil _)⟩, rfl, hlen, rfl, trivial⟩ ?_
          refine ab 1000 rfl trivial ?_
          exact S_round (j + 1) c2 hj8 (.cons rfl (.cons (by rw [hnx, ← List.append_assoc]; rfl) (.cons rfl (.cons c3 (.nil _))))) rfl
        · have hj8 : j = 8 := by omega
          subst hj8
          have hti : HL.take (i + 1) = HL.take i ++ [nn] := by
            rw [List.take_succ_eq_append_getElem (by omega), hnn]
            simp [List.getD, show i < HL.length by omega]
          have c3 : AV.int .i64 (IntKind.i64.wrap ((i : Int) + 1)) = .int .i64 ((i + 1 : Nat) : Int) := ai64 rfl (by omega)
          refine ab 1000 rfl trivial ?_
          refine S_round (i + 1) (by show 8 - (i + 1) < 8 - i; omega) hi8 (.cons rfl (.cons ?_ (.cons c3 (.nil _)))) rfl
          show AV.str ((HL.take i).flatMap hexW ++ (hexW nn).take 8) = .str ((HL.take (i + 1)).flatMap hexW)
          rw [hti, List.flatMap_append, List.take_of_length_le (l := hexW nn) (by rw [hxl]; exact Nat.le_refl _)]
          simp
      · have hi8 : i = 8 := by omega
        subst hi8
        refine ab 1000 rfl trivial ?_
        refine S_retc .str rfl trivial ?_
        show AV.str ((HL.take 8).flatMap hexW) = _
        rw [List.take_of_length_le (by omega)]
end Go.Proofs.YtpehmhlgldbeoaaGreatDoor
end
section
set_option linter.unusedVariables false
set_option linter.unusedSimpArgs false
namespace Go.Ab
open Go
section
variable {cx : Cx} {n : Nat} {B : Bs} {k : List AI} {Q : Post} {fr : Fr} {σ : Heap}
inductive Wv : AV → AV → Prop
  | refl {a} : Wv a a
  | nils {st fl sz} : Wv .nils (.sl st fl sz [])
  | sl {st fl st' fl' sz xs} (h1 : st' = true → st = true) (h2 : fl' = true → fl = true) : Wv (.sl st fl sz xs) (.sl st' fl' sz xs)
theorem Wv.rel {r : Rl} {w : World} {v : Value} {a a' : AV} (h : Wv a a') (hv : VRel r w v a) : VRel r w v a' := by
  cases h with
  | refl => exact hv
  | nils => cases hv; exact .sl0 (fun _ => rfl)
  | sl h1 h2 =>
    cases hv with
    | sl0 hf => exact .sl0 (fun h => hf (h2 h))
    | sl hn hc0 hf hI hS hsz f hc hv => exact .sl hn hc0 (fun h => hf (h2 h)) hI (fun h => hS (h1 h)) hsz f hc hv
theorem Wv.one {a a' : AV} (h : Wv a a') (ho : a.one = true) : a'.one = true := by
  cases h with
  | refl => exact ho
  | nils => rfl
  | sl _ _ => rfl
inductive Wvs : List AV → List AV → Prop
  | nil : Wvs [] []
  | cons {a b az bs} (h : Wv a b) (hs : Wvs az bs) : Wvs (a :: az) (b :: bs)
theorem Wvs.len {az bs : List AV} (h : Wvs az bs) : az.length = bs.length := by
  induction h with
  | nil => rfl
  | cons _ _ ih => simp [ih]
theorem Wvs.get {az bs : List AV} (h : Wvs az bs) : ∀ (i : Nat) (h1 : i < az.length) (h2 : i < bs.length), Wv az[i] bs[i] := by
  induction h with
  | nil => intro i h1; simp at h1
  | cons h hs ih =>
    intro i h1 h2
    cases i with
    | zero => exact h
    | succ i => exact ih i (by simpa using h1) (by simpa using h2)
theorem S_nilF {todo : List AI} (t sz : Nat) (st fl : Bool) (h : fr.get t = .nils) (hT : ∃ c k, todo = .code c :: k ∨ ∃ all l K, todo = .ops all l K :: k)
    (hk : S cx n B todo Q ((t, .sl st fl sz []) :: fr) σ) : S cx n B todo Q fr σ := by
  have key : ∀ r w a, FRel r w n fr a → FRel r w n ((t, .sl st fl sz []) :: fr) a := by
    intro r w a hf
    refine ⟨hf.size, fun s => ?_, fun vs hm => ?_⟩
    · rw [Fr.get_cons]
      split
      · rename_i hs
        subst hs
        have hv := hf.get t
        rw [h] at hv
        exact Wv.rel .nils hv
      · exact hf.get s
    · rw [Fr.get_cons] at hm
      split at hm
      · cases hm
      · exact hf.defs vs hm
  obtain ⟨c, k, hT⟩ := hT
  rcases hT with rfl | ⟨all, l, K, rfl⟩
  · exact fun r a w hi hf hd hx => hk r a w hi (key r w a hf) hd hx
  · exact fun r a w hi hf hd hx => hk r a w hi (key r w a hf) hd hx
end
end Go.Ab
end
section
set_option linter.unusedVariables false
set_option linter.unusedSimpArgs false
set_option maxRecDepth 20000
set_option maxHeartbeats 4000000
namespace Go.Proofs.YtpehmhlgldbeoaaGreatDoor
open Go Go.Ab
def fsT (g : List Fil) : List (List UInt8) := g.map fun f => fstT f.path
def dirAV (y : List UInt8 × List (List UInt8)) : AV := .tup [.str y.1, .sl true false 1 (texts (setT y.2))]
theorem dirAV_free (y : List UInt8 × List (List UInt8)) : Free true (dirAV y) := .tup (by intro x hx; simp at hx; rcases hx with rfl | rfl; exact .str; exact .sl (fun _ => rfl) (texts_any _))
theorem texts_gt {x : List (List UInt8)} {i : Nat} (h : i < x.length) : (texts x)[(i : Int).toNat]? = some (.str x[i]) := by
  rw [Int.toNat_natCast]; simp [texts, List.getElem?_eq_getElem h]
theorem set_nil : setT [] = [] := by unfold setT sortT; simp
theorem set_step (A : List (List UInt8)) (s : List UInt8) : texts (addT (setT A) s) = texts (setT (A ++ [s])) := by rw [addT_set]
def kdK (l : List Fil) (P : List UInt8) (k : Nat) : Nat := match (l.take k).find? (fun f => f.path == P) with | none => 3 | some f => if f.run = true then 2 else 1
def txK (l : List Fil) (P : List UInt8) (k : Nat) : List UInt8 := match (l.take k).find? (fun f => f.path == P) with | none => [] | some f => f.text
theorem find_step {l : List Fil} {P : List UInt8} {k : Nat} (h : k < l.length) (hok : okT l) : (l.take (k + 1)).find? (fun f => f.path == P) = if l[k].path = P then some l[k] else (l.take k).find? (fun f => f.path == P) := by
  rw [List.take_succ_eq_append_getElem h, List.find?_append]
  by_cases e : l[k].path = P
  · rw [if_pos e]
    have hn : (l.take k).find? (fun f => f.path == P) = none := by
      rw [List.find?_eq_none]
      intro f hf hfe
      obtain ⟨j, hj, rfl⟩ := List.getElem_of_mem hf
      rw [List.length_take] at hj
      rw [List.getElem_take] at hfe
      have h1 := List.pairwise_iff_getElem.1 hok.1 j k (by omega) h (by omega)
      have h2 : (l[j]'(by omega)).path = P := by simpa using hfe
      rw [h2, e, bl_irr] at h1; cases h1
    rw [hn]; simp [e]
  · rw [if_neg e]
    simp [e]
theorem ok_uniq {l : List Fil} (hok : okT l) {f g : Fil} (hf : f ∈ l) (hg : g ∈ l) (h : f.path = g.path) : f = g := by
  obtain ⟨i, hi, rfl⟩ := List.getElem_of_mem hf
  obtain ⟨j, hj, rfl⟩ := List.getElem_of_mem hg
  rcases Nat.lt_trichotomy i j with h1 | h1 | h1
  · have := List.pairwise_iff_getElem.1 hok.1 i j hi hj h1
    rw [h, bl_irr] at this; cases this
  · subst h1; rfl
  · have := List.pairwise_iff_getElem.1 hok.1 j i hj hi h1
    rw [h, bl_irr] at this; cases this
theorem blb_take (dir : List Fil → List UInt8 × List (List UInt8)) (l : List Fil) (ks : List (List UInt8)) (j : Nat) : (blbsT dir l (ks.take j)).length ≤ (blbsT dir l ks).length := by
  conv => rhs; rw [← List.take_append_drop j ks]
  unfold blbsT
  rw [List.flatMap_append, List.length_append]; omega
theorem Directory_ok {st fl : Bool} (l : List Fil) (hl : DirOk 101 l) : ∀ (d : Nat) (dir : List UInt8), d ≤ 1000 → dir.length ≤ 200 → DirOk (d + 1) (relT l dir) → Calc cx 59 [.sl st fl 3 (fils l), .str dir] (dirAV (dirT (d + 1) (relT l dir))) := by
  intro d
  induction d using Nat.strongRecOn with | ind d ih => ?_
  intro dir hd1000 hdir hr
  exact pure_intro (fun a w => Tryz.call59 a w) Tryz.func59 rfl Tryz.ntmps59 rfl (dirAV_free _) fun B => by
    have hll := fils_len l
    have hlen := hl.len
    refine pB [] rfl ?_
    refine S_nilF 6 1 true false rfl ⟨_, _, .inl rfl⟩ ?_
    refine S_while (α := Nat) (fun i => [(0, .sl st fl 3 (fils l)), (1, .str dir), (6, .sl true false 1 (texts (setT (fsT (relT (l.take i) dir))))), (7, .int .i64 (i : Nat))]) (fun _ => []) (fun i => i ≤ l.length) (fun i => l.length - i) 0
      (Nat.zero_le _) (.cons rfl (.cons rfl (.cons (by
        have : relT (l.take 0) dir = [] := by unfold relT undT; split <;> rfl
        rw [this]; show AV.sl true false 1 [] = AV.sl true false 1 (texts (setT [])); rw [set_nil]; rfl) (.cons rfl (.nil _))))) rfl ?_
    intro i hi
    have hi : i ≤ l.length := hi
    by_cases hlt : i < l.length
    · have e1 : decide ((i : Int) < (((fils l).length : Nat) : Int)) = true := decide_eq_true (by omega)
      have g1 : (fils l)[(i : Int).toNat]? = some (filA l[i]) := fils_get hlt
      have hm := List.getElem_mem hlt
      have hpf := (path_fst (hl.path _ hm)).2.1
      have hrs := rel_step hlt dir
      have hsl : (setT (fsT (relT (l.take i) dir))).length ≤ 60 := by
        refine Nat.le_trans (setT_len _) ?_
        unfold fsT
        rw [List.length_map]
        unfold relT
        split
        · rw [List.length_take]; omega
        · refine Nat.le_trans (und_len _ _) ?_
          rw [List.length_take]; omega
      have hN := IsInside_ok dir l[i].path (by omega) (by omega)
      have hw64 : IntKind.i64.wrap ((dir.length : Int) + 1) = ((dir.length + 1 : Nat) : Int) := w64 (by omega) (by omega)
      have hcut : cutL (some (IntKind.i64.wrap ((dir.length : Int) + 1))) none l[i].path = l[i].path.drop (dir.length + 1) := by
        rw [hw64]; simp [cutL]
      have rnd : ∀ x : List UInt8, fsT (relT (l.take (i + 1)) dir) = fsT (relT (l.take i) dir) ++ [x] → texts (addT (setT (fsT (relT (l.take i) dir))) x) = texts (setT (fsT (relT (l.take (i + 1)) dir))) := fun x hx => by rw [hx, set_step]
      by_cases hd : dir = []
      · rw [if_pos hd] at hrs
        have hx := rnd (fstT l[i].path) (by rw [hrs]; unfold fsT; rw [List.map_append]; rfl)
        have e2 : (!(dir == [])) = false := by rw [hd]; rfl
        have hP := Parts_ok l[i].path (by omega)
        have hA := AddText_ok (fl := false) (setT (fsT (relT (l.take i) dir))) (fstT l[i].path) (by omega)
        have g2 : (texts (splitB 47 l[i].path))[((0 : Nat) : Int).toNat]? = some (.str (fstT l[i].path)) := by rw [split_fst]; rfl
        have g3 : 0 < (texts (splitB 47 l[i].path)).length := by rw [split_fst]; simp [texts]
        rw [hx] at hA
        refine pa [.b true, .v (filA l[i]), .b false, .v (.sl true false 1 (texts (splitB 47 l[i].path))), .v (.str (fstT l[i].path)), .v (.sl true false 1 (texts (setT (fsT (relT (l.take (i + 1)) dir)))))] rfl ?_ ?_
        · (repeat' with_reducible apply AllP_cons) <;> try exact aC
          · exact ⟨_, hP, .cons (.refl .str) (.nil _)⟩
          · exact ⟨_, hA, .cons (.refl (.sl (fun h => by cases h) (texts_any _))) (.cons (.refl .str) (.nil _))⟩
        exact S_round (i + 1) (by show l.length - (i + 1) < l.length - i; omega) hlt (.cons rfl (.cons rfl (.cons rfl (.cons (nX (by omega)) (.nil _))))) rfl
      · rw [if_neg hd] at hrs
        have e2 : (!(dir == [])) = true := by simpa using hd
        cases hin : insT dir l[i].path with
        | false =>
          rw [hin] at hN hrs
          rw [if_neg (by simp), List.append_nil] at hrs
          refine pa [.b true, .v (filA l[i]), .b true, .v (.bool false), .b true] rfl ?_ ?_
          · (repeat' with_reducible apply AllP_cons) <;> try exact aC
            · exact ⟨_, hN, .cons (.refl .str) (.cons (.refl .str) (.nil _))⟩
          exact S_round (i + 1) (by show l.length - (i + 1) < l.length - i; omega) hlt (.cons rfl (.cons rfl (.cons (by rw [hrs]; rfl) (.cons (nX (by omega)) (.nil _))))) rfl
        | true =>
          rw [hin] at hN hrs
          rw [if_pos rfl] at hrs
          have hpl : dir.length + 1 ≤ l[i].path.length := ((ins_iff dir l[i].path).1 hin).1
          obtain ⟨X, hX⟩ : ∃ X, X = cutL (some (IntKind.i64.wrap ((dir.length : Int) + 1))) none l[i].path := ⟨_, rfl⟩
          have hXd : X = l[i].path.drop (dir.length + 1) := hX.trans hcut
          have hx := rnd (fstT X) (by rw [hrs, hXd]; unfold fsT; rw [List.map_append]; rfl)
          have hXl : X.length ≤ 100 := by rw [hXd, List.length_drop]; omega
          have hP := Parts_ok X (by omega)
          have hA := AddText_ok (fl := false) (setT (fsT (relT (l.take i) dir))) (fstT X) (by omega)
          have g2 : (texts (splitB 47 X))[((0 : Nat) : Int).toNat]? = some (.str (fstT X)) := by rw [split_fst]; rfl
          have g3 : 0 < (texts (splitB 47 X)).length := by rw [split_fst]; simp [texts]
          rw [hx] at hA
          refine pa [.b true, .v (filA l[i]), .b true, .v (.bool true), .b false, .v (.sl true false 1 (texts (splitB 47 X))), .v (.str (fstT X)), .v (.sl true false 1 (texts (setT (fsT (relT (l.take (i + 1)) dir)))))] rfl ?_ ?_
          · (repeat' with_reducible apply AllP_cons) <;> try exact aC
            · exact ⟨_, hN, .cons (.refl .str) (.cons (.refl .str) (.nil _))⟩
            · exact ⟨_, hP, .cons (by rw [hX]; exact .refl .str) (.nil _)⟩
            · exact ⟨_, hA, .cons (.refl (.sl (fun h => by cases h) (texts_any _))) (.cons (.refl .str) (.nil _))⟩
          exact S_round (i + 1) (by show l.length - (i + 1) < l.length - i; omega) hlt (.cons rfl (.cons rfl (.cons rfl (.cons (nX (by omega)) (.nil _))))) rfl
    · have hil : i = l.length := by omega
      subst hil
      have e1 : decide ((l.length : Int) < (((fils l).length : Nat) : Int)) = false := decide_eq_false (by omega)
      rw [List.take_length]
      have hdirT : dirT (d + 1) (relT l dir) = (packNs (nodsT (dirT d) (relT l dir) (sortT (nmsT (relT l dir)))), blbsT (dirT d) (relT l dir) (sortT (nmsT (relT l dir)))) := rfl
      have hksE : setT (fsT (relT l dir)) = sortT (nmsT (relT l dir)) := (nms_set _).symm
      rw [hdirT, hksE]
      obtain ⟨rl, hrl⟩ : ∃ rl, rl = relT l dir := ⟨_, rfl⟩
      rw [← hrl] at hr ⊢
      have hkm : ∀ n ∈ sortT (nmsT rl), n ∈ nmsT rl := fun n hn => (sortT_perm _).mem_iff.1 hn
      have hkl : (sortT (nmsT rl)).length ≤ 60 := by rw [(sortT_perm _).length_eq]; exact Nat.le_trans (nms_len _) hr.len
      have hchk := nods_chk hr (dirT d)
      have hPN := PackNodes_ok (st := false) (fl := false) _ (chk_fit hchk)
      generalize hks : sortT (nmsT rl) = ks at *
      refine pB [.b false] rfl ?_
      refine S_ghostF (t := 9) 3 ⟨false, none⟩ rfl rfl ⟨_, _, .inl rfl⟩ ?_
      refine S_dead ?_ ⟨_, _, .inl rfl⟩
      refine S_nilF 10 1 true false rfl ⟨_, _, .inl rfl⟩ ?_
      refine S_while (α := Nat) (fun j => [(0, .sl st fl 3 (fils l)), (1, .str dir), (6, .sl true false 1 (texts ks)), (11, .int .i64 (j : Nat)), (9, .ms 0 j 0 j 3 false), (10, .sl true false 1 (texts (setT (blbsT (dirT d) rl (ks.take j)))))])
        (fun j => [(j, some (.cells ((nodes (nodsT (dirT d) rl (ks.take j))).flatMap AV.cells) ⟨false, none⟩)), (j, none)]) (fun j => j ≤ ks.length) (fun j => ks.length - j) 0
        (Nat.zero_le _) (.cons rfl (.cons rfl (.cons rfl (.cons rfl (.cons rfl (.cons (by show AV.sl true false 1 [] = AV.sl true false 1 (texts (setT [])); rw [set_nil]; rfl) (.nil _))))))) rfl ?_
      intro j hj
      have hj : j ≤ ks.length := hj
      by_cases hjt : j < ks.length
      · have e2 : decide ((j : Int) < (((texts ks).length : Nat) : Int)) = true := decide_eq_true (by rw [txl]; omega)
        have g2 : (texts ks)[(j : Int).toNat]? = some (.str ks[j]) := texts_gt hjt
        have hn := hkm _ (List.getElem_mem hjt)
        have hnl : ks[j].length ≤ 100 := by
          obtain ⟨f, hf, he⟩ := nms_mem.1 hn
          have h1 := (path_fst (hr.path _ hf)).2.1
          have h2 := fst_len f.path
          rw [he] at h2; omega
        obtain ⟨P, hP⟩ : ∃ P, P = pathT dir ks[j] := ⟨_, rfl⟩
        by_cases hd : dir = []
        case' pos =>
          have e3 : (!(dir == [])) = false := by rw [hd]; rfl
          have hPv : P = ks[j] := by rw [hP, pathT, if_pos hd]
          refine pa [.b true, .v (.str ks[j]), .b false, .v (.str ks[j])] rfl ?_ ?_
        case' neg =>
          have e3 : (!(dir == [])) = true := by simpa using hd
          have hPv : P = dir ++ [47] ++ ks[j] := by rw [hP, pathT, if_neg hd]
          refine pa [.b true, .v (.str ks[j]), .b true, .v (.str ks[j])] rfl ?_ ?_
        case pos.refine_1 | neg.refine_1 =>
          (repeat' with_reducible apply AllP_cons) <;> try exact aC
          all_goals (show ((((dir ++ [47]).length + ks[j].length : Nat) : Int) ≤ 9223372036854775807); rw [List.length_append, List.length_singleton]; omega)
        all_goals
          refine S_while (α := Nat) (fun k => [(0, .sl st fl 3 (fils l)), (1, .str dir), (6, .sl true false 1 (texts ks)), (11, .int .i64 (j : Nat)), (9, .ms 0 j 0 j 3 false), (10, .sl true false 1 (texts (setT (blbsT (dirT d) rl (ks.take j))))), (12, .str P), (13, .ptr 1 (j + 1) 0), (14, .str (txK l P k)), (15, .int .i64 (k : Nat))])
            (fun k => [(j, some (.cells ((nodes (nodsT (dirT d) rl (ks.take j))).flatMap AV.cells) ⟨false, none⟩)), (j + 1, some (.cells [.str ks[j], .int .i64 (kdK l P k : Nat), .str []] ⟨false, some 102⟩))]) (fun k => k ≤ l.length) (fun k => l.length - k) 0
            (Nat.zero_le _) (.cons rfl (.cons rfl (.cons rfl (.cons rfl (.cons rfl (.cons rfl (.cons (by rw [hPv]; rfl) (.cons rfl (.cons rfl (.cons rfl (.nil _))))))))))) rfl ?_
          clear hPv
          intro k hk
          have hk : k ≤ l.length := hk
          by_cases hkt : k < l.length
          · have e4 : decide ((k : Int) < (((fils l).length : Nat) : Int)) = true := decide_eq_true (by omega)
            have g4 : (fils l)[(k : Int).toNat]? = some (filA l[k]) := fils_get hkt
            have hfs := find_step (P := P) hkt hl.ok
            by_cases heq : l[k].path = P
            · rw [if_pos heq] at hfs
              have e5 : (l[k].path == P) = true := by simpa using heq
              cases hrun : l[k].run with
              | true =>
                have g5 : (fils l)[(k : Int).toNat]? = some (.agg [.str l[k].path, .str l[k].text, .bool true]) := by rw [g4, ← hrun]; rfl
                refine pa [.b true, .v (filA l[k]), .b true, .d 6 7 [] (fun σ => σ.head! :: (j + 1, some (.cells [.str ks[j], .int .i64 1, .str []] ⟨false, some 102⟩)) :: []) [filA l[k], .tup []], .v (.agg [.str l[k].path, .str l[k].text, .bool true]), .b true] rfl ?_ ?_
                · (repeat' with_reducible apply AllP_cons) <;> try exact aC
                  all_goals trace_state
                  all_goals sorry
                exact S_round (k + 1) (by show l.length - (k + 1) < l.length - k; omega) hkt (.cons rfl (.cons rfl (.cons rfl (.cons rfl (.cons rfl (.cons rfl (.cons rfl (.cons rfl (.cons (by unfold txK; rw [hfs]; rfl) (.cons (nX (by omega)) (.nil _))))))))))) (by unfold kdK; rw [hfs]; simp only [hrun]; rfl)
              | false =>
                have g5 : (fils l)[(k : Int).toNat]? = some (.agg [.str l[k].path, .str l[k].text, .bool false]) := by rw [g4, ← hrun]; rfl
                refine pa [.b true, .v (filA l[k]), .b true, .d 6 7 [] (fun σ => σ.head! :: (j + 1, some (.cells [.str ks[j], .int .i64 1, .str []] ⟨false, some 102⟩)) :: []) [filA l[k], .tup []], .v (.agg [.str l[k].path, .str l[k].text, .bool false]), .b false] rfl ?_ ?_
                · (repeat' with_reducible apply AllP_cons) <;> try exact aC
                  all_goals trace_state
                  all_goals sorry
                exact S_round (k + 1) (by show l.length - (k + 1) < l.length - k; omega) hkt (.cons rfl (.cons rfl (.cons rfl (.cons rfl (.cons rfl (.cons rfl (.cons rfl (.cons rfl (.cons (by unfold txK; rw [hfs]; rfl) (.cons (nX (by omega)) (.nil _))))))))))) (by unfold kdK; rw [hfs]; simp only [hrun]; rfl)
            · rw [if_neg heq] at hfs
              have e5 : (l[k].path == P) = false := by simpa using heq
              refine pa [.b true, .v (filA l[k]), .b false] rfl ?_ ?_
              · (repeat' with_reducible apply AllP_cons) <;> try exact aC
                all_goals trace_state
                all_goals sorry
              exact S_round (k + 1) (by show l.length - (k + 1) < l.length - k; omega) hkt (.cons rfl (.cons rfl (.cons rfl (.cons rfl (.cons rfl (.cons rfl (.cons rfl (.cons rfl (.cons (by unfold txK; rw [hfs]; rfl) (.cons (nX (by omega)) (.nil _))))))))))) (by unfold kdK; rw [hfs])
          · have hkl2 : k = l.length := by omega
            subst hkl2
            have e4 : decide ((l.length : Int) < (((fils l).length : Nat) : Int)) = false := decide_eq_false (by omega)
            have hWb : (blbsT (dirT d) rl (ks.take (j + 1))).length ≤ 60060 := by
              refine Nat.le_trans (blb_take _ _ _ _) ?_
              have h1 := blb_count hr
              have h2 : (dirT (d + 1) rl).2 = blbsT (dirT d) rl (sortT (nmsT rl)) := rfl
              rw [h2, hks] at h1
              have h3 := hr.len
              have h4 : rl.length * (d + 1) ≤ 60 * (d + 1) := Nat.mul_le_mul_right _ h3
              omega
            have hstep : ∀ e : NodeV × List (List UInt8), entT (dirT d) ks[j] (grT rl ks[j]) = e → nodsT (dirT d) rl (ks.take (j + 1)) = nodsT (dirT d) rl (ks.take j) ++ [e.1] ∧ blbsT (dirT d) rl (ks.take (j + 1)) = blbsT (dirT d) rl (ks.take j) ++ e.2 := by
              intro e he
              unfold nodsT blbsT
              rw [List.take_succ_eq_append_getElem hjt, List.map_append, List.flatMap_append]
              simp only [List.map_cons, List.map_nil, List.flatMap_cons, List.flatMap_nil, List.append_nil]
              rw [he]; exact ⟨rfl, rfl⟩
            have hend : ∀ (m : NodeV), nodsT (dirT d) rl (ks.take (j + 1)) = nodsT (dirT d) rl (ks.take j) ++ [m] → (nodes (nodsT (dirT d) rl (ks.take j))).flatMap AV.cells ++ [.str m.name, .int .i64 m.kind, .str m.dig] = (nodes (nodsT (dirT d) rl (ks.take (j + 1)))).flatMap AV.cells := by
              intro m hm
              rw [hm]; unfold nodes
              rw [List.map_append, List.flatMap_append]; rfl
            have hcn : ((nodes (nodsT (dirT d) rl (ks.take j))).flatMap AV.cells).length = j * 3 := by
              rw [ncel_len]; unfold nodsT; rw [List.length_map, List.length_take, Nat.min_eq_left (by omega)]
            have hnc : ks[j].count 47 = 0 := by
              obtain ⟨f, _, he⟩ := nms_mem.1 hn
              rw [← he]; exact fst_no _
            have hn0 : ks[j] ≠ [] := by
              obtain ⟨f, hf, he⟩ := nms_mem.1 hn
              intro h0
              have := (path_fst (hr.path _ hf)).1
              rw [he, h0] at this; simp [isName] at this
            rcases hr.sub hn with ⟨f, hf, hfp, hfr, hgf⟩ | ⟨hne, hsub⟩
            · have hfind : ∃ g, l.find? (fun f => f.path == P) = some g ∧ g.text = f.text ∧ g.run = f.run := by
                obtain ⟨g, hg, h1, h2, h3⟩ := (rel_file (l := l) (dir := dir) (n := ks[j]) (f := f) hn0).1 ⟨f, by rw [← hrl]; exact hf, hfp, rfl, rfl⟩
                rw [← hP] at h1
                cases hq : l.find? (fun f => f.path == P) with
                | none => rw [List.find?_eq_none] at hq; exact absurd (by simpa using h1) (hq g hg)
                | some g' =>
                  have h4 := List.mem_of_find?_eq_some hq
                  have h5 : g'.path = P := by simpa using List.find?_some hq
                  have := ok_uniq hl.ok h4 hg (h5.trans h1.symm)
                  subst this
                  exact ⟨_, rfl, h2, h3⟩
              obtain ⟨g, hg1, hg2, hg3⟩ := hfind
              have htx : txK l P l.length = f.text := by unfold txK; rw [List.take_length, hg1]; exact hg2
              have hft := hr.text f hf
              have hS := SumR_ok f.text (by omega)
              rw [htx]
              cases hrun : f.run with
              | true =>
                have hkd : kdK l P l.length = 2 := by unfold kdK; rw [List.take_length, hg1]; show (if g.run = true then 2 else 1) = 2; rw [hg3, hrun]; rfl
                rw [hkd]
                have hent : entT (dirT d) ks[j] (grT rl ks[j]) = (⟨ks[j], 2, sha f.text⟩, [f.text]) := by rw [hgf, entT, if_pos rfl, hrun]; rfl
                obtain ⟨s1, s2⟩ := hstep _ hent
                have hA := AddText_ok (fl := false) (setT (blbsT (dirT d) rl (ks.take j))) f.text (by rw [s2, List.length_append] at hWb; have := setT_len (blbsT (dirT d) rl (ks.take j)); omega)
                rw [set_step] at hA
                simp only at s2
                rw [← s2] at hA
                refine pan 42 [.b false, .b false, .v (.sl true false 1 (texts (setT (blbsT (dirT d) rl (ks.take (j + 1)))))), .v (.str (sha f.text))] rfl ?_ ?_
                · (repeat' with_reducible apply AllP_cons) <;> try exact aC
                  · exact ⟨_, hA, .cons (.refl (.sl (fun h => by cases h) (texts_any _))) (.cons (.refl .str) (.nil _))⟩
                  · exact ⟨_, hS, .cons (.refl .str) (.nil _)⟩
                  · show 0 + j * 3 = _
                    rw [hcn]; omega
                  · show (j + 1) * 40 ≤ 140737488355328
                    omega
                refine S_drop (id := 1) rfl ?_ ⟨.skip, _, .inr ⟨_, _, _, rfl⟩⟩
                refine S_heap [(j + 1, some (.cells ((nodes (nodsT (dirT d) rl (ks.take (j + 1)))).flatMap AV.cells) ⟨false, none⟩)), (j + 1, none)] ?_ ?_
                · rw [← hend _ s1]; rfl
                refine pB [] rfl ?_
                exact S_round (j + 1) (by show ks.length - (j + 1) < ks.length - j; omega) hjt (.cons rfl (.cons rfl (.cons rfl (.cons (nX (by omega)) (.cons rfl (.cons rfl (.nil _))))))) rfl
              | false =>
                have hkd : kdK l P l.length = 1 := by unfold kdK; rw [List.take_length, hg1]; show (if g.run = true then 2 else 1) = 1; rw [hg3, hrun]; rfl
                rw [hkd]
                have hent : entT (dirT d) ks[j] (grT rl ks[j]) = (⟨ks[j], 1, sha f.text⟩, [f.text]) := by rw [hgf, entT, if_pos rfl, hrun]; rfl
                obtain ⟨s1, s2⟩ := hstep _ hent
                have hA := AddText_ok (fl := false) (setT (blbsT (dirT d) rl (ks.take j))) f.text (by rw [s2, List.length_append] at hWb; have := setT_len (blbsT (dirT d) rl (ks.take j)); omega)
                rw [set_step] at hA
                simp only at s2
                rw [← s2] at hA
                refine pan 42 [.b false, .b false, .v (.sl true false 1 (texts (setT (blbsT (dirT d) rl (ks.take (j + 1)))))), .v (.str (sha f.text))] rfl ?_ ?_
                · (repeat' with_reducible apply AllP_cons) <;> try exact aC
                  · exact ⟨_, hA, .cons (.refl (.sl (fun h => by cases h) (texts_any _))) (.cons (.refl .str) (.nil _))⟩
                  · exact ⟨_, hS, .cons (.refl .str) (.nil _)⟩
                  · show 0 + j * 3 = _
                    rw [hcn]; omega
                  · show (j + 1) * 40 ≤ 140737488355328
                    omega
                refine S_drop (id := 1) rfl ?_ ⟨.skip, _, .inr ⟨_, _, _, rfl⟩⟩
                refine S_heap [(j + 1, some (.cells ((nodes (nodsT (dirT d) rl (ks.take (j + 1)))).flatMap AV.cells) ⟨false, none⟩)), (j + 1, none)] ?_ ?_
                · rw [← hend _ s1]; rfl
                refine pB [] rfl ?_
                exact S_round (j + 1) (by show ks.length - (j + 1) < ks.length - j; omega) hjt (.cons rfl (.cons rfl (.cons rfl (.cons (nX (by omega)) (.cons rfl (.cons rfl (.nil _))))))) rfl
            · have hno : ∀ f ∈ rl, f.path ≠ ks[j] := by
                intro f hf e
                have hfs : fstT f.path = ks[j] := by
                  rw [e]
                  rcases fst_ok ks[j] with ⟨_, h, _⟩ | ⟨h, _⟩
                  · exact h
                  · omega
                have hrs : rstT f.path = [] := by
                  rw [e]
                  rcases fst_ok ks[j] with ⟨_, _, h⟩ | ⟨h, _⟩
                  · exact h
                  · omega
                exact hne (stp f) (List.mem_map.2 ⟨f, List.mem_filter.2 ⟨hf, by simpa using hfs⟩, rfl⟩) hrs
              have hfind : l.find? (fun f => f.path == P) = none := by
                rw [List.find?_eq_none]
                intro g hg hgp
                have hgp : g.path = P := by simpa using hgp
                obtain ⟨g', hg', h1, _⟩ := (rel_file (l := l) (dir := dir) (n := ks[j]) (f := g) hn0).2 ⟨g, hg, by rw [hgp, hP], rfl, rfl⟩
                exact hno g' (by rw [hrl]; exact hg') h1
              have htx : txK l P l.length = [] := by unfold txK; rw [List.take_length, hfind]
              have hkd : kdK l P l.length = 3 := by unfold kdK; rw [List.take_length, hfind]
              have hrg : relT l P = grT rl ks[j] := by rw [hP, hrl]; exact rel_grp hnc hn0 (by rw [← hrl]; exact hno)
              have hgne := gr_ne hn
              obtain ⟨f0, r0, hfr⟩ : ∃ f r, grT rl ks[j] = f :: r := by
                cases hq : grT rl ks[j] with
                | nil => exact absurd hq hgne
                | cons f r => exact ⟨f, r, rfl⟩
              have hd1 : ∃ d', d = d' + 1 := by
                cases d with
                | zero => have := hsub.dep f0 (by rw [hfr]; simp); omega
                | succ d' => exact ⟨d', rfl⟩
              obtain ⟨d', hd1⟩ := hd1
              have hP0 : P ≠ [] := by rw [hP]; unfold pathT; split <;> simp [hn0]
              have hPl : P.length ≤ 100 := by
                have h1 : f0 ∈ relT l P := by rw [hrg, hfr]; simp
                rw [relT, if_neg hP0] at h1
                obtain ⟨g, hg, hi, _⟩ := und_mem.1 h1
                have h2 := ((ins_iff P g.path).1 hi).1
                have h3 := (path_fst (hl.path _ hg)).2.1
                omega
              have hih := ih d' (by omega) P (by omega) (by omega) (by rw [hrg, ← hd1]; exact hsub)
              rw [hrg, ← hd1] at hih
              have hent : entT (dirT d) ks[j] (grT rl ks[j]) = (⟨ks[j], 3, sha (dirT d (grT rl ks[j])).1⟩, (dirT d (grT rl ks[j])).2 ++ [(dirT d (grT rl ks[j])).1]) := by
                rw [hfr, entT, if_neg (hne f0 (by rw [hfr]; simp))]
              obtain ⟨s1, s2⟩ := hstep _ hent
              have hsl := dir_len hsub
              rw [htx, hkd]
              generalize dirT d (grT rl ks[j]) = y at *
              obtain ⟨tx, tb⟩ := y
              simp only at s1 s2 hsl
              obtain ⟨A, hA⟩ : ∃ A, A = blbsT (dirT d) rl (ks.take j) := ⟨_, rfl⟩
              rw [← hA] at s2 ⊢
              rw [s2] at hWb
              rw [List.length_append, List.length_append, List.length_singleton] at hWb
              have hMl := setT_len tb
              have hS := SumR_ok tx (by omega)
              refine pa [.b false, .b true, .v (dirAV (tx, tb))] rfl ?_ ?_
              · (repeat' with_reducible apply AllP_cons) <;> try exact aC
                · exact ⟨_, hih, .cons (.refl (.sl (fun h => by cases h) (fils_free l))) (.cons (.refl .str) (.nil _))⟩
              refine S_while (α := Nat) (fun k => [(0, .sl st fl 3 (fils l)), (1, .str dir), (6, .sl true false 1 (texts ks)), (11, .int .i64 (j : Nat)), (9, .ms 0 j 0 j 3 false), (10, .sl true false 1 (texts (setT (A ++ (setT tb).take k)))), (13, .ptr 1 (j + 1) 0), (14, .str tx), (17, .sl true false 1 (texts (setT tb))), (18, .int .i64 (k : Nat))])
                (fun k => [(j, some (.cells ((nodes (nodsT (dirT d) rl (ks.take j))).flatMap AV.cells) ⟨false, none⟩)), (j + 1, some (.cells [.str ks[j], .int .i64 (3 : Nat), .str []] ⟨false, some 102⟩))]) (fun k => k ≤ (setT tb).length) (fun k => (setT tb).length - k) 0
                (Nat.zero_le _) (.cons rfl (.cons rfl (.cons rfl (.cons rfl (.cons rfl (.cons (by rw [List.take_zero, List.append_nil]; rfl) (.cons rfl (.cons rfl (.cons rfl (.cons rfl (.nil _))))))))))) rfl ?_
              intro k hk
              have hk : k ≤ (setT tb).length := hk
              by_cases hkt : k < (setT tb).length
              · have e6 : decide ((k : Int) < (((texts (setT tb)).length : Nat) : Int)) = true := decide_eq_true (by rw [txl]; omega)
                have g6 : (texts (setT tb))[(k : Int).toNat]? = some (.str (setT tb)[k]) := texts_gt hkt
                have hB := AddText_ok (fl := false) (setT (A ++ (setT tb).take k)) (setT tb)[k] (by
                  have h1 := setT_len (A ++ (setT tb).take k)
                  rw [List.length_append, List.length_take] at h1; omega)
                have hBe : texts (addT (setT (A ++ (setT tb).take k)) (setT tb)[k]) = texts (setT (A ++ (setT tb).take (k + 1))) := by
                  rw [set_step, List.take_succ_eq_append_getElem hkt, List.append_assoc]
                rw [hBe] at hB
                refine pa [.b true, .v (.str (setT tb)[k]), .v (.sl true false 1 (texts (setT (A ++ (setT tb).take (k + 1)))))] rfl ?_ ?_
                · (repeat' with_reducible apply AllP_cons) <;> try exact aC
                  · exact ⟨_, hB, .cons (.refl (.sl (fun h => by cases h) (texts_any _))) (.cons (.refl .str) (.nil _))⟩
                exact S_round (k + 1) (by show (setT tb).length - (k + 1) < (setT tb).length - k; omega) hkt (.cons rfl (.cons rfl (.cons rfl (.cons rfl (.cons rfl (.cons rfl (.cons rfl (.cons rfl (.cons rfl (.cons (nX (by omega)) (.nil _))))))))))) rfl
              have hke : k = (setT tb).length := by omega
              subst hke
              have e6 : decide ((((setT tb).length : Nat) : Int) < (((texts (setT tb)).length : Nat) : Int)) = false := decide_eq_false (by rw [txl]; omega)
              have hAe : setT (A ++ (setT tb).take (setT tb).length) = setT (A ++ tb) := setT_ext fun x => by
                rw [List.take_length, List.mem_append, List.mem_append, setT_mem]
              rw [hAe]
              have hA' := AddText_ok (fl := false) (setT (A ++ tb)) tx (by
                have h1 := setT_len (A ++ tb)
                rw [List.length_append] at h1; omega)
              rw [set_step, List.append_assoc, ← s2] at hA'
              have hA := hA'
              refine pan 35 [.b false, .v (.sl true false 1 (texts (setT (blbsT (dirT d) rl (ks.take (j + 1)))))), .v (.str (sha tx))] rfl ?_ ?_
              · (repeat' with_reducible apply AllP_cons) <;> try exact aC
                · exact ⟨_, hA, .cons (.refl (.sl (fun h => by cases h) (texts_any _))) (.cons (.refl .str) (.nil _))⟩
                · exact ⟨_, hS, .cons (.refl .str) (.nil _)⟩
                · show 0 + j * 3 = _
                  rw [hcn]; omega
                · show (j + 1) * 40 ≤ 140737488355328
                  omega
              refine S_drop (id := 1) rfl ?_ ⟨.skip, _, .inr ⟨_, _, _, rfl⟩⟩
              refine S_heap [(j + 1, some (.cells ((nodes (nodsT (dirT d) rl (ks.take (j + 1)))).flatMap AV.cells) ⟨false, none⟩)), (j + 1, none)] ?_ ?_
              · rw [← hend _ s1]; rfl
              refine pB [] rfl ?_
              exact S_round (j + 1) (by show ks.length - (j + 1) < ks.length - j; omega) hjt (.cons rfl (.cons rfl (.cons rfl (.cons (nX (by omega)) (.cons rfl (.cons rfl (.nil _))))))) rfl
      · have hje : j = ks.length := by omega
        subst hje
        have e2 : decide ((ks.length : Int) < (((texts ks).length : Nat) : Int)) = false := decide_eq_false (by rw [txl]; omega)
        rw [List.take_length]
        have hnn : (nodsT (dirT d) rl ks).length = ks.length := by unfold nodsT; exact List.length_map ..
        have hcn := ncel_len (nodsT (dirT d) rl ks)
        refine pa [.b false, .v (.str (packNs (nodsT (dirT d) rl ks)))] rfl ?_ ?_
        · (repeat' with_reducible apply AllP_cons) <;> try exact aC
          · exact ⟨_, hPN, .cons (.ms rfl (by show 0 + ks.length * 3 ≤ _; omega) (by rw [List.drop_zero, List.take_of_length_le (by omega)]) (by intro x hx; obtain ⟨y, _, rfl⟩ := List.mem_map.1 hx; rfl) (by rw [nodes_len]; exact hnn) (nodes_any _)) (.nil _)⟩
        exact S_retc (dirAV_free _) rfl trivial rfl
end Go.Proofs.YtpehmhlgldbeoaaGreatDoor
end
section
set_option linter.unusedVariables false
set_option linter.unusedSimpArgs false
set_option maxRecDepth 20000
set_option maxHeartbeats 4000000
namespace Go.Proofs.YtpehmhlgldbeoaaGreatDoor
open Go Go.Ab
def atF (l : List Fil) (p : List UInt8) : Int := match l.findIdx? (fun f => f.path == p) with
  | some i => (i : Nat)
  | none => -1
theorem atF_at {l : List Fil} {p : List UInt8} {i : Nat} (hi : i < l.length) (h : (l[i].path == p) = true) (hn : ∀ j (hj : j < l.length), j < i → (l[j].path == p) = false) : atF l p = (i : Nat) := by
  have : l.findIdx? (fun f => f.path == p) = some i := by
    rw [List.findIdx?_eq_some_iff_getElem]
    exact ⟨hi, h, fun j hj => by simp [hn j (by omega) hj]⟩
  unfold atF; rw [this]
theorem atF_no {l : List Fil} {p : List UInt8} (hn : ∀ j (hj : j < l.length), (l[j].path == p) = false) : atF l p = -1 := by
  have : l.findIdx? (fun f => f.path == p) = none := by
    rw [List.findIdx?_eq_none_iff]
    intro f hf
    obtain ⟨j, hj, rfl⟩ := List.getElem_of_mem hf
    exact hn j hj
  unfold atF; rw [this]
theorem atF_cases (l : List Fil) (p : List UInt8) : (atF l p = -1 ∧ ∀ f ∈ l, f.path ≠ p) ∨ ∃ i, ∃ h : i < l.length, atF l p = (i : Nat) ∧ l[i].path = p := by
  unfold atF
  cases hq : l.findIdx? (fun f => f.path == p) with
  | none =>
    rw [List.findIdx?_eq_none_iff] at hq
    exact .inl ⟨rfl, fun f hf e => by have := hq f hf; simp [e] at this⟩
  | some i =>
    rw [List.findIdx?_eq_some_iff_getElem] at hq
    obtain ⟨h1, h2, _⟩ := hq
    exact .inr ⟨i, h1, rfl, by simpa using h2⟩
theorem FileAt_ok {st fl : Bool} (l : List Fil) (p : List UInt8) (hl : l.length ≤ 1000000000) : Calc cx 41 [.sl st fl 3 (fils l), .str p] (.int .i64 (atF l p)) :=
  pure_intro (fun a w => Tryz.call41 a w) Tryz.func41 rfl Tryz.ntmps41 rfl .int fun B => by
    have hll := fils_len l
    refine pB [] rfl ?_
    refine S_while (α := Nat) (fun i => [(0, .sl st fl 3 (fils l)), (1, .str p), (5, .int .i64 (i : Nat))]) (fun _ => []) (fun i => i ≤ l.length ∧ ∀ j (hj : j < l.length), j < i → (l[j].path == p) = false) (fun i => l.length - i) 0
      ⟨Nat.zero_le _, fun j hj h => absurd h (Nat.not_lt_zero _)⟩ (.cons rfl (.cons rfl (.cons rfl (.nil _)))) rfl ?_
    rintro i ⟨hi, hn⟩
    have hi : i ≤ l.length := hi
    by_cases hlt : i < l.length
    · have e1 : decide ((i : Int) < (((fils l).length : Nat) : Int)) = true := decide_eq_true (by omega)
      have g1 : (fils l)[(i : Int).toNat]? = some (filA l[i]) := fils_get hlt
      cases h : l[i].path == p with
      | true =>
        rw [atF_at hlt h hn]
        refine pB [.b true, .v (filA l[i]), .b true] rfl ?_
        exact S_retc .int rfl trivial rfl
      | false =>
        refine pB [.b true, .v (filA l[i]), .b false] rfl ?_
        exact S_round (i + 1) (by show l.length - (i + 1) < l.length - i; omega) ⟨hlt, fun j hj h' => by
          by_cases hji : j < i
          · exact hn j hj hji
          · have : j = i := by omega
            subst this; exact h⟩ (.cons rfl (.cons rfl (.cons (nX (by omega)) (.nil _)))) rfl
    · have hil : i = l.length := by omega
      subst hil
      have e1 : decide ((l.length : Int) < (((fils l).length : Nat) : Int)) = false := decide_eq_false (by omega)
      rw [atF_no (fun j hj => hn j hj hj)]
      refine pB [.b false] rfl ?_
      exact S_retc .int rfl trivial rfl
theorem ok_nodup {l : List Fil} (h : okT l) : l.Nodup := by
  refine List.Pairwise.imp (fun {f g} h e => ?_) h.1
  rw [e, bl_irr] at h; cases h
theorem ok_path {l : List Fil} (h : okT l) {f g : Fil} (hf : f ∈ l) (hg : g ∈ l) (e : f.path = g.path) : f = g := by
  obtain ⟨i, hi, rfl⟩ := List.getElem_of_mem hf
  obtain ⟨j, hj, rfl⟩ := List.getElem_of_mem hg
  have hp := List.pairwise_iff_getElem.1 h.1
  rcases Nat.lt_trichotomy i j with hij | hij | hij
  · have := hp i j hi hj hij; rw [e, bl_irr] at this; cases this
  · subst hij; rfl
  · have := hp j i hj hi hij; rw [e, bl_irr] at this; cases this
theorem ok_count {l : List Fil} (h : okT l) {f : Fil} (hf : f ∈ l) : l.count f = 1 := by
  have h1 := List.nodup_iff_count.1 (ok_nodup h) f
  have h2 := List.count_pos_iff.2 hf
  omega
end Go.Proofs.YtpehmhlgldbeoaaGreatDoor
end
section
set_option linter.unusedVariables false
set_option linter.unusedSimpArgs false
set_option maxRecDepth 20000
set_option maxHeartbeats 4000000
namespace Go.Proofs.YtpehmhlgldbeoaaGreatDoor
open Go Go.Ab
theorem fsR {σ : Heap} {st fl : Bool} (l : List Fil) : Frz false σ (.sl st fl 3 (fils l)) (.sl st fl 3 (fils l)) := .refl (.sl (fun h => by cases h) (fils_free l))
theorem dif_both {a b : List Fil} (h : difE a b = 0) : chkT a = 0 ∧ chkT b = 0 := by
  unfold difE at h
  by_cases hc : chkT a = 0
  · rw [if_pos hc] at h; exact ⟨hc, h⟩
  · rw [if_neg hc] at h; exact absurd h hc
theorem dif_len {a b : List Fil} (h : difE a b = 0) : (difT (a ++ b)).length ≤ 120 := by
  obtain ⟨h1, h2⟩ := dif_both h
  have h3 := (DirOk.of h1).len
  have h4 := (DirOk.of h2).len
  unfold difT
  refine Nat.le_trans (setT_len _) ?_
  rw [List.length_map]
  refine Nat.le_trans (List.length_filter_le _ _) ?_
  rw [List.length_append]; omega
end Go.Proofs.YtpehmhlgldbeoaaGreatDoor
end
section
set_option linter.unusedVariables false
set_option linter.unusedSimpArgs false
set_option maxRecDepth 20000
set_option maxHeartbeats 4000000
namespace Go.Proofs.YtpehmhlgldbeoaaGreatDoor
open Go Go.Ab
theorem rel_nil (l : List Fil) : relT l [] = l := if_pos rfl
theorem blob_set (l : List Fil) : blobT l = setT ((dirT 101 l).2 ++ [(dirT 101 l).1]) := by
  unfold blobT setT
  rw [List.foldl_append]; rfl
theorem Dir0_ok {st fl : Bool} (l : List Fil) (h : chkT l = 0) : Calc cx 59 [.sl st fl 3 (fils l), .str []] (dirAV (dirT 101 l)) := by
  have hd := DirOk.of h
  have := Directory_ok (st := st) (fl := fl) l hd 100 [] (by decide) (by decide) (by rw [rel_nil]; exact hd)
  rwa [rel_nil] at this
theorem TreeBlobsR_ok {st fl : Bool} (l : List Fil) (h : chkT l = 0) : Calc cx 29 [.sl st fl 3 (fils l)] (.sl true false 1 (texts (blobT l))) :=
  pure_intro (fun a w => Tryz.call29 a w) Tryz.func29 rfl Tryz.ntmps29 rfl (.sl (fun _ => rfl) (texts_any _)) fun B => by
    have hd := DirOk.of h
    have hD := Dir0_ok (st := st) (fl := fl) l h
    have hA := AddText_ok (fl := false) (setT (dirT 101 l).2) (dirT 101 l).1 (by
      have h1 := setT_len (dirT 101 l).2
      have h2 := blb_count hd
      have h3 := hd.len
      have h4 : l.length * 101 ≤ 60 * 101 := Nat.mul_le_mul_right _ h3
      omega)
    rw [set_step, ← blob_set] at hA
    refine pa [.v (dirAV (dirT 101 l)), .v (.sl true false 1 (texts (blobT l)))] rfl ?_ ?_
    · (repeat' with_reducible apply AllP_cons) <;> try exact aC
      · exact ⟨_, hD, .cons (.refl (.sl (fun h => by cases h) (fils_free l))) (.cons (.refl .str) (.nil _))⟩
      · exact ⟨_, hA, .cons (.refl (.sl (fun h => by cases h) (texts_any _))) (.cons (.refl .str) (.nil _))⟩
    exact S_retc (.sl (fun _ => rfl) (texts_any _)) rfl trivial rfl
end Go.Proofs.YtpehmhlgldbeoaaGreatDoor
end
section
set_option linter.unusedVariables false
set_option linter.unusedSimpArgs false
set_option maxRecDepth 20000
set_option maxHeartbeats 4000000
namespace Go.Proofs.YtpehmhlgldbeoaaGreatDoor
open Go Go.Ab Go.Shelf Go.RowKit Go.Lib Go.Sort
instance : Inhabited Fil := ⟨⟨[], [], false⟩⟩
end Go.Proofs.YtpehmhlgldbeoaaGreatDoor
end
section
set_option linter.unusedVariables false
set_option linter.unusedSimpArgs false
set_option maxRecDepth 20000
set_option maxHeartbeats 4000000
namespace Go.Proofs.YtpehmhlgldbeoaaGreatDoor
open Go Go.Ab Go.Shelf Go.RowKit Go.Lib Go.Sort
def sortFl (o : List Fil) : List Fil := o.mergeSort fun f g => decide (f.path ≤ g.path)
theorem sortFl_perm (o : List Fil) : (sortFl o).Perm o := List.mergeSort_perm _ _
theorem sortFl_pw (o : List Fil) : (sortFl o).Pairwise fun f g => f.path ≤ g.path := by
  have := List.pairwise_mergeSort (le := fun f g : Fil => decide (f.path ≤ g.path)) (fun a b c h1 h2 => leT_trans _ _ _ h1 h2) (fun a b => leT_total _ _) o
  exact this.imp fun h => by simpa using h
theorem sortFl_uniq {o x : List Fil} (hnd : (o.map Fil.path).Nodup) (hp : x.Perm o) (hs : x.Pairwise fun f g => f.path ≤ g.path) : x = sortFl o := by
  have h1 : x.map Fil.path = (sortFl o).map Fil.path := perm_sorted ((hp.trans (sortFl_perm o).symm).map _) (List.pairwise_map.2 hs) (List.pairwise_map.2 (sortFl_pw o))
  have hinj : ∀ f ∈ o, ∀ g ∈ o, f.path = g.path → f = g := by
    intro f hf g hg h
    obtain ⟨i, hi, rfl⟩ := List.getElem_of_mem hf
    obtain ⟨j, hj, rfl⟩ := List.getElem_of_mem hg
    have : i = j := (List.getElem_inj (h₀ := by simpa using hi) (h₁ := by simpa using hj) hnd).1 (by simpa using h)
    subst this; rfl
  have hl : x.length = (sortFl o).length := by have := congrArg List.length h1; simpa using this
  refine List.ext_getElem hl fun i h2 h3 => ?_
  refine hinj _ (hp.mem_iff.1 (List.getElem_mem h2)) _ ((sortFl_perm o).mem_iff.1 (List.getElem_mem h3)) ?_
  have e : (x.map Fil.path)[i]? = ((sortFl o).map Fil.path)[i]? := by rw [h1]
  rw [List.getElem?_map, List.getElem?_map, List.getElem?_eq_getElem h2, List.getElem?_eq_getElem h3] at e
  exact Option.some.inj e
end Go.Proofs.YtpehmhlgldbeoaaGreatDoor
end
