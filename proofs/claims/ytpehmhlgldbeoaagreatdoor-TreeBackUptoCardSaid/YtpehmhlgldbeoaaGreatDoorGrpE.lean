/-
  Texts of our own, in one file.
-/
import Derived.Test.YtpehmhlgldbeoaaGreatDoorGrpD
import Derived.WideShapes
section
set_option linter.unusedVariables false
set_option linter.unusedSimpArgs false
set_option maxRecDepth 20000
set_option maxHeartbeats 4000000
namespace Go.Proofs.YtpehmhlgldbeoaaGreatDoor
open Go Go.Ab
theorem Flat1_ok (s : List UInt8) : Calc cx 45 [.str s] (.bool (decide (100000 < s.length))) :=
  pure_intro (fun a w => Tryz.call45 a w) Tryz.func45 rfl Tryz.ntmps45 rfl .bool fun B => by
    refine pB [] rfl ?_
    refine S_retc .bool rfl trivial ?_
    show AV.bool (decide ((s.length : Int) > 100000)) = _
    congr 1
    rw [decide_eq_decide]; omega
def longT (l : List (List UInt8)) : Bool := l.any fun s => decide (100000 < s.length)
theorem IndexFuncS_ok {st fl : Bool} (l : List (List UInt8)) (hl : l.length ≤ 1000000000000) : Calc cx 73 [.sl st fl 1 (texts l), .func (.func 45) [] []] (.int .i64 (match l.findIdx? (fun s => decide (100000 < s.length)) with | some i => (i : Int) | none => -1)) :=
  pure_intro (fun a w => Tryz.call73 a w) Tryz.func73 rfl Tryz.ntmps73 rfl .int fun B => by
    have htl : (texts l).length = l.length := by simp [texts]
    refine pB [] rfl ?_
    refine S_while (α := Nat) (fun i => [(0, .sl st fl 1 (texts l)), (1, .func (.func 45) [] []), (7, .int .i64 (((texts l).length : Nat) : Int)), (8, .int .i64 (i : Nat))]) (fun _ => []) (fun i => i ≤ l.length ∧ ∀ k (hk : k < l.length), k < i → l[k].length ≤ 100000) (fun i => l.length - i) 0
      ⟨Nat.zero_le _, fun k hk h => absurd h (Nat.not_lt_zero _)⟩ (.cons rfl (.cons rfl (.cons rfl (.cons rfl (.nil _))))) rfl ?_
    rintro i ⟨hi, hN⟩
    have hi : i ≤ l.length := hi
    by_cases hlt : i < l.length
    · have e1 : decide ((i : Int) < (((texts l).length : Nat) : Int)) = true := decide_eq_true (by omega)
      have g1 : (texts l)[(i : Int).toNat]? = some (.str l[i]) := by rw [Int.toNat_natCast]; simp [texts, List.getElem?_eq_getElem hlt]
      have hF := Flat1_ok l[i]
      by_cases hb : 100000 < l[i].length
      · rw [decide_eq_true hb] at hF
        refine pa [.b true, .v (.str l[i]), .v (.bool true), .b true] rfl ?_ ?_
        · (repeat' with_reducible apply AllP_cons) <;> try exact aC
          · exact ⟨_, hF, .cons (.refl .str) (.nil _)⟩
        refine S_retc .int rfl trivial ?_
        have : l.findIdx? (fun s => decide (100000 < s.length)) = some i := by
          rw [List.findIdx?_eq_some_iff_getElem]
          exact ⟨hlt, by simpa using hb, fun j hj => by have := hN j (by omega) hj; simpa using this⟩
        rw [this]; rfl
      · rw [decide_eq_false hb] at hF
        refine pa [.b true, .v (.str l[i]), .v (.bool false), .b false] rfl ?_ ?_
        · (repeat' with_reducible apply AllP_cons) <;> try exact aC
          · exact ⟨_, hF, .cons (.refl .str) (.nil _)⟩
        refine S_round (i + 1) (by show l.length - (i + 1) < l.length - i; omega) ⟨hlt, fun k hk h => ?_⟩ (.cons rfl (.cons rfl (.cons rfl (.cons (nX (by omega)) (.nil _))))) rfl
        have h : k < i + 1 := h
        by_cases hki : k < i
        · exact hN k hk hki
        · have : k = i := by omega
          subst this; omega
    · have e1 : decide ((i : Int) < (((texts l).length : Nat) : Int)) = false := decide_eq_false (by omega)
      refine pB [.b false] rfl ?_
      refine S_retc .int rfl trivial ?_
      have : l.findIdx? (fun s => decide (100000 < s.length)) = none := by
        rw [List.findIdx?_eq_none_iff]
        intro x hx
        obtain ⟨k, hk, rfl⟩ := List.getElem_of_mem hx
        have := hN k hk (by omega)
        simpa using this
      rw [this]; rfl
theorem ContainsFuncS_ok {st fl : Bool} (l : List (List UInt8)) (hl : l.length ≤ 1000000000000) : Calc cx 44 [.sl st fl 1 (texts l), .func (.func 45) [] []] (.bool (longT l)) :=
  pure_intro (fun a w => Tryz.call44 a w) Tryz.func44 rfl Tryz.ntmps44 rfl .bool fun B => by
    have hI := IndexFuncS_ok (st := st) (fl := fl) l hl
    refine pa [.v (.int .i64 (match l.findIdx? (fun s => decide (100000 < s.length)) with | some i => (i : Int) | none => -1))] rfl ?_ ?_
    · (repeat' with_reducible apply AllP_cons) <;> try exact aC
      · exact ⟨_, hI, .cons (.refl (.sl (fun h => by cases h) (texts_any l))) (.cons (.refl (.func (fun x h => by cases h) (fun x h => by cases h))) (.nil _))⟩
    refine S_retc .bool rfl trivial ?_
    show AV.bool (decide ((match l.findIdx? (fun s => decide (100000 < s.length)) with | some i => (i : Int) | none => -1) ≥ 0)) = _
    congr 1
    unfold longT
    cases h : l.findIdx? (fun s => decide (100000 < s.length)) with
    | none =>
      rw [List.findIdx?_eq_none_iff] at h
      rw [List.any_eq_false.2 (fun x hx => by have := h x hx; rw [this]; simp)]; rfl
    | some i =>
      rw [List.findIdx?_eq_some_iff_getElem] at h
      obtain ⟨h1, h2, _⟩ := h
      rw [List.any_eq_true.2 ⟨_, List.getElem_mem h1, h2⟩]
      show decide ((i : Int) ≥ 0) = true
      exact decide_eq_true (by omega)
theorem Len1_ok : Calc cx 117 [.int .u64 1] (.int .i64 1) :=
  pure_intro (fun a w => Tryz.call117 a w) Tryz.func117 rfl Tryz.ntmps117 rfl .int fun B => by
    refine pa [.b false, .b false, .b false] rfl ?_ ?_
    · (repeat' with_reducible apply AllP_cons) <;> try exact aC
      all_goals decide +kernel
    refine S_retc .int rfl trivial ?_
    rfl
theorem LenU_ok : Calc cx 77 [.int .u64 1] (.int .i64 1) :=
  pure_intro (fun a w => Tryz.call77 a w) Tryz.func77 rfl Tryz.ntmps77 rfl .int fun B => by
    refine pa [.b false, .v (.int .i64 1)] rfl ?_ ?_
    · (repeat' with_reducible apply AllP_cons) <;> try exact aC
      · exact ⟨_, Len1_ok, .cons (.refl .int) (.nil _)⟩
    exact S_retc .int rfl trivial rfl
theorem Ins1_ok (σ : Heap) (v : Nat) : CallOk cx 108 [.ms 2 v 0 1 3 false, .int .i64 0, .int .i64 1, .func (.func 50) [] []] σ (fun o s => o = .ret (.tup []) ∧ s = σ) :=
  callOk_intro (fun a w => Tryz.call108 a w) Tryz.func108 rfl Tryz.ntmps108 rfl fun B => by
    refine pas [] rfl ?_ ?_
    · (repeat' with_reducible apply AllP_cons) <;> try exact aC
    refine S_while (α := Unit) (fun _ => [(2, .int .i64 1), (8, .int .i64 1)]) (fun _ => σ) (fun _ => True) (fun _ => 0) () trivial (.cons rfl (.cons rfl (.nil _))) rfl ?_
    rintro ⟨⟩ _
    refine pas [.b false] rfl ?_ ?_
    · (repeat' with_reducible apply AllP_cons) <;> try exact aC
    exact S_nil ⟨_, _, rfl, trivial, rfl, rfl⟩
theorem Pdq1_ok (σ : Heap) (v : Nat) : CallOk cx 76 [.ms 2 v 0 1 3 false, .int .i64 0, .int .i64 1, .int .i64 1, .func (.func 50) [] []] σ (fun o s => o = .ret (.tup []) ∧ s = σ) :=
  callOk_intro (fun a w => Tryz.call76 a w) Tryz.func76 rfl Tryz.ntmps76 rfl fun B => by
    refine pas [] rfl ?_ ?_
    · (repeat' with_reducible apply AllP_cons) <;> try exact aC
    refine S_while (α := Unit) (fun _ => [(0, .ms 2 v 0 1 3 false), (1, .int .i64 0), (2, .int .i64 1), (4, .func (.func 50) [] [])]) (fun _ => σ) (fun _ => True) (fun _ => 0) () trivial (.cons rfl (.cons rfl (.cons rfl (.cons rfl (.nil _))))) rfl ?_
    rintro ⟨⟩ _
    refine pas [.b true, .k (.tup [])] rfl ?_ ?_
    · (repeat' with_reducible apply AllP_cons) <;> try exact aC
      · exact Ins1_ok σ v
    exact S_ret ⟨_, _, rfl, trivial, rfl, rfl⟩
theorem Sort1_ok (ks : List (List UInt8)) (tx : List UInt8 → List UInt8) (g : Nat) (f : Fil) : CallOk cx 49 [.ms 2 (g + 1) 0 1 3 false, .func (.func 50) [] []] (hpF ks tx g [f]) (fun o s => o = .ret (.tup []) ∧ s = hpF ks tx g [f]) :=
  callOk_intro (fun a w => Tryz.call49 a w) Tryz.func49 rfl Tryz.ntmps49 rfl fun B => by
    refine pa [.v (.int .i64 1), .k (.tup [])] rfl ?_ ?_
    · (repeat' with_reducible apply AllP_cons) <;> try exact aC
      · exact ⟨_, LenU_ok, .cons (.refl .int) (.nil _)⟩
      · exact Pdq1_ok _ _
    exact S_nil ⟨_, _, rfl, trivial, rfl, rfl⟩
end Go.Proofs.YtpehmhlgldbeoaaGreatDoor
end
section
set_option linter.unusedVariables false
set_option linter.unusedSimpArgs false
set_option maxRecDepth 20000
set_option maxHeartbeats 4000000
namespace Go.Proofs.YtpehmhlgldbeoaaGreatDoor
open Go Go.Ab
def ksB (l : List (List UInt8)) : List (List UInt8) := l.foldl (fun ks s => addU ks (sha s)) []
def txB (l : List (List UInt8)) (d : List UInt8) : List UInt8 := (l.reverse.find? (fun s => sha s == d)).getD []
def flatY (root : List UInt8) (blobs : List (List UInt8)) : List Fil × Nat := flatD (getM (ksB blobs) (txB blobs)) 102 root [] []
def flatT (S : List Fil → List Fil) (root : List UInt8) (blobs : List (List UInt8)) : List Fil × Nat :=
  if 2000 < blobs.length ∨ longT blobs = true then ([], 2) else if isDig root = true then (if (flatY root blobs).2 = 0 then (S (flatY root blobs).1, 0) else ([], (flatY root blobs).2)) else ([], 1)
def flatAV (y : List Fil × Nat) : AV := .tup [if y.2 = 0 then .sl true false 3 (fils y.1) else .nils, .int .i64 (y.2 : Nat)]
theorem flatAV_free (y : List Fil × Nat) : Free true (flatAV y) := .tup (by
  intro x hx; simp at hx
  rcases hx with rfl | rfl
  · split
    · exact .sl (fun _ => rfl) (fils_free _)
    · exact .nils
  · exact .int)
theorem ksB_mem {l : List (List UInt8)} {d : List UInt8} : d ∈ ksB l ↔ ∃ s ∈ l, sha s = d := by
  unfold ksB; rw [addU_fold_mem]; simp
theorem ksB_step {l : List (List UInt8)} {i : Nat} (h : i < l.length) : ksB (l.take (i + 1)) = addU (ksB (l.take i)) (sha l[i]) := by
  unfold ksB; rw [List.take_succ_eq_append_getElem h, List.foldl_append]; rfl
theorem txB_step {l : List (List UInt8)} {i : Nat} (h : i < l.length) (d : List UInt8) : txB (l.take (i + 1)) d = if d = sha l[i] then l[i] else txB (l.take i) d := by
  unfold txB
  rw [List.take_succ_eq_append_getElem h, List.reverse_append]
  show ((l[i] :: (l.take i).reverse).find? _).getD [] = _
  rw [List.find?_cons]
  by_cases e : d = sha l[i]
  · rw [if_pos e, show (sha l[i] == d) = true by simp [e]]; rfl
  · rw [if_neg e, show (sha l[i] == d) = false by simpa using Ne.symm e]
theorem txB_len {l : List (List UInt8)} (h : longT l = false) (d : List UInt8) : (txB l d).length ≤ 1000000 := by
  unfold txB
  cases hf : l.reverse.find? (fun s => sha s == d) with
  | none => exact Nat.zero_le _
  | some s =>
    have hm := List.mem_of_find?_eq_some hf
    unfold longT at h
    rw [List.any_eq_false] at h
    have := h s (by simpa using hm)
    simp at this
    show s.length ≤ _; omega
theorem mapB_step {l : List (List UInt8)} {i : Nat} (h : i < l.length) :
    mapBx (addK (ksB (l.take i)) (sha l[i])) (updF (fun d => .str (txB (l.take i) d)) (sha l[i]) (.str l[i])) = mapBx (ksB (l.take (i + 1))) fun d => .str (txB (l.take (i + 1)) d) := by
  unfold mapBx
  rw [ksB_step h]
  show some (Box.map (mapF (addU _ _) _) none) = some (Box.map (mapF (addU _ _) _) none)
  congr 2
  refine mapF_congr fun n _ => ?_
  unfold updF
  rw [txB_step h]
  split <;> rfl
theorem Flat_gen {st fl : Bool} (S : List Fil → List Fil) (root : List UInt8) (blobs : List (List UInt8)) (hr : root.length ≤ 9223372036854775807) (hbl : blobs.length ≤ 1000000000000) (hS0 : ∀ out, (S out).length = out.length)
    (hsort : (flatY root blobs).2 = 0 → CallOk cx 49 [.ms 2 (0 + (flatY root blobs).1.length) 0 (flatY root blobs).1.length 3 false, .func (.func 50) [] []] (hpF (ksB blobs) (txB blobs) 0 (flatY root blobs).1) (fun o s => o = .ret (.tup []) ∧ s = hpF (ksB blobs) (txB blobs) 0 (S (flatY root blobs).1))) :
    Calc cx 18 [.str root, .sl st fl 1 (texts blobs)] (flatAV (flatT S root blobs)) :=
  pure_intro (fun a w => Tryz.call18 a w) Tryz.func18 rfl Tryz.ntmps18 rfl (flatAV_free _) fun B => by
    have htl : (texts blobs).length = blobs.length := by simp [texts]
    have hI := ContainsFuncS_ok (st := st) (fl := fl) blobs hbl
    have hD := digestIs_ok root hr
    unfold flatT
    have rt : ∀ e : Nat, e ≠ 0 → flatAV ([], e) = .tup [.nils, .int .i64 (e : Nat)] := fun e he => by unfold flatAV; rw [if_neg he]
    have rf : ∀ e : Int, Free true (.tup [.nils, .int .i64 e]) := fun e => .tup (by intro x hx; simp at hx; rcases hx with rfl | rfl; exact .nils; exact .int)
    by_cases hmany : 2000 < blobs.length
    · rw [if_pos (.inl hmany), rt 2 (by decide)]
      have e1 : decide ((((texts blobs).length : Nat) : Int) > 2000) = true := decide_eq_true (by omega)
      refine pB [.b true, .b true] rfl ?_
      exact S_retc (rf _) rfl trivial rfl
    have e1 : decide ((((texts blobs).length : Nat) : Int) > 2000) = false := decide_eq_false (by omega)
    cases hlg : longT blobs with
    | true =>
      rw [hlg] at hI
      rw [if_pos (.inr rfl), rt 2 (by decide)]
      refine pa [.b false, .v (.bool true), .b true] rfl ?_ ?_
      · (repeat' with_reducible apply AllP_cons) <;> try exact aC
        · exact ⟨_, hI, .cons (.refl (.sl (fun h => by cases h) (texts_any _))) (.cons (.refl (.func (fun x h => by cases h) (fun x h => by cases h))) (.nil _))⟩
      exact S_retc (rf _) rfl trivial rfl
    | false =>
      rw [hlg] at hI
      rw [if_neg (by simp; omega)]
      cases hdg : isDig root with
      | false =>
        rw [hdg] at hD
        rw [if_neg (by simp), rt 1 (by decide)]
        refine pa [.b false, .v (.bool false), .b false, .v (.bool false), .b true] rfl ?_ ?_
        · (repeat' with_reducible apply AllP_cons) <;> try exact aC
          · exact ⟨_, hI, .cons (.refl (.sl (fun h => by cases h) (texts_any _))) (.cons (.refl (.func (fun x h => by cases h) (fun x h => by cases h))) (.nil _))⟩
          · exact ⟨_, hD, .cons (.refl .str) (.nil _)⟩
        exact S_retc (rf _) rfl trivial rfl
      | true =>
        rw [hdg] at hD
        rw [if_pos rfl]
        refine pa [.b false, .v (.bool false), .b false, .v (.bool true), .b false, .f (.map 0 0) (fun _ => [(0, some (.map [] (some ([], 0))))])] rfl ?_ ?_
        · (repeat' with_reducible apply AllP_cons) <;> try exact aC
          · exact ⟨_, hI, .cons (.refl (.sl (fun h => by cases h) (texts_any _))) (.cons (.refl (.func (fun x h => by cases h) (fun x h => by cases h))) (.nil _))⟩
          · exact ⟨_, hD, .cons (.refl .str) (.nil _)⟩
          · exact OpSpec.mapN (C := []) rfl trivial
        refine S_unstamp (id := 0) rfl ?_ ⟨_, _, .inl rfl⟩
        refine S_ghost 3 ⟨false, none⟩ (id := 1) (j := 1) rfl rfl rfl (show (1 : Nat) ≠ 2 by decide) ⟨_, _, .inl rfl⟩ ?_
        refine S_while (α := Nat) (fun i => [(0, .str root), (6, .ptr 1 0 0), (23, .sl st fl 1 (texts blobs)), (24, .int .i64 (((texts blobs).length : Nat) : Int)), (25, .int .i64 (i : Nat))]) (fun i => hpT (ksB (blobs.take i)) (txB (blobs.take i)) 0 [] []) (fun i => i ≤ blobs.length) (fun i => blobs.length - i) 0
          (Nat.zero_le _) (.cons rfl (.cons rfl (.cons rfl (.cons rfl (.cons rfl (.nil _)))))) rfl ?_
        intro i hi
        have hi : i ≤ blobs.length := hi
        by_cases hlt : i < blobs.length
        · have e2 : decide ((i : Int) < (((texts blobs).length : Nat) : Int)) = true := decide_eq_true (by omega)
          have g1 : (texts blobs)[(i : Int).toNat]? = some (.str blobs[i]) := by rw [Int.toNat_natCast]; simp [texts, List.getElem?_eq_getElem hlt]
          have hbz : blobs[i].length ≤ 100000 := by
            unfold longT at hlg
            rw [List.any_eq_false] at hlg
            have := hlg _ (List.getElem_mem hlt)
            simpa using this
          have hS := Sum_ok blobs[i] (by omega)
          refine pa [.b true, .v (.str blobs[i]), .v (.str (sha blobs[i])), .f (.tup []) (fun σ => (0, mapBx (addK (ksB (blobs.take i)) (sha blobs[i])) (updF (fun d => .str (txB (blobs.take i) d)) (sha blobs[i]) (.str blobs[i]))) :: σ.tail), .s] rfl ?_ ?_
          · (repeat' with_reducible apply AllP_cons) <;> try exact aC
            · exact ⟨_, hS, .cons (.refl .str) (.nil _)⟩
            · exact OpSpec.mput (kt := 9) (et := 9) (ks := ksB (blobs.take i)) (val := fun d => .str (txB (blobs.take i) d)) (s := sha blobs[i]) rfl (Tryz.underlying59) rfl rfl rfl rfl rfl (addU_fold_nodup sha _ [] .nil) rfl
          refine S_heap (hpT (ksB (blobs.take (i + 1))) (txB (blobs.take (i + 1))) 0 [] []) ?_ ?_
          · rw [mapB_step hlt]; rfl
          refine pB [] rfl ?_
          exact S_round (i + 1) (by show blobs.length - (i + 1) < blobs.length - i; omega) hlt (.cons rfl (.cons rfl (.cons rfl (.cons rfl (.cons (nX (by omega)) (.nil _)))))) rfl
        · have hil : i = blobs.length := by omega
          subst hil
          have e2 : decide ((blobs.length : Int) < (((texts blobs).length : Nat) : Int)) = false := decide_eq_false (by omega)
          rw [List.take_length]
          have hdir := dir_ok (ksB blobs) (txB blobs) (fun d _ => txB_len hlg d) 0 102 root [] [] (by decide) (by decide) (by decide)
          have hfl := flatD_len (getM (ksB blobs) (txB blobs)) 102 root [] [] (by decide)
          change CallOk _ _ _ _ (fun o s => o = .ret (.int .i64 ((flatY root blobs).2 : Nat)) ∧ s = hpF (ksB blobs) (txB blobs) 0 (flatY root blobs).1) at hdir
          change (flatY root blobs).1.length ≤ 60 ∧ _ at hfl
          generalize flatY root blobs = y at *
          obtain ⟨out, e⟩ := y
          by_cases he : e = 0
          · subst he
            rw [if_pos rfl]
            have hso := hsort rfl
            have hSl := hS0 out
            have hcl := cels_len (S out)
            simp only at hso hdir hfl
            refine pB [.b false, .f (.int .i64 ((0 : Nat) : Int)) (fun _ => hpT (ksB blobs) (txB blobs) 0 out []), .b false, .f (.tup []) (fun _ => hpT (ksB blobs) (txB blobs) 0 (S out) [])] rfl ?_
            refine S_ret ⟨_, _, rfl, trivial, _, rfl, ?_⟩
            show Frz true _ (.tup [.ms 2 (0 + (S out).length) 0 (S out).length 3 false, .int .i64 0]) (.tup [.sl true false 3 (fils (S out)), .int .i64 0])
            exact Fzs.tup (.cons (.ms rfl (by show 0 + (S out).length * 3 ≤ (celsF (S out)).length; omega) (by rw [List.drop_zero]; exact List.take_of_length_le (by omega)) (fil_size _) (fils_len _) (fils_free _)) (.cons (.refl .int) .nil))
          · rw [if_neg he, rt e he]
            refine pa [.b false, .f (.int .i64 (e : Nat)) (fun _ => hpT (ksB blobs) (txB blobs) 0 out []), .b true] rfl ?_ ?_
            · (repeat' with_reducible apply AllP_cons) <;> try exact aC
              · show ((((e : Int)) != 0) = true)
                rw [chk_bne]; simpa using he
            exact S_retc (rf _) rfl trivial rfl
end Go.Proofs.YtpehmhlgldbeoaaGreatDoor
end
section
set_option linter.unusedVariables false
set_option linter.unusedSimpArgs false
set_option maxRecDepth 20000
set_option maxHeartbeats 4000000
namespace Go.Proofs.YtpehmhlgldbeoaaGreatDoor
open Go Go.Ab
def h1T : List UInt8 := [50, 100, 55, 49, 49, 54, 52, 50, 98, 55, 50, 54, 98, 48, 52, 52, 48, 49, 54, 50, 55, 99, 97, 57, 102, 98, 97, 99, 51, 50, 102, 53, 99, 56, 53, 51, 48, 102, 98, 49, 57, 48, 51, 99, 99, 52, 100, 98, 48, 50, 50, 53, 56, 55, 49, 55, 57, 50, 49, 97, 52, 56, 56, 49]
def t1T : List UInt8 := [1, 1, 98, 1, 64, 50, 100, 55, 49, 49, 54, 52, 50, 98, 55, 50, 54, 98, 48, 52, 52, 48, 49, 54, 50, 55, 99, 97, 57, 102, 98, 97, 99, 51, 50, 102, 53, 99, 56, 53, 51, 48, 102, 98, 49, 57, 48, 51, 99, 99, 52, 100, 98, 48, 50, 50, 53, 56, 55, 49, 55, 57, 50, 49, 97, 52, 56, 56, 49]
def h2T : List UInt8 := [100, 56, 98, 99, 99, 98, 53, 99, 97, 99, 48, 101, 52, 50, 49, 101, 97, 52, 101, 49, 55, 99, 50, 49, 50, 49, 102, 51, 56, 55, 52, 51, 48, 57, 102, 98, 51, 101, 51, 100, 48, 50, 48, 53, 52, 97, 48, 54, 48, 101, 102, 50, 101, 48, 48, 49, 99, 56, 53, 97, 53, 99, 48, 99]
def t2T : List UInt8 := [1, 1, 97, 3, 64, 100, 56, 98, 99, 99, 98, 53, 99, 97, 99, 48, 101, 52, 50, 49, 101, 97, 52, 101, 49, 55, 99, 50, 49, 50, 49, 102, 51, 56, 55, 52, 51, 48, 57, 102, 98, 51, 101, 51, 100, 48, 50, 48, 53, 52, 97, 48, 54, 48, 101, 102, 50, 101, 48, 48, 49, 99, 56, 53, 97, 53, 99, 48, 99]
def h3T : List UInt8 := [48, 54, 55, 52, 52, 101, 54, 57, 101, 102, 98, 53, 56, 53, 102, 48, 50, 54, 48, 51, 98, 101, 52, 48, 57, 102, 56, 98, 101, 55, 51, 100, 50, 54, 51, 53, 50, 55, 56, 51, 50, 102, 55, 52, 54, 55, 50, 97, 51, 55, 57, 98, 53, 101, 52, 101, 55, 101, 102, 49, 50, 50, 99, 98]
def l0T : List Fil := [⟨[97, 47, 98], [120], false⟩]
theorem sha1T : sha [120] = h1T := by decide +kernel
theorem sha2T : sha t1T = h2T := by decide +kernel
theorem sha3T : sha t2T = h3T := by decide +kernel
theorem pk1T : packNs [⟨[98], 1, h1T⟩] = t1T := by decide +kernel
theorem pk2T : packNs [⟨[97], 3, h2T⟩] = t2T := by decide +kernel
theorem rd1T : readNd t1T = ([⟨[98], 1, h1T⟩], 0) := by kernel_rfl
theorem rd2T : readNd t2T = ([⟨[97], 3, h2T⟩], 0) := by kernel_rfl
theorem chk0T : chkT l0T = 0 := by decide +kernel
theorem sort_one (n : List UInt8) : sortT [n] = [n] := by unfold sortT; rw [List.mergeSort_singleton]
theorem dir0T : dirT 101 l0T = (t2T, [[120], t1T]) := by
  have a1 : nmsT l0T = [[97]] := by decide +kernel
  have a2 : grT l0T [97] = [⟨[98], [120], false⟩] := by decide +kernel
  have a3 : nmsT [⟨[98], [120], false⟩] = [[98]] := by decide +kernel
  have a4 : grT [⟨[98], [120], false⟩] [98] = [⟨[], [120], false⟩] := by decide +kernel
  have e1 : dirT 100 [⟨[98], [120], false⟩] = (t1T, [[120]]) := by
    rw [dirT, a3, sort_one]
    unfold nodsT blbsT
    simp only [List.map_cons, List.map_nil, List.flatMap_cons, List.flatMap_nil, List.append_nil, a4, entT, if_pos, sha1T]
    exact Prod.ext pk1T rfl
  rw [dirT, a1, sort_one]
  unfold nodsT blbsT
  simp only [List.map_cons, List.map_nil, List.flatMap_cons, List.flatMap_nil, List.append_nil, a2, entT, e1]
  rw [if_neg (by decide), sha2T]
  exact Prod.ext pk2T rfl
theorem root0T : rootT l0T = h3T := by unfold rootT; rw [dir0T]; exact sha3T
theorem blob0T : blobT l0T = [t2T, t1T, [120]] := by
  unfold blobT
  rw [dir0T]
  have : addU ([[120], t1T].foldl addU []) t2T = [[120], t1T, t2T] := by decide +kernel
  show sortT (addU ([[120], t1T].foldl addU []) t2T) = _
  rw [this]
  refine perm_sorted ((sortT_perm _).trans ?_) (sortT_pw _) ?_
  · exact (List.reverse_perm [[120], t1T, t2T]).symm
  · decide +kernel
theorem ks0T : ksB [t2T, t1T, [120]] = [h3T, h2T, h1T] := by
  unfold ksB
  simp only [List.foldl_cons, List.foldl_nil, sha1T, sha2T, sha3T]
  decide +kernel
theorem tx3T : txB [t2T, t1T, [120]] h3T = t2T := by
  have b1 : (h1T == h3T) = false := by decide +kernel
  have b2 : (h2T == h3T) = false := by decide +kernel
  have b3 : (h3T == h3T) = true := by decide +kernel
  unfold txB
  simp only [List.reverse_cons, List.reverse_nil, List.nil_append, List.cons_append, List.find?_cons, sha1T, sha2T, sha3T, b1, b2, b3]
  rfl
theorem tx2T : txB [t2T, t1T, [120]] h2T = t1T := by
  have b1 : (h1T == h2T) = false := by decide +kernel
  have b2 : (h2T == h2T) = true := by decide +kernel
  unfold txB
  simp only [List.reverse_cons, List.reverse_nil, List.nil_append, List.cons_append, List.find?_cons, sha1T, sha2T, sha3T, b1, b2]
  rfl
theorem tx1T : txB [t2T, t1T, [120]] h1T = [120] := by
  have b1 : (h1T == h1T) = true := by decide +kernel
  unfold txB
  simp only [List.reverse_cons, List.reverse_nil, List.nil_append, List.cons_append, List.find?_cons, sha1T, b1]
  rfl
theorem flat0T : flatY h3T [t2T, t1T, [120]] = (l0T, 0) := by
  have g3 : getM (ksB [t2T, t1T, [120]]) (txB [t2T, t1T, [120]]) h3T = some t2T := by unfold getM; rw [ks0T, if_pos (by simp), tx3T]
  have g2 : getM (ksB [t2T, t1T, [120]]) (txB [t2T, t1T, [120]]) h2T = some t1T := by unfold getM; rw [ks0T, if_pos (by simp), tx2T]
  have g1 : getM (ksB [t2T, t1T, [120]]) (txB [t2T, t1T, [120]]) h1T = some [120] := by unfold getM; rw [ks0T, if_pos (by simp), tx1T]
  unfold flatY
  generalize getM (ksB [t2T, t1T, [120]]) (txB [t2T, t1T, [120]]) = get at *
  have e1 : flatD get 101 h2T [97, 47] [] = (l0T, 0) := by
    rw [flatD, g2]
    simp only [rd1T]
    rw [if_neg (by decide), if_neg (by simp), flatN]
    rw [if_neg (by decide), if_neg (by decide)]
    simp only [g1]
    rw [if_neg (by decide), flatN]; rfl
  rw [flatD, g3]
  simp only [rd2T]
  rw [if_neg (by decide), if_neg (by simp), flatN]
  rw [if_neg (by decide), if_pos rfl]
  show (if (flatD get 101 h2T [97, 47] []).2 = 0 then _ else _) = _
  rw [e1, if_pos rfl, flatN]
  show ((flatD get 101 h2T [97, 47] []).1, 0) = _
  rw [e1]
theorem treeBegun_ok : Calc cx 15 [] (.bool true) :=
  pure_intro (fun a w => Tryz.call15 a w) Tryz.func15 rfl Tryz.ntmps15 rfl .bool fun B => by
    have hl0 : FilsOk l0T := ⟨by decide, by intro f hf; simp [l0T] at hf; subst hf; decide, by intro f hf; simp [l0T] at hf; subst hf; decide⟩
    have hB := Blobs_ok (st := true) (fl := true) l0T hl0
    have hR := Root_ok (st := true) (fl := true) l0T hl0
    have hF := Flat_gen (st := true) (fl := false) id h3T [t2T, t1T, [120]] (by decide) (by decide) (fun _ => rfl) (fun _ => by
      rw [flat0T]
      exact Sort1_ok (ksB [t2T, t1T, [120]]) (txB [t2T, t1T, [120]]) 0 ⟨[97, 47, 98], [120], false⟩)
    have hS := SameFiles_ok (st := true) (st' := true) (fl := true) (fl' := false) l0T l0T (by decide) (by decide)
    rw [decide_eq_true rfl] at hS
    unfold blobAV at hB
    unfold rootAV at hR
    rw [chk0T, if_pos rfl, blob0T] at hB
    rw [chk0T, if_pos rfl, root0T] at hR
    have hft : flatT id h3T [t2T, t1T, [120]] = (l0T, 0) := by
      unfold flatT
      rw [if_neg (by decide +kernel), if_pos (by decide +kernel), flat0T, if_pos rfl]; rfl
    rw [hft] at hF
    refine pa [.v (.tup [.sl true false 1 (texts [t2T, t1T, [120]]), .int .i64 ((0 : Nat) : Int)]), .v (.tup [.str h3T, .int .i64 ((0 : Nat) : Int)]), .v (.tup [.sl true false 3 (fils l0T), .int .i64 ((0 : Nat) : Int)]), .b true, .b true, .b true, .v (.bool true)] rfl ?_ ?_
    · (repeat' with_reducible apply AllP_cons) <;> try exact aC
      · exact ⟨_, hB, .cons (.refl (.sl (fun _ => rfl) (fils_free l0T))) (.nil _)⟩
      · exact ⟨_, hR, .cons (.refl (.sl (fun _ => rfl) (fils_free l0T))) (.nil _)⟩
      · exact ⟨_, hF, .cons (.refl .str) (.cons (.refl (.sl (fun _ => rfl) (texts_any _))) (.nil _))⟩
      · exact ⟨_, hS, .cons (.refl (.sl (fun _ => rfl) (fils_free l0T))) (.cons (.refl (.sl (fun _ => rfl) (fils_free l0T))) (.nil _))⟩
    exact S_retc .bool rfl trivial rfl
end Go.Proofs.YtpehmhlgldbeoaaGreatDoor
end
section
set_option linter.unusedVariables false
set_option linter.unusedSimpArgs false
namespace Go.Ab
open Go Go.WideShapes
def laidB (P : Program) : List Field → Nat → Option Nat
  | [], o => some o
  | f :: r, o => match Nat.beq f.offset o with
    | true => laidB P r (o + P.cellsOf f.type)
    | false => none
mutual
def plainB (P : Program) : Nat → TypeId → Bool
  | 0, _ => false
  | n + 1, t => match P.underlying t with
    | some .bool => Nat.beq (P.cellsOf t) 1
    | some (.int _) => Nat.beq (P.cellsOf t) 1
    | some .string => Nat.beq (P.cellsOf t) 1
    | some (.slice e) => match Nat.beq (P.cellsOf t) 1, Nat.beq (P.cellsOf e) 0 with
      | true, false => plainB P n e
      | _, _ => false
    | some (.struct fs) => match laidB P fs.toList 0 with
      | some m => match Nat.beq (P.cellsOf t) m with
        | true => plainAll P n fs.toList
        | false => false
      | none => false
    | _ => false
def plainAll (P : Program) : Nat → List Field → Bool
  | 0, _ => false
  | n + 1, fs => match fs with
    | [] => true
    | f :: r => match plainB P n f.type with
      | true => plainAll P n r
      | false => false
end
inductive RdD (P : Program) {H : Type} : TypeId → DataW H → AV → Prop
  | bool {t b} (ht : P.underlying t = some .bool) : RdD P t (.lit (.bool b)) (.bool b)
  | int {t k n} (ht : P.underlying t = some (.int k)) (hw : (Lit.int k n).wf = true) : RdD P t (.lit (.int k n)) (.int k n)
  | str {t s} (ht : P.underlying t = some .string) (hs : s.length ≤ maxLen) : RdD P t (.lit (.string s)) (.str s)
  | nils {t e} (ht : P.underlying t = some (.slice e)) : RdD P t .nil (.sl true false (P.cellsOf e) [])
  | sl {t e} {ds rest : List (DataW H)} {xs : List AV} (ht : P.underlying t = some (.slice e)) (hl : xs.length = ds.length) (hm : xs.length ≤ maxLen) (h : ∀ i (h1 : i < ds.length) (h2 : i < xs.length), RdD P e ds[i] xs[i]) : RdD P t (.slice ds rest) (.sl true false (P.cellsOf e) xs)
  | st {t} {fs : Array Field} {ds : List (DataW H)} {xs : List AV} (ht : P.underlying t = some (.struct fs)) (hd : ds.length = fs.size) (hx : xs.length = fs.size) (h : ∀ i (h1 : i < ds.length) (h2 : i < xs.length) (h3 : i < fs.size), RdD P fs[i].type ds[i] xs[i]) : RdD P t (.agg ds) (.agg (xs.flatMap AV.cells))
def CellsV (w : World) (cs : List Value) (az : List AV) : Prop := cs.length = az.length ∧ ∀ i (h1 : i < cs.length) (h2 : i < az.length), VRel (Rl.old w) w cs[i] az[i]
theorem CellsV.one {w : World} {v : Value} {a : AV} (h : VRel (Rl.old w) w v a) : CellsV w [v] [a] := by
  refine ⟨rfl, fun i h1 h2 => ?_⟩
  obtain rfl : i = 0 := by simpa using h1
  exact h
theorem laidB_flat {P : Program} : ∀ (fs : List Field) (o m : Nat) (w : World) (cs : List Value) (xs : List AV), laidB P fs o = some m → xs.length = fs.length → (∀ i (h1 : i < fs.length) (h2 : i < xs.length), CellsV w ((cs.drop fs[i].offset).take (P.cellsOf fs[i].type)) xs[i].cells ∧ xs[i].cells.length = P.cellsOf fs[i].type) →
    cs.length = m → o ≤ m ∧ CellsV w (cs.drop o) (xs.flatMap AV.cells)
  | [], o, m, w, cs, xs, h, hl, hc, hm => by
    simp only [laidB, Option.some.injEq] at h
    obtain rfl : xs = [] := List.eq_nil_of_length_eq_zero hl
    subst h
    refine ⟨Nat.le_refl _, ?_⟩
    rw [List.drop_of_length_le (by omega)]
    exact ⟨rfl, fun i h => absurd h (by simp)⟩
  | f :: r, o, m, w, cs, xs, h, hl, hc, hm => by
    rw [laidB] at h
    split at h
    case h_2 => cases h
    rename_i hb
    have ho := Nat.eq_of_beq_eq_true hb
    obtain ⟨x, xs, rfl⟩ : ∃ x xs', xs = x :: xs' := by
      cases xs with
      | nil => simp at hl
      | cons x xs => exact ⟨x, xs, rfl⟩
    have h0 := hc 0 (by simp) (by simp)
    simp only [List.getElem_cons_zero] at h0
    obtain ⟨h1, h2⟩ := laidB_flat r (o + P.cellsOf f.type) m w cs xs h (by simpa using hl) (fun i k1 k2 => hc (i + 1) (Nat.succ_lt_succ k1) (Nat.succ_lt_succ k2)) hm
    refine ⟨by omega, ?_⟩
    obtain ⟨⟨e1, e2⟩, e3⟩ := h0
    rw [ho] at e1 e2
    rw [List.flatMap_cons]
    have hsplit : cs.drop o = (cs.drop o).take (P.cellsOf f.type) ++ cs.drop (o + P.cellsOf f.type) := by
      rw [← List.drop_drop, List.take_append_drop]
    rw [hsplit]
    refine ⟨by rw [List.length_append, List.length_append, e1, h2.1], fun i k1 k2 => ?_⟩
    by_cases hi : i < x.cells.length
    · rw [List.getElem_append_left (by omega), List.getElem_append_left hi]
      exact e2 i (by omega) hi
    · rw [List.getElem_append_right (by omega), List.getElem_append_right (by omega)]
      have : i - ((cs.drop o).take (P.cellsOf f.type)).length = i - x.cells.length := by omega
      simp only [this]
      exact h2.2 _ _ _
theorem read_cells {H : Type} {enc : TypeId × Value → H} {P : Program} {W : World} : ∀ (fuel n : Nat) (t : TypeId) (cs : List Value) (d : DataW H) (ps : List MemPlace), DataW.trod enc P W 0 (fun _ => true) true fuel t cs = some (d, ps) → plainB P n t = true →
    ∃ a, RdD P t d a ∧ a.cells.length = P.cellsOf t ∧ CellsV W cs a.cells ∧ (∀ v, (∃ xs, v = .agg xs ∧ xs.toList = cs ∧ aggT P t = some true) ∨ ([v] = cs ∧ aggT P t = some false) → VRel (Rl.old W) W v a) := by
  intro fuel
  induction fuel with
  | zero => intro n t cs d ps h _; simp [DataW.trod] at h
  | succ fuel ih =>
    intro n t cs d ps h hp
    have hall : ∀ (n : Nat) (fs : List Field), plainAll P n fs = true → ∀ i (hi : i < fs.length), ∃ m, plainB P m fs[i].type = true := by
      intro n
      induction n with
      | zero => intro fs h; simp [plainAll] at h
      | succ n ihn =>
        intro fs h i hi
        cases fs with
        | nil => simp at hi
        | cons f r =>
          rw [plainAll] at h
          split at h
          · rename_i hb
            cases i with
            | zero => exact ⟨n, hb⟩
            | succ i => exact ihn r h i (by simpa using hi)
          · cases h
    cases n with
    | zero => simp [plainB] at hp
    | succ n =>
      rw [plainB] at hp
      split at hp
      ·
        rename_i ht
        obtain ⟨b, rfl, hx⟩ := DataW.trod_bool ht h
        cases hx
        refine ⟨.bool b, .bool ht, (Nat.eq_of_beq_eq_true hp).symm, .one .bool, ?_⟩
        rintro v (⟨xs, rfl, h1, h2⟩ | ⟨h1, h2⟩)
        · simp [aggT, ht] at h2
        · cases h1; exact .bool
      · rename_i k ht
        obtain ⟨m, rfl, hx, hw⟩ := DataW.trod_int ht h
        cases hx
        refine ⟨.int _ m, .int ht hw, (Nat.eq_of_beq_eq_true hp).symm, .one .int, ?_⟩
        rintro v (⟨xs, rfl, h1, h2⟩ | ⟨h1, h2⟩)
        · simp [aggT, ht] at h2
        · cases h1; exact .int
      · rename_i ht
        obtain ⟨s, rfl, hx, hw⟩ := DataW.trod_string ht h
        cases hx
        refine ⟨.str s.data.toList, .str ht (by rw [Array.length_toList]; exact hw), (Nat.eq_of_beq_eq_true hp).symm, .one (.str rfl), ?_⟩
        rintro v (⟨xs, rfl, h1, h2⟩ | ⟨h1, h2⟩)
        · simp [aggT, ht] at h2
        · cases h1; exact .str rfl
      ·
        rename_i e ht
        split at hp
        case h_2 => cases hp
        rename_i hc1 hc0
        have hc1 := Nat.eq_of_beq_eq_true hc1
        have hpos : 0 < P.cellsOf e := by
          rcases Nat.eq_zero_or_pos (P.cellsOf e) with h0 | h0
          · rw [h0] at hc0; cases hc0
          · exact h0
        rcases DataW.trod_slice ht h with ⟨rfl, hx⟩ | ⟨a, len, cap, elems, rest, fu, hfu, rfl, hx, _, hl, hm, hlen, hel, hsp, hns⟩
        · cases hx
          refine ⟨_, .nils ht, hc1.symm, .one (.sl0 (fun h => by cases h)), ?_⟩
          rintro v (⟨xs, rfl, h1, h2⟩ | ⟨h1, h2⟩)
          · simp [aggT, ht] at h2
          · cases h1; exact .sl0 (fun h => by cases h)
        · cases hx
          obtain rfl : fuel = fu := by omega
          have each : ∀ i (hi : i < elems.length), ∃ x, RdD P e (elems[i]).1 x ∧ x.cells.length = P.cellsOf e ∧ ∃ ecs : List Value, W.cells? 0 (a.add (i * P.cellsOf e)) (P.cellsOf e) = some ecs ∧ CellsV W ecs x.cells := by
            intro i hi
            have h1 := hel i (by omega)
            rw [List.getElem?_eq_getElem hi, Option.bind_eq_some_iff] at h1
            obtain ⟨ecs, h2, h3⟩ := h1
            obtain ⟨x, k1, k2, k3, _⟩ := ih n e ecs (elems[i]).1 (elems[i]).2 h3 hp
            exact ⟨x, k1, k2, ecs, h2, k3⟩
          have : ∃ xs : List AV, xs.length = elems.length ∧ ∀ i (hi : i < elems.length) (hx : i < xs.length), RdD P e (elems[i]).1 xs[i] ∧ xs[i].cells.length = P.cellsOf e ∧ ∃ ecs : List Value, W.cells? 0 (a.add (i * P.cellsOf e)) (P.cellsOf e) = some ecs ∧ CellsV W ecs xs[i].cells := by
            refine ⟨(List.finRange elems.length).map fun i => Classical.choose (each i.1 i.2), by simp, fun i hi hx => ?_⟩
            simp only [List.getElem_map, List.getElem_finRange]
            exact Classical.choose_spec (each i hi)
          obtain ⟨xs, hxl, hxs⟩ := this
          have hv : VRel (Rl.old W) W (.slice (some a) len cap) (.sl true false (P.cellsOf e) xs) := by
            rcases Nat.eq_zero_or_pos len with h0 | h0
            · subst h0
              obtain rfl : xs = [] := List.eq_nil_of_length_eq_zero (by omega)
              exact .sl0 (fun h => by cases h)
            · obtain ⟨b, o, sp⟩ := a
              obtain ⟨_, _, ecs0, hc, _⟩ := hxs 0 (by omega) (by omega)
              obtain ⟨_, hcl, hcc⟩ := World.cells?_some hc
              have hcell0 := hcc 0 hpos
              rw [List.getElem?_eq_getElem (by omega)] at hcell0
              have hsp : sp = none := by
                cases sp with
                | none => rfl
                | some s =>
                  simp [Addr.add, World.cell?] at hcell0
                  split at hcell0 <;> cases hcell0
              subst hsp
              have hb : b < W.heap.size := by
                rw [Addr.add_lit] at hcell0
                rcases Nat.lt_or_ge b W.heap.size with h | h
                · exact h
                · simp [World.cell?, Addr.add, Array.getElem?_eq_none h] at hcell0
              have hcel : ∀ i, i < xs.length → ∀ j, j < P.cellsOf e → ∃ v, W.cell? ⟨b, o + i * P.cellsOf e + j, none⟩ = some v ∧ ∀ (hi : i < xs.length) (hj : j < (AV.cells xs[i]).length), VRel (Rl.old W) W v (AV.cells xs[i])[j] := by
                intro i hi j hj
                obtain ⟨_, hxc, ecs, hc, hcv⟩ := hxs i (by omega) hi
                obtain ⟨_, hcl, hcc⟩ := World.cells?_some hc
                have h1 := hcc j hj
                rw [List.getElem?_eq_getElem (by omega)] at h1
                rw [Addr.add_lit, Addr.add_lit] at h1
                refine ⟨ecs[j], h1, fun _ hj' => hcv.2 j _ hj'⟩
              refine .sl (by omega) hl (fun h => by cases h) hb (fun _ => hb) (fun x hx => ?_) (fun i j => (W.cell? ⟨b, o + i * P.cellsOf e + j, none⟩).getD undef) (fun i hi j hj => ?_) (fun i hi j hj => ?_)
              · obtain ⟨i, hi, rfl⟩ := List.getElem_of_mem hx
                exact (hxs i (by omega) hi).2.1
              · obtain ⟨v, h1, _⟩ := hcel i hi j hj
                rw [h1]; rfl
              · obtain ⟨v, h1, h2⟩ := hcel i hi j (by rw [(hxs i (by omega) hi).2.1] at hj; exact hj)
                rw [h1]
                exact h2 hi hj
          refine ⟨.sl true false (P.cellsOf e) xs, .sl ht (by simp [hxl]) (by omega) (fun i h1 h2 => by simpa using (hxs i (by simpa using h1) h2).1), hc1.symm, .one hv, ?_⟩
          rintro v (⟨ys, rfl, h1, h2⟩ | ⟨h1, h2⟩)
          · simp [aggT, ht] at h2
          · cases h1; exact hv
      ·
        rename_i fs ht
        split at hp
        case h_2 => cases hp
        rename_i m hm
        split at hp
        case h_2 => cases hp
        rename_i hcm
        have hcm := Nat.eq_of_beq_eq_true hcm
        obtain ⟨ys, fu, hfu, hx, hl, hyl, hy⟩ := DataW.trod_struct ht h
        obtain rfl : fuel = fu := by omega
        cases hx
        have each : ∀ i (hi : i < fs.toList.length) (hi' : i < ys.length), ∃ x, RdD P (fs.toList[i]).type (ys[i]).1 x ∧ x.cells.length = P.cellsOf (fs.toList[i]).type ∧ CellsV W ((cs.drop (fs.toList[i]).offset).take (P.cellsOf (fs.toList[i]).type)) x.cells := by
          intro i hi hi'
          have h1 := hy i (fs.toList[i]) (by simp at hi; simp [hi])
          rw [List.getElem?_eq_getElem hi'] at h1
          obtain ⟨k, hk⟩ := hall n fs.toList hp i hi
          obtain ⟨x, k1, k2, k3, _⟩ := ih k _ _ (ys[i]).1 (ys[i]).2 h1 hk
          exact ⟨x, k1, k2, k3⟩
        have hfl : fs.toList.length = ys.length := by simp [hyl]
        have : ∃ xs : List AV, xs.length = fs.toList.length ∧ ∀ i (hi : i < fs.toList.length) (hi' : i < ys.length) (hx : i < xs.length), RdD P (fs.toList[i]).type (ys[i]).1 xs[i] ∧ xs[i].cells.length = P.cellsOf (fs.toList[i]).type ∧ CellsV W ((cs.drop (fs.toList[i]).offset).take (P.cellsOf (fs.toList[i]).type)) xs[i].cells := by
          refine ⟨(List.finRange fs.toList.length).map fun i => Classical.choose (each i.1 i.2 (by omega)), by simp, fun i hi hi' hx => ?_⟩
          simp only [List.getElem_map, List.getElem_finRange]
          exact Classical.choose_spec (each i hi hi')
        obtain ⟨xs, hxl, hxs⟩ := this
        obtain ⟨_, hcv⟩ := laidB_flat fs.toList 0 m W cs xs hm hxl (fun i h1 h2 => ⟨(hxs i h1 (by omega) h2).2.2, (hxs i h1 (by omega) h2).2.1⟩) (by omega)
        rw [List.drop_zero] at hcv
        refine ⟨.agg (xs.flatMap AV.cells), .st ht (by simp [hyl]) (by simpa using hxl) (fun i h1 h2 h3 => by
          have := (hxs i (by simpa using h3) (by simpa using h1) h2).1
          simp only [Array.getElem_toList, List.getElem_map] at this ⊢
          exact this), by show (xs.flatMap AV.cells).length = _; rw [← hcv.1]; omega, hcv, ?_⟩
        rintro v (⟨zs, rfl, h1, h2⟩ | ⟨h1, h2⟩)
        · refine .agg (by rw [← hcv.1, ← h1]; simp) (fun i hi => ?_)
          have h3 : i < cs.length := by rw [hcv.1]; exact hi
          have := hcv.2 i h3 hi
          subst h1
          rw [Array.getD_eq_getD_getElem?, Array.getElem?_eq_getElem (by simpa using h3)]
          simpa using this
        · simp [aggT, ht] at h2
      · cases hp
theorem read_plain {H : Type} {enc : TypeId × Value → H} {P : Program} {W : World} {r : Reach} {base : Nat} {n : Nat} {t : TypeId} {v : Value} {d : DataW H} {ps : List MemPlace} (hp : plainB P n t = true) (hv : Value.okWide P W r base t v)
    (h : DataW.Trod enc P W 0 (fun _ => true) true t v d ps) : ∃ a, VRel (Rl.old W) W v a ∧ RdD P t d a := by
  obtain ⟨fuel, hf⟩ := h
  obtain ⟨a, h1, _, _, h2⟩ := read_cells fuel n t _ d ps hf hp
  refine ⟨a, h2 v ?_, h1⟩
  cases n with
  | zero => simp [plainB] at hp
  | succ n =>
    rw [plainB] at hp
    split at hp
    · rename_i ht
      obtain ⟨b, rfl⟩ := okWide_bool ht hv
      exact .inr ⟨rfl, by simp [aggT, ht]⟩
    · rename_i k ht
      obtain ⟨b, rfl⟩ := okWide_int ht hv
      exact .inr ⟨rfl, by simp [aggT, ht]⟩
    · rename_i ht
      obtain ⟨b, rfl⟩ := okWide_string ht hv
      exact .inr ⟨rfl, by simp [aggT, ht]⟩
    · rename_i e ht
      obtain ⟨a, len, cap, rfl⟩ := okWide_slice ht hv
      exact .inr ⟨rfl, by simp [aggT, ht]⟩
    · rename_i fs ht
      obtain ⟨cs, rfl, _⟩ := okWide_struct ht hv
      exact .inl ⟨cs, rfl, rfl, by simp [aggT, ht]⟩
    · cases hp
def RdDAll (P : Program) {H : Type} : List Field → List (DataW H) → List AV → Prop
  | [], [], [] => True
  | f :: fs, d :: ds, x :: xs => RdD P f.type d x ∧ RdDAll P fs ds xs
  | _, _, _ => False
theorem RdDAll.of {P : Program} {H : Type} : ∀ {fs : List Field} {ds : List (DataW H)} {xs : List AV}, ds.length = fs.length → xs.length = fs.length → (∀ i (h1 : i < ds.length) (h2 : i < xs.length) (h3 : i < fs.length), RdD P fs[i].type ds[i] xs[i]) → RdDAll P fs ds xs
  | [], ds, xs, h1, h2, _ => by
    obtain rfl : ds = [] := List.eq_nil_of_length_eq_zero h1
    obtain rfl : xs = [] := List.eq_nil_of_length_eq_zero h2
    trivial
  | f :: fs, ds, xs, h1, h2, h => by
    cases ds with
    | nil => simp at h1
    | cons d ds =>
      cases xs with
      | nil => simp at h2
      | cons x xs =>
        exact ⟨h 0 (by simp) (by simp) (by simp), RdDAll.of (by simpa using h1) (by simpa using h2) (fun i k1 k2 k3 => h (i + 1) (Nat.succ_lt_succ k1) (Nat.succ_lt_succ k2) (Nat.succ_lt_succ k3))⟩
theorem RdDAll.cons {P : Program} {H : Type} {f : Field} {fs : List Field} {ds : List (DataW H)} {xs : List AV} (h : RdDAll P (f :: fs) ds xs) : ∃ d ds' x xs', ds = d :: ds' ∧ xs = x :: xs' ∧ RdD P f.type d x ∧ RdDAll P fs ds' xs' := by
  match ds, xs, h with
  | d :: ds', x :: xs', ⟨h1, h2⟩ => exact ⟨d, ds', x, xs', rfl, rfl, h1, h2⟩
theorem RdDAll.nil {P : Program} {H : Type} {ds : List (DataW H)} {xs : List AV} (h : RdDAll P [] ds xs) : ds = [] ∧ xs = [] := by
  match ds, xs, h with
  | [], [], _ => exact ⟨rfl, rfl⟩
section
variable {P : Program} {H : Type} {t : TypeId} {d : DataW H} {a : AV}
theorem RdD.inv_st {fs : Array Field} (h : RdD P t d a) (ht : P.underlying t = some (.struct fs)) : ∃ ds xs, d = .agg ds ∧ a = .agg (xs.flatMap AV.cells) ∧ RdDAll P fs.toList ds xs := by
  cases h with
  | st ht' hd hx h =>
    rw [ht] at ht'
    cases ht'
    exact ⟨_, _, rfl, rfl, .of (by simpa using hd) (by simpa using hx) (fun i h1 h2 h3 => by simpa using h i h1 h2 (by simpa using h3))⟩
  | bool ht' => rw [ht] at ht'; cases ht'
  | str ht' => rw [ht] at ht'; cases ht'
  | int ht' => rw [ht] at ht'; cases ht'
  | nils ht' => rw [ht] at ht'; cases ht'
  | sl ht' => rw [ht] at ht'; cases ht'
theorem RdD.inv_str (h : RdD P t d a) (ht : P.underlying t = some .string) : ∃ s, d = .lit (.string s) ∧ a = .str s ∧ s.length ≤ maxLen := by
  cases h with
  | str ht' hs => exact ⟨_, rfl, rfl, hs⟩
  | bool ht' => rw [ht] at ht'; cases ht'
  | int ht' => rw [ht] at ht'; cases ht'
  | nils ht' => rw [ht] at ht'; cases ht'
  | sl ht' => rw [ht] at ht'; cases ht'
  | st ht' => rw [ht] at ht'; cases ht'
theorem RdD.inv_bool (h : RdD P t d a) (ht : P.underlying t = some .bool) : ∃ b, d = .lit (.bool b) ∧ a = .bool b := by
  cases h with
  | bool ht' => exact ⟨_, rfl, rfl⟩
  | int ht' => rw [ht] at ht'; cases ht'
  | str ht' => rw [ht] at ht'; cases ht'
  | nils ht' => rw [ht] at ht'; cases ht'
  | sl ht' => rw [ht] at ht'; cases ht'
  | st ht' => rw [ht] at ht'; cases ht'
theorem RdD.inv_sl {e : TypeId} (h : RdD P t d a) (ht : P.underlying t = some (.slice e)) :
    ∃ (ds : List (DataW H)) (xs : List AV), a = .sl true false (P.cellsOf e) xs ∧ xs.length = ds.length ∧ xs.length ≤ maxLen ∧ (∀ i (h1 : i < ds.length) (h2 : i < xs.length), RdD P e ds[i] xs[i]) ∧ ((d = .nil ∧ ds = []) ∨ ∃ rest, d = .slice ds rest) := by
  cases h with
  | nils ht' => rw [ht] at ht'; cases ht'; exact ⟨[], [], rfl, rfl, Nat.zero_le _, fun i h => absurd h (by simp), .inl ⟨rfl, rfl⟩⟩
  | sl ht' hl hm h => rw [ht] at ht'; cases ht'; exact ⟨_, _, rfl, hl, hm, h, .inr ⟨_, rfl⟩⟩
  | bool ht' => rw [ht] at ht'; cases ht'
  | int ht' => rw [ht] at ht'; cases ht'
  | str ht' => rw [ht] at ht'; cases ht'
  | st ht' => rw [ht] at ht'; cases ht'
theorem RdD.each {α : Type} {e : TypeId} (f : α → AV) (g : α → DataW H → Prop) {ds : List (DataW H)} {xs : List AV} (hl : xs.length = ds.length) (h : ∀ i (h1 : i < ds.length) (h2 : i < xs.length), RdD P e ds[i] xs[i])
    (hf : ∀ d x, RdD P e d x → ∃ y, x = f y ∧ g y d) : ∃ ys : List α, xs = ys.map f ∧ ys.length = ds.length ∧ ∀ i (h1 : i < ds.length) (h2 : i < ys.length), g ys[i] ds[i] := by
  induction xs generalizing ds with
  | nil =>
    obtain rfl : ds = [] := List.eq_nil_of_length_eq_zero (by simpa using hl.symm)
    exact ⟨[], rfl, rfl, fun i h => absurd h (by simp)⟩
  | cons x xs ih =>
    cases ds with
    | nil => simp at hl
    | cons d ds =>
      obtain ⟨y, hy, hg⟩ := hf d x (h 0 (by simp) (by simp))
      obtain ⟨ys, h1, h2, h3⟩ := ih (ds := ds) (by simpa using hl) (fun i k1 k2 => h (i + 1) (Nat.succ_lt_succ k1) (Nat.succ_lt_succ k2))
      refine ⟨y :: ys, by rw [hy, h1]; rfl, by simp [h2], fun i k1 k2 => ?_⟩
      cases i with
      | zero => exact hg
      | succ i => exact h3 i (Nat.lt_of_succ_lt_succ k1) (Nat.lt_of_succ_lt_succ k2)
end
end Go.Ab
end
section
set_option linter.unusedVariables false
set_option linter.unusedSimpArgs false
namespace Go.Ab
open Go Go.WideShapes
mutual
def avB : AV → Nat
  | .str s => s.length
  | .sl _ _ _ xs => avS xs
  | .agg cs => avC cs
  | _ => 0
def avS : List AV → Nat
  | [] => 0
  | x :: r => avB x + 1 + avS r
def avC : List AV → Nat
  | [] => 0
  | x :: r => avB x + avC r
end
theorem avC_append (a b : List AV) : avC (a ++ b) = avC a + avC b := by
  induction a with
  | nil => simp [avC]
  | cons x a ih => simp only [List.cons_append, avC, ih]; omega
theorem avC_cells (x : AV) : avC x.cells ≤ avB x := by
  cases x <;> simp [AV.cells, avC, avB]
theorem avC_flat (xs : List AV) : avC (xs.flatMap AV.cells) ≤ avC xs := by
  induction xs with
  | nil => simp
  | cons x xs ih =>
    have := avC_cells x
    simp only [List.flatMap_cons, avC_append, avC]; omega
theorem avC_le_avS (xs : List AV) : avC xs ≤ avS xs := by
  induction xs with
  | nil => simp [avC, avS]
  | cons x xs ih => simp only [avC, avS]; omega
theorem bulk_all {P : Program} {H : Type} {B : DataW H → Nat} {BA : List (DataW H) → Nat} (hn : BA [] = 0) (hc : ∀ d r, BA (d :: r) = B d + BA r) : ∀ {ds : List (DataW H)} {xs : List AV}, xs.length = ds.length →
    (∀ i (h1 : i < ds.length) (h2 : i < xs.length), avB xs[i] + 1 ≤ B ds[i]) → avS xs ≤ BA ds
  | [], xs, hl, h => by
    obtain rfl : xs = [] := List.eq_nil_of_length_eq_zero (by simpa using hl)
    simp [avS]
  | d :: ds, xs, hl, h => by
    cases xs with
    | nil => simp at hl
    | cons x xs =>
      have h0 := h 0 (by simp) (by simp)
      have := bulk_all (P := P) (B := B) hn hc (ds := ds) (xs := xs) (by simpa using hl) (fun i h1 h2 => h (i + 1) (Nat.succ_lt_succ h1) (Nat.succ_lt_succ h2))
      simp only [avS, hc]
      simp only [List.getElem_cons_zero] at h0
      omega
theorem RdD.bulk {P : Program} {H : Type} {B : DataW H → Nat} {BA : List (DataW H) → Nat} (hn : BA [] = 0) (hc : ∀ d r, BA (d :: r) = B d + BA r) (h1 : ∀ d, 1 ≤ B d) (hs : ∀ s, B (.lit (.string s)) = s.length + 1)
    (hsl : ∀ a b, B (.slice a b) = BA a + BA b + 1) (hag : ∀ a, B (.agg a) = BA a + 1) {t : TypeId} {d : DataW H} {a : AV} (h : RdD P t d a) : avB a + 1 ≤ B d := by
  induction h with
  | bool => simpa [avB] using h1 _
  | int => simpa [avB] using h1 _
  | str => simp [avB, hs]
  | nils => simpa [avB, avS] using h1 _
  | sl ht hl hm h ih =>
    have := bulk_all (P := P) (B := B) hn hc hl ih
    rw [hsl]; simp only [avB]; omega
  | st ht hd hx h ih =>
    have := bulk_all (P := P) (B := B) hn hc (by omega) (fun i a b => ih i a b (by omega))
    rw [hag]; simp only [avB]
    rename_i t fs ds xs
    have k1 := avC_flat xs
    have k2 := avC_le_avS xs
    omega
end Go.Ab
end
section
set_option linter.unusedVariables false
set_option linter.unusedSimpArgs false
set_option maxRecDepth 20000
set_option maxHeartbeats 4000000
namespace Go.Proofs.YtpehmhlgldbeoaaGreatDoor
open Go Go.Ab
theorem avS_fils (l : List Fil) : l.length ≤ avS (fils l) ∧ ∀ f ∈ l, f.path.length + f.text.length ≤ avS (fils l) := by
  induction l with
  | nil => exact ⟨Nat.zero_le _, fun f hf => by cases hf⟩
  | cons g r ih =>
    have e : avS (fils (g :: r)) = (g.path.length + (g.text.length + (0 + 0))) + 1 + avS (fils r) := by
      show avS (filA g :: fils r) = _
      simp only [avS, filA, avB, avC]
    rw [e]
    refine ⟨by rw [List.length_cons]; omega, fun f hf => ?_⟩
    rcases List.mem_cons.1 hf with rfl | hf
    · omega
    · have := ih.2 f hf; omega
theorem fils_of {l : List Fil} (hk : avB (.sl true false 3 (fils l)) ≤ 1048576) : FilsOk l := by
  have h : avS (fils l) ≤ 1048576 := by simpa only [avB] using hk
  have := avS_fils l
  exact ⟨by omega, fun f hf => by have := this.2 f hf; omega, fun f hf => by have := this.2 f hf; omega⟩
end Go.Proofs.YtpehmhlgldbeoaaGreatDoor
end
section
set_option linter.unusedVariables false
set_option linter.unusedSimpArgs false
set_option maxRecDepth 20000
set_option maxHeartbeats 4000000
namespace Go.Proofs.YtpehmhlgldbeoaaGreatDoor
open Go Go.Ab
def flatSV (y : List Fil × Nat) : AV := .tup [.sl true false 3 (fils (if y.2 = 0 then y.1 else [])), .int .i64 (y.2 : Nat)]
theorem flatS {f : FuncId} {args : List AV} {y : List Fil × Nat} (h : Calc cx f args (flatAV y)) : Calc cx f args (flatSV y) :=
  h.weak (.tup (by intro x hx; simp at hx; rcases hx with rfl | rfl; exact .sl (fun _ => rfl) (fils_free _); exact .int)) fun r w v hv => by
    unfold flatAV at hv
    unfold flatSV
    by_cases he : y.2 = 0
    · rw [if_pos he] at hv ⊢; exact hv
    · rw [if_neg he] at hv ⊢
      cases hv with
      | tup hn hall =>
        refine .tup hn fun i hi => ?_
        match i, hi with
        | 0, hi =>
          have h0 := hall 0 (by simp)
          have h0 : VRel r w _ .nils := h0
          show VRel r w _ (.sl true false 3 [])
          generalize Array.getD _ 0 undef = z at h0 ⊢
          cases h0
          exact .sl0 (fun h => by cases h)
        | 1, hi => exact hall 1 (by simp)
        | k + 2, hi => exact absurd hi (by simp)
end Go.Proofs.YtpehmhlgldbeoaaGreatDoor
end
section
set_option linter.unusedVariables false
set_option linter.unusedSimpArgs false
set_option maxRecDepth 20000
set_option maxHeartbeats 4000000
namespace Go.Proofs.YtpehmhlgldbeoaaGreatDoor
open Go Go.Ab
theorem cels_at : ∀ {l : List Fil} {i : Nat} (h : i < l.length), ∃ r, (celsF l).drop (i * 3) = .str l[i].path :: .str l[i].text :: .bool l[i].run :: r
  | f :: l, 0, h => ⟨celsF l, rfl⟩
  | f :: l, i + 1, h => by
    obtain ⟨r, hr⟩ := cels_at (l := l) (i := i) (by simpa using h)
    refine ⟨r, ?_⟩
    have e : celsF (f :: l) = [.str f.path, .str f.text, .bool f.run] ++ celsF l := rfl
    have e2 : (i + 1) * 3 = ([.str f.path, .str f.text, .bool f.run] : List AV).length + i * 3 := by simp; omega
    rw [e, e2, List.drop_append, Nat.add_sub_cancel_left, hr, List.drop_eq_nil_of_le (by omega)]
    rfl
end Go.Proofs.YtpehmhlgldbeoaaGreatDoor
end
section
set_option linter.unusedVariables false
set_option linter.unusedSimpArgs false
set_option maxRecDepth 20000
set_option maxHeartbeats 4000000
namespace Go.Proofs.YtpehmhlgldbeoaaGreatDoor
open Go Go.Ab Go.Shelf Go.RowKit Go.Lib Go.Sort
def sortFl (o : List Fil) : List Fil := o.mergeSort fun f g => decide (f.path ≤ g.path)
theorem sortFl_perm (o : List Fil) : (sortFl o).Perm o := List.mergeSort_perm _ _
theorem sortFl_pw (o : List Fil) : (sortFl o).Pairwise fun f g => f.path ≤ g.path := by
  have := List.pairwise_mergeSort (le := fun f g : Fil => decide (f.path ≤ g.path)) (fun a b c h1 h2 => leT_trans _ _ _ h1 h2) (fun a b => leT_total _ _) o
  exact this.imp fun h => by simpa using h
theorem sortFl_uniq {o x : List Fil} (hnd : (o.map Fil.path).Nodup) (hp : x.Perm o) (hs : x.Pairwise fun f g => f.path ≤ g.path) : x = sortFl o := by
  have h1 : x.map Fil.path = (sortFl o).map Fil.path := perm_sorted ((hp.trans (sortFl_perm o).symm).map _) (List.pairwise_map.2 hs) (List.pairwise_map.2 (sortFl_pw o))
  have hinj : ∀ f ∈ o, ∀ g ∈ o, f.path = g.path → f = g := by
    intro f hf g hg h
    obtain ⟨i, hi, rfl⟩ := List.getElem_of_mem hf
    obtain ⟨j, hj, rfl⟩ := List.getElem_of_mem hg
    have : i = j := (List.getElem_inj (h₀ := by simpa using hi) (h₁ := by simpa using hj) hnd).1 (by simpa using h)
    subst this; rfl
  have hl : x.length = (sortFl o).length := by have := congrArg List.length h1; simpa using this
  refine List.ext_getElem hl fun i h2 h3 => ?_
  refine hinj _ (hp.mem_iff.1 (List.getElem_mem h2)) _ ((sortFl_perm o).mem_iff.1 (List.getElem_mem h3)) ?_
  have e : (x.map Fil.path)[i]? = ((sortFl o).map Fil.path)[i]? := by rw [h1]
  rw [List.getElem?_map, List.getElem?_map, List.getElem?_eq_getElem h2, List.getElem?_eq_getElem h3] at e
  exact Option.some.inj e
def celK (f : Fil) (k : Nat) : AV := match k with | 0 => .str f.path | 1 => .str f.text | _ => .bool f.run
theorem cel_get {l : List Fil} {i : Nat} (h : i < l.length * 3) : (celsF l)[i]? = some (celK (l[i / 3]'(by omega)) (i % 3)) := by
  have hq : i / 3 < l.length := by omega
  obtain ⟨r, hr⟩ := cels_at hq
  have e : i = i / 3 * 3 + i % 3 := by omega
  have h3 : i % 3 < 3 := Nat.mod_lt _ (by decide)
  conv => lhs; rw [e]
  rw [← List.getElem?_drop, hr]
  generalize i % 3 = k at h3
  match k, h3 with
  | 0, _ => rfl
  | 1, _ => rfl
  | 2, _ => rfl
theorem flat_get {l : List Fil} {i : Nat} (h : i < l.length * 3) : (flatK encF 3 l.toArray)[i]! = (encF (l[i / 3]'(by omega)))[i % 3]! := by
  rw [get_flatK encF 3 l.toArray i (by simpa using h)]
  have hq : i / 3 < l.toArray.size := by simp; omega
  rw [getElem!_pos l.toArray (i / 3) hq]
  simp
theorem enc_rel (r : Rl) (w : World) (f : Fil) (k : Nat) (h : k < 3) : VRel r w (encF f)[k]! (celK f k) := by
  match k, h with
  | 0, _ => exact .str (by simp)
  | 1, _ => exact .str (by simp)
  | 2, _ => exact .bool
theorem enc_eq {r : Rl} {w : World} {f : Fil} {k : Nat} {v : Value} (h : k < 3) (hv : VRel r w v (celK f k)) : v = (encF f)[k]! := by
  match k, h with
  | 0, _ =>
    have hv : VRel r w v (.str f.path) := hv
    cases hv with
    | str hs => show Value.string _ = .string _; rw [← hs]
  | 1, _ =>
    have hv : VRel r w v (.str f.text) := hv
    cases hv with
    | str hs => show Value.string _ = .string _; rw [← hs]
  | 2, _ =>
    have hv : VRel r w v (.bool f.run) := hv
    cases hv; rfl
theorem Sort_ok (o : List Fil) (hne : 0 < o.length) (hlen : o.length ≤ 1000000) (hnd : (o.map Fil.path).Nodup) {σ : Heap} {id ver : Nat} (hσ : σ[id]? = some (ver, some (.cells (celsF o) ⟨false, none⟩))) :
    CallOk cx 49 [.ms id ver 0 o.length 3 false, .func (.func 50) [] []] σ (fun e s => e = .ret (.tup []) ∧ s = σ.set id (ver, some (.cells (celsF (sortFl o)) ⟨false, none⟩))) := by
  refine ⟨fun a w => Tryz.call49 a w, fun r w vs hi hv => ?_⟩
  obtain ⟨hs, hv⟩ := hv
  have g0 := hv 0 (by simp)
  have g1 := hv 1 (by simp)
  have hvs : vs = #[vs.getD 0 undef, vs.getD 1 undef] := by
    have hs : vs.size = 2 := hs
    refine Array.ext (by simp [hs]) fun j h1 h2 => ?_
    match j, h1 with
    | 0, h1 => simp [Array.getD, h1]
    | 1, h1 => simp [Array.getD, h1]
    | j + 2, h1 => omega
  rw [hvs]
  generalize vs.getD 0 undef = a at g0
  generalize vs.getD 1 undef = b at g1
  have g0 : VRel r w a (.ms id ver 0 o.length 3 false) := g0
  have g1 : VRel r w b (.func (.func 50) [] []) := g1
  cases g1 with
  | func f1 hfx f2 hbx0 =>
  rename_i first captured
  have hf1 : first = #[] := Array.eq_empty_of_size_eq_zero f1
  have hf2 : captured = #[] := Array.eq_empty_of_size_eq_zero f2
  subst hf1; subst hf2
  generalize hn : o.length = n at g0
  cases g0 with
  | ms0 => omega
  | ms hρ hcap hle hff =>
  rename_i blk off cap
  rcases hi.box id ver _ hσ with ⟨blk', off', hρ', hbx⟩ | ⟨_, ro, h⟩
  case inr =>
    have h := Box.cells.inj h
    have := cels_len o
    rw [h.1] at this; simp at this; omega
  rw [hρ] at hρ'
  obtain ⟨rfl, rfl⟩ : blk = blk' ∧ off = off' := by cases hρ'; exact ⟨rfl, rfl⟩
  obtain ⟨c, t, lo, hi0, q1, q2, q3, q4, q5⟩ := hbx
  have hcl := cels_len o
  have hbs : blk < w.heap.size := (hi.lt _ _ _ _ hρ).2
  have hcell : ∀ j, j < o.length * 3 → c[off + j]? = some (flatK encF 3 o.toArray)[j]! := by
    intro j hj
    obtain ⟨v, k1, k2⟩ := q2 j (by omega)
    have hg := cel_get hj
    rw [List.getElem?_eq_getElem (by omega)] at hg
    rw [Option.some.inj hg] at k2
    rw [k1, flat_get hj, enc_eq (Nat.mod_lt _ (by decide)) k2]
  have hH : HoldsK encF 3 w blk off o.toArray := by
    intro j hj
    have hj : j < o.length * 3 := by simpa using hj
    refine ⟨by simp only [World.cell?, q1]; exact hcell j hj, ?_⟩
    have hjc : off + j < c.size := by
      rcases Nat.lt_or_ge (off + j) c.size with h | h
      · exact h
      · have := hcell j hj
        rw [Array.getElem?_eq_none h] at this; cases this
    simp only [World.frozen?, q1]
    cases hz : (decide (lo ≤ off + j) && decide (off + j < hi0)) with
    | false => rfl
    | true =>
      simp only [Bool.and_eq_true, decide_eq_true_eq] at hz
      have := (q4 _ hz.1 hz.2 hjc).1
      cases this
  have hc := sort_c blk off cap o.toArray w hH hbs (by simp; omega)
  rw [show o.toArray.size = n by simpa using hn] at hc
  refine hc.mono ?_
  rintro e w' ⟨rfl, d', m, os, hp, hsd, rfl⟩
  obtain ⟨hd1, _, hd3⟩ := hp
  have hd1 : d'.size = n := by rw [hd1]; simpa using hn
  have hperm : d'.toList.Perm o := by
    have e1 : d'.extract 0 n = d' := by rw [← hd1]; simp
    have e2 : o.toArray.extract 0 n = o.toArray := by rw [← hn]; simp
    rw [e1, e2] at hd3
    simpa using hd3
  have hpw : d'.toList.Pairwise fun f g => f.path ≤ g.path := by
    rw [List.pairwise_iff_getElem]
    intro i j h1 h2 hij
    rw [Array.length_toList] at h1 h2
    have h3 := hsd i j (Nat.zero_le _) hij (by omega)
    rw [ltF, getElem!_pos d' i h1, getElem!_pos d' j h2] at h3
    simp only [decide_eq_false_iff_not] at h3
    simpa using h3
  have hsl := sortFl_uniq hnd hperm hpw
  have hd' : d' = (sortFl o).toArray := by rw [← hsl]
  have hln : (sortFl o).length = n := by rw [(sortFl_perm o).length_eq]; exact hn
  have hF : (flatK encF 3 d').size = n * 3 := by rw [size_flatK, hd1]
  have hheap : ∀ k, k < w.heap.size → (sortWorldK encF 3 w blk off m d' os).heap[k]? = if blk = k then some (Obj.cells (putCells _root_.id off (flatK encF 3 d') c) t (lo, hi0)) else w.heap[k]? := by
    intro k hk
    show ((w.heap.modify blk (onCells (putCells _root_.id off (flatK encF 3 d')))) ++ os)[k]? = _
    rw [Array.getElem?_append_left (by simpa using hk), Array.getElem?_modify]
    by_cases e : blk = k
    · subst e
      rw [if_pos rfl, if_pos rfl, q1]; rfl
    · rw [if_neg e, if_neg e]
  have hupd := hi.update (σ' := σ.set id (ver, some (.cells (celsF (sortFl o)) ⟨false, none⟩))) (id := id) (ver := ver) (b := blk) (o := off) (x := .cells (celsF (sortFl o)) ⟨false, none⟩) (w' := sortWorldK encF 3 w blk off m d' os)
    (by
      have : id < σ.length := by
        rcases Nat.lt_or_ge id σ.length with h | h
        · exact h
        · rw [List.getElem?_eq_none h] at hσ; cases hσ
      simp [this]) (fun j hj => by rw [List.getElem?_set, if_neg (Ne.symm hj)]) (fun c2 y hy => by rw [hσ] at hy; cases hy; exact .inr ⟨rfl, hρ⟩) (.inr ⟨ver, _, off, hσ, hρ⟩)
    (fun k hk hkb => by rw [hheap k hk, if_neg (Ne.symm hkb)]) (by
      show w.heap.size ≤ ((w.heap.modify blk (onCells (putCells _root_.id off (flatK encF 3 d')))) ++ os).size
      simp) (fun c2 t2 f2 hc2 => by
        rw [q1] at hc2; cases hc2
        exact ⟨_, _, by rw [hheap blk hbs, if_pos rfl], by simp [putCells]⟩) rfl rfl rfl
    (fun g => by
      refine ⟨_, t, lo, hi0, by rw [hheap blk hbs, if_pos rfl], fun i hil => ?_, cels_one _, fun i h1 h2 h3 => ?_, fun T h => by cases h⟩
      · have hil' : i < (sortFl o).length * 3 := by rw [cels_len] at hil; exact hil
        have hg := cel_get hil'
        rw [List.getElem?_eq_getElem hil] at hg
        rw [Option.some.inj hg]
        refine ⟨(flatK encF 3 (sortFl o).toArray)[i]!, ?_, by rw [flat_get hil']; exact enc_rel _ _ _ _ (Nat.mod_lt _ (by decide))⟩
        have hci : off + i < c.size := by
          have := hcell i (by omega)
          rcases Nat.lt_or_ge (off + i) c.size with h | h
          · exact h
          · rw [Array.getElem?_eq_none h] at this; cases this
        rw [hd']
        unfold putCells
        rw [Array.getElem?_mapIdx, Array.getElem?_eq_getElem hci]
        show some (if off ≤ off + i ∧ off + i < off + (flatK encF 3 (sortFl o).toArray).size then _root_.id ((flatK encF 3 (sortFl o).toArray)[off + i - off]!) else _) = _
        rw [if_pos ⟨by omega, by rw [size_flatK]; simp; omega⟩, Nat.add_sub_cancel_left]; rfl
      · have h3 : i < c.size := by simpa [putCells] using h3
        have := (q4 i h1 h2 h3).1
        cases this)
  exact ⟨.ret (.tup []), _, _, ⟨rfl, rfl⟩, .tup rfl (fun i h => absurd h (by simp)), hupd.1, hupd.2⟩
end Go.Proofs.YtpehmhlgldbeoaaGreatDoor
end
section
set_option linter.unusedVariables false
set_option linter.unusedSimpArgs false
set_option maxRecDepth 20000
set_option maxHeartbeats 4000000
namespace Go.Proofs.YtpehmhlgldbeoaaGreatDoor
open Go Go.Ab
theorem txl (x : List (List UInt8)) : (texts x).length = x.length := List.length_map ..
end Go.Proofs.YtpehmhlgldbeoaaGreatDoor
end
section
set_option linter.unusedVariables false
set_option linter.unusedSimpArgs false
set_option maxRecDepth 20000
set_option maxHeartbeats 4000000
namespace Go.Proofs.YtpehmhlgldbeoaaGreatDoor
open Go Go.Ab
def setT (l : List (List UInt8)) : List (List UInt8) := sortT (l.foldl addU [])
theorem fold_mem {x : List UInt8} (l a : List (List UInt8)) : x ∈ l.foldl addU a ↔ x ∈ a ∨ x ∈ l := by
  have := addU_fold_mem (fun t : List UInt8 => t) (x := x) l a
  rw [this]
  constructor
  · rintro (h | ⟨f, h, rfl⟩)
    · exact .inl h
    · exact .inr h
  · rintro (h | h)
    · exact .inl h
    · exact .inr ⟨x, h, rfl⟩
theorem setT_len (l : List (List UInt8)) : (setT l).length ≤ l.length := by
  unfold setT
  rw [(sortT_perm _).length_eq]
  have := addU_fold_len (fun t : List UInt8 => t) l []
  simpa using this
end Go.Proofs.YtpehmhlgldbeoaaGreatDoor
end
section
set_option linter.unusedVariables false
set_option linter.unusedSimpArgs false
set_option maxRecDepth 20000
set_option maxHeartbeats 4000000
namespace Go.Proofs.YtpehmhlgldbeoaaGreatDoor
open Go Go.Ab
theorem Len0_ok : Calc cx 117 [.int .u64 0] (.int .i64 0) :=
  pure_intro (fun a w => Tryz.call117 a w) Tryz.func117 rfl Tryz.ntmps117 rfl .int fun B => by
    refine pa [.b false, .b false, .b false] rfl ?_ ?_
    · (repeat' with_reducible apply AllP_cons) <;> try exact aC
      all_goals decide +kernel
    refine S_retc .int rfl trivial ?_
    rfl
theorem LenU0_ok : Calc cx 77 [.int .u64 0] (.int .i64 0) :=
  pure_intro (fun a w => Tryz.call77 a w) Tryz.func77 rfl Tryz.ntmps77 rfl .int fun B => by
    refine pa [.b false, .v (.int .i64 0)] rfl ?_ ?_
    · (repeat' with_reducible apply AllP_cons) <;> try exact aC
      · exact ⟨_, Len0_ok, .cons (.refl .int) (.nil _)⟩
    exact S_retc .int rfl trivial rfl
theorem Ins0_ok (σ : Heap) (v : Nat) : CallOk cx 108 [.ms 2 v 0 0 3 false, .int .i64 0, .int .i64 0, .func (.func 50) [] []] σ (fun o s => o = .ret (.tup []) ∧ s = σ) :=
  callOk_intro (fun a w => Tryz.call108 a w) Tryz.func108 rfl Tryz.ntmps108 rfl fun B => by
    refine pas [] rfl ?_ ?_
    · (repeat' with_reducible apply AllP_cons) <;> try exact aC
    refine S_while (α := Unit) (fun _ => [(2, .int .i64 0), (8, .int .i64 1)]) (fun _ => σ) (fun _ => True) (fun _ => 0) () trivial (.cons rfl (.cons rfl (.nil _))) rfl ?_
    rintro ⟨⟩ _
    refine pas [.b false] rfl ?_ ?_
    · (repeat' with_reducible apply AllP_cons) <;> try exact aC
    exact S_nil ⟨_, _, rfl, trivial, rfl, rfl⟩
theorem Pdq0_ok (σ : Heap) (v : Nat) : CallOk cx 76 [.ms 2 v 0 0 3 false, .int .i64 0, .int .i64 0, .int .i64 0, .func (.func 50) [] []] σ (fun o s => o = .ret (.tup []) ∧ s = σ) :=
  callOk_intro (fun a w => Tryz.call76 a w) Tryz.func76 rfl Tryz.ntmps76 rfl fun B => by
    refine pas [] rfl ?_ ?_
    · (repeat' with_reducible apply AllP_cons) <;> try exact aC
    refine S_while (α := Unit) (fun _ => [(0, .ms 2 v 0 0 3 false), (1, .int .i64 0), (2, .int .i64 0), (4, .func (.func 50) [] [])]) (fun _ => σ) (fun _ => True) (fun _ => 0) () trivial (.cons rfl (.cons rfl (.cons rfl (.cons rfl (.nil _))))) rfl ?_
    rintro ⟨⟩ _
    refine pa [.b true, .k (.tup [])] rfl ?_ ?_
    · (repeat' with_reducible apply AllP_cons) <;> try exact aC
      · exact Ins0_ok σ v
    exact S_ret ⟨_, _, rfl, trivial, rfl, rfl⟩
theorem Sort0_ok (ks : List (List UInt8)) (tx : List UInt8 → List UInt8) (g : Nat) : CallOk cx 49 [.ms 2 (g + 0) 0 0 3 false, .func (.func 50) [] []] (hpF ks tx g []) (fun o s => o = .ret (.tup []) ∧ s = hpF ks tx g []) :=
  callOk_intro (fun a w => Tryz.call49 a w) Tryz.func49 rfl Tryz.ntmps49 rfl fun B => by
    refine pa [.v (.int .i64 0), .k (.tup [])] rfl ?_ ?_
    · (repeat' with_reducible apply AllP_cons) <;> try exact aC
      · exact ⟨_, LenU0_ok, .cons (.refl .int) (.nil _)⟩
      · exact Pdq0_ok _ _
    exact S_nil ⟨_, _, rfl, trivial, rfl, rfl⟩
def headP (x : List UInt8) : Prop := x = [] ∨ ∃ y, x = 47 :: y
theorem fst_head {n x : List UInt8} (hn : n.count 47 = 0) (hx : headP x) : fstT (n ++ x) = n := by
  rcases hx with rfl | ⟨y, rfl⟩
  · rw [List.append_nil]
    rcases fst_ok n with ⟨_, h, _⟩ | ⟨h, _⟩
    · exact h
    · omega
  · exact (fst_of hn).1
theorem flatN_form {sub : List UInt8 → List UInt8 → List Fil → List Fil × Nat} {get : List UInt8 → Option (List UInt8)} {path : List UInt8}
    (hs : ∀ d p o, ∃ X, (sub d p o).1 = o ++ X ∧ (X.map Fil.path).Nodup ∧ ∀ f ∈ X, ∃ x, f.path = p ++ x) :
    ∀ (nds : List NodeV) (out : List Fil), (nds.map NodeV.name).Nodup → (∀ n ∈ nds, n.name.count 47 = 0) → ∃ X, (flatN sub get path nds out).1 = out ++ X ∧ (X.map Fil.path).Nodup ∧ ∀ f ∈ X, ∃ n ∈ nds, ∃ x, headP x ∧ f.path = path ++ (n.name ++ x)
  | [], out, _, _ => ⟨[], by simp [flatN], .nil, fun f hf => by cases hf⟩
  | nd :: r, out, hn, hc => by
    have none : ∃ X, (out : List Fil) = out ++ X ∧ (X.map Fil.path).Nodup ∧ ∀ f ∈ X, ∃ n ∈ nd :: r, ∃ x, headP x ∧ f.path = path ++ (n.name ++ x) := ⟨[], by simp, .nil, fun f hf => by cases hf⟩
    rw [List.map_cons, List.nodup_cons] at hn
    have glue : ∀ (Y : List Fil), (Y.map Fil.path).Nodup → (∀ f ∈ Y, ∃ x, headP x ∧ f.path = path ++ (nd.name ++ x)) → ∃ X, (flatN sub get path r (out ++ Y)).1 = out ++ X ∧ (X.map Fil.path).Nodup ∧ ∀ f ∈ X, ∃ n ∈ nd :: r, ∃ x, headP x ∧ f.path = path ++ (n.name ++ x) := by
      intro Y hY1 hY2
      obtain ⟨X, h1, h2, h3⟩ := flatN_form hs r (out ++ Y) hn.2 (fun n hn => hc n (List.mem_cons_of_mem _ hn))
      refine ⟨Y ++ X, by rw [h1, List.append_assoc], ?_, fun f hf => ?_⟩
      · rw [List.map_append, List.nodup_append]
        refine ⟨hY1, h2, fun a ha b hb hab => ?_⟩
        obtain ⟨f, hf, rfl⟩ := List.mem_map.1 ha
        obtain ⟨g, hg, rfl⟩ := List.mem_map.1 hb
        obtain ⟨x, hx, e1⟩ := hY2 f hf
        obtain ⟨n, hn', y, hy, e2⟩ := h3 g hg
        rw [e1, e2] at hab
        have h4 := List.append_cancel_left hab
        have h5 := congrArg fstT h4
        rw [fst_head (hc nd (List.mem_cons_self ..)) hx, fst_head (hc n (List.mem_cons_of_mem _ hn')) hy] at h5
        exact hn.1 (by rw [h5]; exact List.mem_map.2 ⟨n, hn', rfl⟩)
      · rcases List.mem_append.1 hf with hf | hf
        · exact ⟨nd, List.mem_cons_self .., hY2 f hf⟩
        · obtain ⟨n, hn', y, hy, e⟩ := h3 f hf
          exact ⟨n, List.mem_cons_of_mem _ hn', y, hy, e⟩
    rw [flatN]
    split
    · exact none
    split
    · obtain ⟨Y, h1, h2, h3⟩ := hs nd.dig (path ++ nd.name ++ [47]) out
      have h3' : ∀ f ∈ Y, ∃ x, headP x ∧ f.path = path ++ (nd.name ++ x) := fun f hf => by
        obtain ⟨x, e⟩ := h3 f hf
        exact ⟨47 :: x, .inr ⟨x, rfl⟩, by rw [e]; simp⟩
      split
      · rw [h1]; exact glue Y h2 h3'
      · exact ⟨Y, h1, h2, fun f hf => by obtain ⟨x, hx, e⟩ := h3' f hf; exact ⟨nd, List.mem_cons_self .., x, hx, e⟩⟩
    split
    · exact none
    · split
      · exact none
      · exact glue [_] (by simp) (fun f hf => by simp at hf; subst hf; exact ⟨[], .inl rfl, by simp⟩)
theorem rise_nodup {l : List (List UInt8)} (h : riseB l = true) : l.Nodup := by
  unfold riseB at h
  rw [List.all_eq_true] at h
  have key : ∀ (d i : Nat) (hi : i + d + 1 < l.length), Op.bytesLess (l[i]'(by omega)) (l[i + d + 1]'hi) = true := by
    have one : ∀ (j : Nat) (hj : j + 1 < l.length), Op.bytesLess (l[j]'(by omega)) (l[j + 1]'hj) = true := by
      intro j hj
      have := h (j + 1) (List.mem_range.2 hj)
      unfold riseP at this
      rw [show ((j + 1 == 0) : Bool) = false by simp, Bool.false_or, Nat.add_sub_cancel] at this
      have e1 : l.getD (j + 1) [] = l[j + 1] := by simp [List.getD, hj]
      have e2 : l.getD j [] = l[j]'(by omega) := by simp [List.getD, show j < l.length by omega]
      rw [e1, e2] at this
      exact leS_bl (by simpa using this)
    intro d
    induction d with
    | zero => intro i hi; exact one i hi
    | succ d ih => intro i hi; exact bl_trans (ih i (by omega)) (one (i + d + 1) hi)
  rw [List.Nodup, List.pairwise_iff_getElem]
  intro i j hi hj hij e
  have := key (j - i - 1) i (by omega)
  simp only [show i + (j - i - 1) + 1 = j by omega] at this
  rw [e, bl_irr] at this; cases this
theorem name_no {s : List UInt8} (h : isName s = true) : s.count 47 = 0 := by
  unfold isName at h
  rw [Bool.and_eq_true] at h
  rw [List.count_eq_zero]
  intro hm
  have := List.all_eq_true.1 h.1 47 hm
  revert this; decide
theorem chk_names {l : List NodeV} (h : chkN l = 0) : (l.map NodeV.name).Nodup ∧ ∀ n ∈ l, n.name.count 47 = 0 := by
  unfold chkN at h
  split at h
  · cases h
  split at h
  · rename_i h0
    split at h
    · rename_i hr
      refine ⟨rise_nodup hr, fun n hn => ?_⟩
      have key : nodeE n = 0 := by
        obtain ⟨i, hi, rfl⟩ := List.getElem_of_mem hn
        have hz : ∀ j, j ≤ l.length → (l.take j).foldl chkF 0 = 0 := by
          intro j hj
          by_cases hne : (l.take j).foldl chkF 0 = 0
          · exact hne
          · exfalso
            have e : chkLoop l = (l.drop j).foldl chkF ((l.take j).foldl chkF 0) := by
              unfold chkLoop
              conv => lhs; rw [← List.take_append_drop j l]
              rw [List.foldl_append]
            rw [chk_stay _ hne] at e
            exact hne (e ▸ h0)
        have h1 := chk_step hi
        rw [hz (i + 1) (by omega), hz i (by omega), chkF, if_pos rfl] at h1
        exact h1.symm
      unfold nodeE at key
      split at key
      · rename_i hn2
        rw [Bool.and_eq_true] at hn2
        exact name_no hn2.1
      · cases key
    · cases h
  · rename_i h0; exact absurd h h0
theorem flatD_form (get : List UInt8 → Option (List UInt8)) : ∀ (n : Nat) (d path : List UInt8) (out : List Fil), ∃ X, (flatD get n d path out).1 = out ++ X ∧ (X.map Fil.path).Nodup ∧ ∀ f ∈ X, ∃ x, f.path = path ++ x
  | 0, d, path, out => ⟨[], by simp [flatD], .nil, fun f hf => by cases hf⟩
  | n + 1, d, path, out => by
    have none : ∃ X, (out : List Fil) = out ++ X ∧ (X.map Fil.path).Nodup ∧ ∀ f ∈ X, ∃ x, f.path = path ++ x := ⟨[], by simp, .nil, fun f hf => by cases hf⟩
    rw [flatD]
    split
    · exact none
    · rename_i s _
      split
      · exact none
      · rename_i h0
        have h0 : (readNd s).2 = 0 := Classical.not_not.1 h0
        split
        · exact none
        · obtain ⟨c1, c2⟩ := chk_names (readNd_fit h0)
          obtain ⟨X, h1, h2, h3⟩ := flatN_form (get := get) (path := path) (flatD_form get n) (readNd s).1 out c1 c2
          exact ⟨X, h1, h2, fun f hf => by obtain ⟨n, _, x, _, e⟩ := h3 f hf; exact ⟨_, e⟩⟩
theorem Flat_ok {st fl : Bool} (root : List UInt8) (blobs : List (List UInt8)) (hr : root.length ≤ 9223372036854775807) (hbl : blobs.length ≤ 1000000000000) :
    Calc cx 18 [.str root, .sl st fl 1 (texts blobs)] (flatAV (flatT sortFl root blobs)) := by
  refine Flat_gen sortFl root blobs hr hbl (fun out => (sortFl_perm out).length_eq) (fun h0 => ?_)
  obtain ⟨X, h1, h2, _⟩ := flatD_form (getM (ksB blobs) (txB blobs)) 102 root [] []
  have h1 : (flatY root blobs).1 = X := h1
  have hlen : (flatY root blobs).1.length ≤ 60 := (flatD_len (getM (ksB blobs) (txB blobs)) 102 root [] [] (by decide)).1
  rw [← h1] at h2
  generalize (flatY root blobs).1 = o at *
  by_cases ho : o = []
  · subst ho
    have : sortFl [] = [] := by unfold sortFl; simp
    rw [this]
    exact Sort0_ok _ _ _
  · have hS := Sort_ok o (List.length_pos_iff.2 ho) (by omega) h2 (σ := hpF (ksB blobs) (txB blobs) 0 o) (id := 2) (ver := 0 + o.length) rfl
    refine hS.mono fun out s ⟨h3, h4⟩ => ⟨h3, ?_⟩
    rw [h4]
    unfold hpF hpT
    rw [(sortFl_perm o).length_eq]; rfl
end Go.Proofs.YtpehmhlgldbeoaaGreatDoor
end
section
set_option linter.unusedVariables false
set_option linter.unusedSimpArgs false
set_option maxRecDepth 20000
namespace Go.Proofs.YtpehmhlgldbeoaaGreatDoor
open Go Go.Ab
theorem readN_pack : ∀ (k n i acc : Nat) (rest : List UInt8), n < 128 ^ (k + 1) → i + (packN k n).length ≤ 8 → acc + n * 128 ^ i ≤ 9007199254740991 → (n ≠ 0 ∨ i = 0) →
    readN (packN k n ++ rest) i acc = (acc + n * 128 ^ i, i + (packN k n).length, 0)
  | 0, n, i, acc, rest, hn, hi, hb, h0 => by
    have hn : n < 128 := by simpa using hn
    simp only [packN, List.length_singleton] at hi ⊢
    have ht : (UInt8.ofNat n).toNat = n := by rw [UInt8.toNat_ofNat', Nat.mod_eq_of_lt (by omega)]
    simp only [List.singleton_append, readN]
    rw [if_neg (by omega), ht, if_neg (by omega), if_neg (by omega), Nat.mod_eq_of_lt hn, if_neg (by omega)]
  | k + 1, n, i, acc, rest, hn, hi, hb, h0 => by
    have e : packN (k + 1) n = if n < 128 then [UInt8.ofNat n] else UInt8.ofNat (n % 128 + 128) :: packN k (n / 128) := rfl
    by_cases hs : n < 128
    · rw [e, if_pos hs] at hi ⊢
      have ht : (UInt8.ofNat n).toNat = n := by rw [UInt8.toNat_ofNat', Nat.mod_eq_of_lt (by omega)]
      simp only [List.length_singleton] at hi ⊢
      simp only [List.singleton_append, readN]
      rw [if_neg (by omega), ht, if_neg (by omega), if_neg (by omega), Nat.mod_eq_of_lt hs, if_neg (by omega)]
    · rw [e, if_neg hs] at hi ⊢
      have hne := packN_ne k (n / 128)
      have hpos : 0 < (packN k (n / 128)).length := List.length_pos_iff.2 hne
      simp only [List.length_cons] at hi ⊢
      have ht : (UInt8.ofNat (n % 128 + 128)).toNat = n % 128 + 128 := by rw [UInt8.toNat_ofNat', Nat.mod_eq_of_lt (by omega)]
      simp only [List.cons_append, readN]
      rw [if_neg (by omega), ht, if_pos (by omega)]
      have hsum : acc + (n % 128 + 128) % 128 * 128 ^ i + n / 128 * 128 ^ (i + 1) = acc + n * 128 ^ i := by
        have h1 : (n % 128 + 128) % 128 = n % 128 := by omega
        rw [h1, Nat.pow_succ, Nat.mul_comm (128 ^ i) 128, ← Nat.mul_assoc, Nat.add_assoc, ← Nat.add_mul]
        congr 2; omega
      rw [readN_pack k (n / 128) (i + 1) _ rest (by rw [Nat.div_lt_iff_lt_mul (by decide)]; rw [Nat.pow_succ] at hn; omega) (by omega) (by omega) (.inl (by omega)), hsum]
      congr 2; omega
theorem packN_small {n : Nat} (hn : n ≤ 9007199254740991) : (packN 9 n).length ≤ 8 := by
  rw [packN_more 8 n (by simp; omega), packN_more 7 n (by simp; omega)]
  exact packN_len 7 n
theorem readN_of_pack (n : Nat) (rest : List UInt8) (hn : n ≤ 9007199254740991) : readN (packN 9 n ++ rest) 0 0 = (n, (packN 9 n).length, 0) := by
  have := readN_pack 9 n 0 0 rest (by simp; omega) (by have := packN_small hn; omega) (by simp; omega) (.inr rfl)
  simpa using this
end Go.Proofs.YtpehmhlgldbeoaaGreatDoor
end
section
set_option linter.unusedVariables false
set_option linter.unusedSimpArgs false
set_option maxRecDepth 20000
namespace Go.Proofs.YtpehmhlgldbeoaaGreatDoor
open Go Go.Ab
theorem rNum_pack (n : Nat) (rest : List UInt8) (hn : n ≤ 9007199254740991) : rNum (packN 9 n ++ rest) = some (n, rest) := by
  unfold rNum
  rw [readN_of_pack n rest hn]
  simp
theorem rText_pack (s rest : List UInt8) (hs : s.length ≤ 9007199254740991) : rText (packT s ++ rest) = some (s, rest) := by
  unfold rText packT
  rw [List.append_assoc, rNum_pack _ _ hs]
  simp [rTake]
theorem packT_pos (s : List UInt8) : 1 ≤ (packT s).length := by
  have := List.length_pos_iff.2 (packN_ne 9 s.length)
  simp only [packT, List.length_append]; omega
end Go.Proofs.YtpehmhlgldbeoaaGreatDoor
end
section
set_option linter.unusedVariables false
set_option linter.unusedSimpArgs false
set_option maxRecDepth 20000
namespace Go.Proofs.YtpehmhlgldbeoaaGreatDoor
open Go Go.Ab
theorem rNode_pack (n : NodeV) (rest : List UInt8) (h1 : n.name.length ≤ 20) (h2 : 1 ≤ n.kind ∧ n.kind ≤ 3) (h3 : n.dig.length = 64) : rNode (packNode n ++ rest) = some (n, rest) := by
  obtain ⟨k, hk⟩ := Int.eq_ofNat_of_zero_le (show 0 ≤ n.kind by omega)
  have e : packNode n ++ rest = packT n.name ++ (packN 9 k ++ (packT n.dig ++ rest)) := by
    simp only [packNode, hk, Int.toNat_natCast, List.append_assoc]
  rw [e, rNode, rText_pack _ _ (by omega)]
  simp only
  rw [rNum_pack k _ (by omega)]
  simp only
  rw [rText_pack _ _ (by omega)]
  simp only
  rw [← hk]
theorem rNodeRep_pack : ∀ (l : List NodeV) (rest : List UInt8), (∀ n ∈ l, n.name.length ≤ 20) → (∀ n ∈ l, 1 ≤ n.kind ∧ n.kind ≤ 3) → (∀ n ∈ l, n.dig.length = 64) → rNodeRep l.length (l.flatMap packNode ++ rest) = some (l, rest)
  | [], rest, _, _, _ => rfl
  | n :: l, rest, h1, h2, h3 => by
    rw [List.length_cons, rNodeRep, List.flatMap_cons, List.append_assoc, rNode_pack n _ (h1 n (List.mem_cons_self ..)) (h2 n (List.mem_cons_self ..)) (h3 n (List.mem_cons_self ..))]
    simp only
    rw [rNodeRep_pack l rest (fun x hx => h1 x (List.mem_cons_of_mem _ hx)) (fun x hx => h2 x (List.mem_cons_of_mem _ hx)) (fun x hx => h3 x (List.mem_cons_of_mem _ hx))]
theorem flatN_ge : ∀ (l : List NodeV), l.length ≤ (l.flatMap packNode).length
  | [] => Nat.le_refl _
  | n :: l => by
    have := flatN_ge l
    have := packT_pos n.name
    rw [List.flatMap_cons, List.length_append, List.length_cons, packNode, List.length_append, List.length_append]; omega
theorem rNodes_pack (l : List NodeV) (rest : List UInt8) (h : NodesFit l) : rNodes (packNs l ++ rest) = some (l, rest) := by
  have h0 := h.len
  have hg := flatN_ge l
  have hm : rMany (packN 9 l.length ++ (l.flatMap packNode ++ rest)) = some (l.length, l.flatMap packNode ++ rest) := by
    rw [rMany, rNum_pack _ _ (by omega)]
    simp only
    rw [if_neg (by rw [List.length_append]; omega)]
  rw [packNs, List.append_assoc, rNodes, hm]
  exact rNodeRep_pack l rest h.name h.kind h.dig
theorem readNd_pack (l : List NodeV) (hc : chkN l = 0) : readNd (packNs l) = (l, 0) := by
  have h := rNodes_pack l [] (chk_fit hc)
  rw [List.append_nil] at h
  simp only [readNd, h, nodesOf, hc, if_true]
end Go.Proofs.YtpehmhlgldbeoaaGreatDoor
end
section
set_option linter.unusedVariables false
set_option linter.unusedSimpArgs false
set_option maxRecDepth 20000
set_option maxHeartbeats 4000000
namespace Go.Proofs.YtpehmhlgldbeoaaGreatDoor
open Go Go.Ab
def pfx (path : List UInt8) (f : Fil) : Fil := ⟨path ++ f.path, f.text, f.run⟩
def grF (g : List Fil) (n : List UInt8) : List Fil := g.filter fun f => fstT f.path == n
theorem part_perm : ∀ (ks : List (List UInt8)) (g : List Fil), ks.Nodup → (∀ f ∈ g, fstT f.path ∈ ks) → (ks.flatMap fun n => grF g n).Perm g
  | [], g, _, h => by
    cases g with
    | nil => exact .nil
    | cons f r => have := h f (List.mem_cons_self ..); cases this
  | n :: ks, g, hn, h => by
    obtain ⟨h1, h2⟩ := List.nodup_cons.1 hn
    rw [List.flatMap_cons]
    have ih := part_perm ks (g.filter fun f => !(fstT f.path == n)) h2 (fun f hf => by
      obtain ⟨hf1, hf2⟩ := List.mem_filter.1 hf
      have hf2 : fstT f.path ≠ n := by simpa using hf2
      rcases List.mem_cons.1 (h f hf1) with h3 | h3
      · exact absurd h3 hf2
      · exact h3)
    have e : (ks.flatMap fun m => grF (g.filter fun f => !(fstT f.path == n)) m) = ks.flatMap fun m => grF g m := by
      refine congrArg List.flatten (List.map_congr_left fun m hm => ?_)
      unfold grF
      rw [List.filter_filter]
      apply List.filter_congr
      intro f _
      by_cases e : fstT f.path = m
      · have : fstT f.path ≠ n := fun e2 => h1 (by rw [← e2, e]; exact hm)
        simp [e]
        intro e3; exact this (e.trans e3)
      · simp [e]
    rw [e] at ih
    exact (ih.append_left _).trans (List.filter_append_perm _ _)
theorem back_dir (get : List UInt8 → Option (List UInt8)) : ∀ (d : Nat) (g : List Fil) (n : Nat) (path : List UInt8) (out : List Fil), DirOk (d + 1) g → (∀ t ∈ (dirT (d + 1) g).2, get (sha t) = some t) → get (sha (dirT (d + 1) g).1) = some (dirT (d + 1) g).1 →
    (g = [] → path = []) → (∀ f ∈ g, (path ++ f.path).length ≤ 100) → path.length ≤ 101 → 102 ≤ n + path.length → out.length + g.length ≤ 60 →
    ∃ X, flatD get n (sha (dirT (d + 1) g).1) path out = (out ++ X, 0) ∧ X.Perm (g.map (pfx path)) := by
  intro d
  induction d using Nat.strongRecOn with | ind d ih => ?_
  intro g n path out hg hget hroot h0 hpl hp101 hfuel h60
  obtain ⟨n', rfl⟩ : ∃ n', n = n' + 1 := ⟨n - 1, by omega⟩
  have hdir : dirT (d + 1) g = (packNs (nodsT (dirT d) g (sortT (nmsT g))), blbsT (dirT d) g (sortT (nmsT g))) := rfl
  have hchk := nods_chk hg (dirT d)
  rw [hdir] at hget hroot ⊢
  simp only at hget hroot ⊢
  rw [flatD, hroot]
  simp only [readNd_pack _ hchk]
  rw [if_neg (by simp)]
  have hkm : ∀ m ∈ sortT (nmsT g), m ∈ nmsT g := fun m hm => (sortT_perm _).mem_iff.1 hm
  rw [if_neg (by
    rintro ⟨h1, h2⟩
    apply h2
    apply h0
    unfold nodsT at h1
    rw [List.map_eq_nil_iff] at h1
    cases g with
    | nil => rfl
    | cons f r =>
      have : fstT f.path ∈ sortT (nmsT (f :: r)) := (sortT_perm _).mem_iff.2 (nms_mem.2 ⟨f, by simp, rfl⟩)
      rw [h1] at this; cases this)]
  have inner : ∀ (ks : List (List UInt8)) (o : List Fil), (∀ m ∈ ks, m ∈ sortT (nmsT g)) → o.length + (ks.flatMap fun m => grF g m).length ≤ 60 →
      ∃ X, flatN (flatD get n') get path (nodsT (dirT d) g ks) o = (o ++ X, 0) ∧ X.Perm ((ks.flatMap fun m => grF g m).map (pfx path)) := by
    intro ks
    induction ks with
    | nil => intro o _ _; exact ⟨[], by simp [nodsT, flatN], .nil⟩
    | cons m ks ihk =>
      intro o hks ho
      have hmk := hks m (List.mem_cons_self ..)
      have hm := hkm m hmk
      rw [List.flatMap_cons, List.length_append] at ho
      have hblb : ∀ t ∈ (entT (dirT d) m (grT g m)).2, get (sha t) = some t := fun t ht => hget t (List.mem_flatMap.2 ⟨m, hmk, ht⟩)
      have hgr : grT g m = (grF g m).map stp := rfl
      have hF : ∀ f ∈ grF g m, f ∈ g ∧ fstT f.path = m := fun f hf => by
        obtain ⟨h1, h2⟩ := List.mem_filter.1 hf
        exact ⟨h1, by simpa using h2⟩
      show ∃ X, flatN (flatD get n') get path ((entT (dirT d) m (grT g m)).1 :: nodsT (dirT d) g ks) o = (o ++ X, 0) ∧ X.Perm ((grF g m ++ ks.flatMap fun m => grF g m).map (pfx path))
      rcases hg.sub hm with ⟨f, hf, hfp, hfr, hgf⟩ | ⟨hne, hsub⟩
      · rw [hgf] at hblb ⊢
        have hFl : (grF g m).length = 1 := by rw [hgr] at hgf; have := congrArg List.length hgf; simpa using this
        obtain ⟨f', hf'⟩ : ∃ f', grF g m = [f'] := by
          cases hq : grF g m with
          | nil => rw [hq] at hFl; simp at hFl
          | cons a r =>
            cases r with
            | nil => exact ⟨a, rfl⟩
            | cons b r => rw [hq] at hFl; simp at hFl
        have hst : stp f' = ⟨[], f.text, f.run⟩ := by rw [hgr, hf'] at hgf; simpa using hgf
        obtain ⟨hf'1, hf'2⟩ := hF f' (by rw [hf']; simp)
        have hr' : rstT f'.path = [] := congrArg Fil.path hst
        have ht' : f'.text = f.text := by have := congrArg Fil.text hst; exact this
        have hrun' : f'.run = f.run := by have := congrArg Fil.run hst; exact this
        have hp' : f'.path = m := by rw [← hf'2]; exact ((path_fst (hg.path f' hf'1)).2.2.1 hr').symm
        have hlen := hpl f' hf'1
        rw [hp'] at hlen
        have hen : entT (dirT d) m [⟨[], f.text, f.run⟩] = (⟨m, if f.run = true then 2 else 1, sha f.text⟩, [f.text]) := by rw [entT, if_pos rfl]
        rw [hen] at hblb ⊢
        rw [hf', List.length_singleton] at ho
        rw [flatN]
        rw [if_neg (by show ¬ 100 < (path ++ m).length; omega), if_neg (by show ¬ (if f.run = true then (2 : Int) else 1) = 3; split <;> decide)]
        have hgt : get (sha f.text) = some f.text := hblb f.text (by simp)
        simp only [hgt]
        rw [if_neg (by omega)]
        obtain ⟨X, h1, h2⟩ := ihk (o ++ [⟨path ++ m, f.text, (if f.run = true then (2 : Int) else 1) == 2⟩]) (fun x hx => hks x (List.mem_cons_of_mem _ hx)) (by rw [List.length_append, List.length_singleton]; omega)
        refine ⟨⟨path ++ m, f.text, (if f.run = true then (2 : Int) else 1) == 2⟩ :: X, by rw [h1]; simp, ?_⟩
        rw [hf', List.map_append]
        have e : pfx path f' = ⟨path ++ m, f.text, (if f.run = true then (2 : Int) else 1) == 2⟩ := by
          unfold pfx
          rw [hp', ht', hrun']
          cases f.run <;> rfl
        rw [List.map_cons, List.map_nil, e]
        exact h2.cons _
      · have hgne := gr_ne hm
        obtain ⟨f0, r0, hfr⟩ : ∃ f r, grT g m = f :: r := by
          cases hq : grT g m with
          | nil => exact absurd hq hgne
          | cons f r => exact ⟨f, r, rfl⟩
        have hd1 : ∃ d', d = d' + 1 := by
          cases d with
          | zero => have := hsub.dep f0 (by rw [hfr]; simp); omega
          | succ d' => exact ⟨d', rfl⟩
        obtain ⟨d', hd1⟩ := hd1
        have hen : entT (dirT d) m (grT g m) = (⟨m, 3, sha (dirT d (grT g m)).1⟩, (dirT d (grT g m)).2 ++ [(dirT d (grT g m)).1]) := by
          rw [hfr, entT, if_neg (hne f0 (by rw [hfr]; simp))]
        have hpath : ∀ f ∈ grF g m, f.path = m ++ 47 :: rstT f.path ∧ rstT f.path ≠ [] := by
          intro f hf
          obtain ⟨h1, h2⟩ := hF f hf
          have h3 : rstT f.path ≠ [] := hne (stp f) (by rw [hgr]; exact List.mem_map.2 ⟨f, hf, rfl⟩)
          have h4 := ((path_fst (hg.path f h1)).2.2.2 h3).2
          rw [h2] at h4
          exact ⟨h4, h3⟩
        obtain ⟨f1, hf1⟩ : ∃ f1, f1 ∈ grF g m := by
          cases hq : grF g m with
          | nil => rw [hgr, hq] at hfr; cases hfr
          | cons a r => exact ⟨a, by simp⟩
        have hl1 := hpl f1 (hF f1 hf1).1
        obtain ⟨e1, e2⟩ := hpath f1 hf1
        have hr1 : 0 < (rstT f1.path).length := List.length_pos_iff.2 e2
        rw [e1] at hl1
        simp only [List.length_append, List.length_cons] at hl1
        have hmap : (grT g m).map (pfx (path ++ m ++ [47])) = (grF g m).map (pfx path) := by
          rw [hgr, List.map_map]
          apply List.map_congr_left
          intro f hf
          have := (hpath f hf).1
          show pfx (path ++ m ++ [47]) (stp f) = pfx path f
          unfold pfx stp
          conv => rhs; rw [this]
          simp
        rw [hen] at hblb
        have hih := ih d' (by omega) (grT g m) n' (path ++ m ++ [47]) o (by rw [← hd1]; exact hsub) (by rw [← hd1]; exact fun t ht => hblb t (List.mem_append_left _ ht)) (by rw [← hd1]; exact hblb _ (by simp)) (fun h => absurd h hgne)
          (fun f hf => by
            obtain ⟨f', hf', rfl⟩ := List.mem_map.1 (hgr ▸ hf)
            have h1 := hpl f' (hF f' hf').1
            rw [(hpath f' hf').1] at h1
            simp only [List.length_append, List.length_cons, List.length_singleton] at h1 ⊢
            show path.length + m.length + 1 + (rstT f'.path).length ≤ 100
            omega)
          (by simp only [List.length_append, List.length_singleton]; omega) (by simp only [List.length_append, List.length_singleton]; omega) (by rw [hgr, List.length_map]; omega)
        rw [← hd1] at hih
        obtain ⟨Y, k1, k2⟩ := hih
        rw [hen, flatN]
        rw [if_neg (by show ¬ 100 < (path ++ m).length; simp only [List.length_append]; omega), if_pos rfl]
        show ∃ X, (if (flatD get n' (sha (dirT d (grT g m)).1) (path ++ m ++ [47]) o).2 = 0 then _ else _) = _ ∧ _
        rw [k1, if_pos rfl]
        have hYl : Y.length = (grF g m).length := by rw [k2.length_eq, List.length_map, hgr, List.length_map]
        obtain ⟨X, h1, h2⟩ := ihk (o ++ Y) (fun x hx => hks x (List.mem_cons_of_mem _ hx)) (by rw [List.length_append]; omega)
        refine ⟨Y ++ X, by rw [← List.append_assoc]; exact h1, ?_⟩
        rw [List.map_append]
        rw [hmap] at k2
        exact k2.append h2
  have hpp := part_perm (sortT (nmsT g)) g (sort_nodup (nms_nodup g)) (fun f hf => (sortT_perm _).mem_iff.2 (nms_mem.2 ⟨f, hf, rfl⟩))
  obtain ⟨X, h1, h2⟩ := inner (sortT (nmsT g)) out (fun m hm => hm) (by rw [hpp.length_eq]; exact h60)
  exact ⟨X, h1, h2.trans (hpp.map _)⟩
theorem blob_mem {l : List Fil} {t : List UInt8} : t ∈ blobT l ↔ t ∈ (dirT 101 l).2 ∨ t = (dirT 101 l).1 := by
  unfold blobT
  rw [(sortT_perm _).mem_iff, addU_mem, fold_mem]
  simp
theorem flat_back {l : List Fil} (h : chkT l = 0) {blobs : List (List UInt8)} (hb : ∀ t ∈ blobT l, t ∈ blobs) (hap : ∀ a ∈ blobT l, ∀ b ∈ blobs, sha a = sha b → a = b) : (flatY (rootT l) blobs).2 = 0 ∧ sortFl (flatY (rootT l) blobs).1 = l := by
  have hd := DirOk.of h
  have hget : ∀ t ∈ blobT l, getM (ksB blobs) (txB blobs) (sha t) = some t := by
    intro t ht
    unfold getM
    rw [if_pos (ksB_mem.2 ⟨t, hb t ht, rfl⟩)]
    unfold txB
    cases hq : blobs.reverse.find? (fun s => sha s == sha t) with
    | none =>
      rw [List.find?_eq_none] at hq
      exact absurd (by simp) (hq t (by simpa using hb t ht))
    | some s =>
      have h1 := List.mem_of_find?_eq_some hq
      have h2 : sha s = sha t := by simpa using List.find?_some hq
      have := hap t ht s (by simpa using h1) h2.symm
      rw [this]; rfl
  have hmem : ∀ t, t ∈ (dirT 101 l).2 ∨ t = (dirT 101 l).1 → t ∈ blobT l := by
    intro t ht
    rw [blob_mem]; exact ht
  obtain ⟨X, h1, h2⟩ := back_dir (getM (ksB blobs) (txB blobs)) 100 l 102 [] [] hd (fun t ht => hget t (hmem t (.inl ht))) (hget _ (hmem _ (.inr rfl))) (fun _ => rfl) (fun f hf => (path_fst (hd.path f hf)).2.1) (by decide) (by decide) (by have := hd.len; simpa using this)
  have h1 : flatY (rootT l) blobs = (X, 0) := h1
  rw [h1]
  refine ⟨rfl, ?_⟩
  have e : l.map (pfx []) = l := by
    conv => rhs; rw [← List.map_id l]
    exact List.map_congr_left fun f _ => rfl
  rw [e] at h2
  have hpw : l.Pairwise fun f g => f.path ≤ g.path := hd.ok.1.imp fun hfg => by
    rw [bl_eq, decide_eq_true_eq] at hfg
    exact List.le_of_lt hfg
  have hnd : (X.map Fil.path).Nodup := by
    refine (h2.map Fil.path).nodup_iff.2 ?_
    rw [List.Nodup, List.pairwise_map]
    refine hd.ok.1.imp fun hfg e => ?_
    rw [e, bl_irr] at hfg; cases hfg
  exact (sortFl_uniq hnd h2.symm hpw).symm
end Go.Proofs.YtpehmhlgldbeoaaGreatDoor
end
section
set_option linter.unusedVariables false
set_option linter.unusedSimpArgs false
set_option maxRecDepth 20000
namespace Go.Proofs.YtpehmhlgldbeoaaGreatDoor
open Go Go.Ab
theorem HasText_ok {st fl : Bool} (l : List (List UInt8)) (s : List UInt8) (hl : l.length ≤ 9223372036854775806) : Calc cx 55 [.sl st fl 1 (texts l), .str s] (.bool (l.contains s)) :=
  pure_intro (fun a w => Tryz.call55 a w) Tryz.func55 rfl Tryz.ntmps55 rfl .bool fun B => by
    have htl := texts_len l
    refine ab 1000 rfl trivial ?_
    refine S_while (α := Nat) (fun i => [(0, .sl st fl 1 (texts l)), (1, .str s), (5, .int .i64 (i : Nat))]) (fun _ => []) (fun i => i ≤ l.length ∧ s ∉ l.take i) (fun i => l.length - i) 0
      ⟨Nat.zero_le _, by simp⟩ (.cons rfl (.cons rfl (.cons rfl (.nil _)))) rfl ?_
    rintro i ⟨hi, hN⟩
    have hi : i ≤ l.length := hi
    refine ab 1000 rfl trivial ?_
    refine S_dec rfl (fun hlt => ?_) (fun hlt => ?_)
    · have hil : i < l.length := by have : (i : Int) < ((texts l).length : Nat) := hlt; omega
      refine ab 1000 rfl trivial ?_
      refine S_index (.str l[i]) rfl rfl rfl ⟨rfl, by omega, by rw [Int.toNat_natCast]; exact texts_get hil, trivial⟩ ?_
      refine ab 1000 rfl trivial ?_
      refine S_cond rfl (fun h => ?_) (fun h => ?_)
      · have h : l[i] = s := by simpa using (show (l[i] == s) = true from h)
        refine ab 1000 rfl trivial ?_
        refine S_retc .bool rfl trivial ?_
        rw [List.contains_iff_mem.2 (by rw [← h]; exact List.getElem_mem hil)]; rfl
      · have h : l[i] ≠ s := by simpa using (show (l[i] == s) = false from h)
        refine ab 1000 rfl trivial ?_
        refine S_round (i + 1) (by show l.length - (i + 1) < l.length - i; omega) ⟨hil, fun hm => ?_⟩ (.cons rfl (.cons rfl (.cons (ai64 rfl (by omega)) (.nil _)))) rfl
        rw [List.take_succ_eq_append_getElem hil] at hm
        rcases List.mem_append.1 hm with hm | hm
        · exact hN hm
        · simp at hm; exact h hm.symm
    · have hil : i = l.length := by have : ¬ (i : Int) < ((texts l).length : Nat) := hlt; omega
      rw [hil, List.take_length] at hN
      refine ab 1000 rfl trivial ?_
      refine S_retc .bool rfl trivial ?_
      have : l.contains s = false := by
        cases h : l.contains s with
        | false => rfl
        | true => exact absurd (List.contains_iff_mem.1 h) hN
      rw [this]; rfl
end Go.Proofs.YtpehmhlgldbeoaaGreatDoor
end
section
set_option linter.unusedVariables false
set_option linter.unusedSimpArgs false
set_option maxRecDepth 20000
namespace Go.Proofs.YtpehmhlgldbeoaaGreatDoor
open Go Go.Ab
theorem xor1_ok (x y : Int) : Calc cx 119 [.int .i64 x, .int .i64 y] (.int .i64 ((IntKind.i64.wrap (x + y)).tmod 2)) :=
  pure_intro (fun a w => Tryz.call119 a w) Tryz.func119 rfl Tryz.ntmps119 rfl .int fun B => by
    refine ab 1000 rfl ⟨by decide, trivial⟩ ?_
    refine S_ret ⟨_, _, rfl, trivial, _, rfl, .refl .int⟩
def bitsN (G : Nat → Nat → Nat) : Nat → Nat → Nat → Nat
  | 0, _, _ => 0
  | k + 1, a, b => G (a % 2) (b % 2) + 2 * bitsN G k (a / 2) (b / 2)
theorem bits_ok (G : Nat → Nat → Nat) (f : FuncId) (hG : ∀ x y, x < 2 → y < 2 → G x y < 2 ∧ Calc cx f [.int .i64 x, .int .i64 y] (.int .i64 (G x y))) (a b : Nat) (ha : a < 4294967296) (hb : b < 4294967296) :
    Calc cx 118 [.int .i64 a, .int .i64 b, .func (.func f) [] []] (.int .i64 (bitsN G 32 a b)) :=
  pure_intro (fun a w => Tryz.call118 a w) Tryz.func118 rfl Tryz.ntmps118 rfl .int fun B => by
    refine ab 1000 rfl trivial ?_
    refine S_while (α := Nat × Nat × Nat × Nat) (fun (i, a, b, n) => [(0, .int .i64 a), (1, .int .i64 b), (2, .func (.func f) [] []), (7, .int .i64 n), (8, .int .i64 ((2 ^ i : Nat) : Int)), (9, .int .i64 i)]) (fun _ => [])
      (fun (i, a', b', n) => i ≤ 32 ∧ a' < 4294967296 ∧ b' < 4294967296 ∧ n < 2 ^ i ∧ n + 2 ^ i * bitsN G (32 - i) a' b' = bitsN G 32 a b) (fun (i, _) => 32 - i) (0, a, b, 0)
      ⟨by decide, ha, hb, by decide, by simp⟩ (.cons rfl (.cons rfl (.cons rfl (.cons rfl (.cons rfl (.cons rfl (.nil _))))))) rfl ?_
    rintro ⟨i, a', b', n⟩ ⟨hi, ha', hb', hn, hN⟩
    have hG' := hG (a' % 2) (b' % 2) (Nat.mod_lt _ (by decide)) (Nat.mod_lt _ (by decide))
    have hp : 2 ^ i ≤ 2 ^ 32 := Nat.pow_le_pow_right (by decide) hi
    refine ab 1000 rfl trivial ?_
    refine S_dec rfl (fun h => ?_) (fun h => ?_)
    · have hi32 : i < 32 := by omega
      refine ab 1000 rfl ⟨by decide, by decide, trivial⟩ ?_
      refine S_pure rfl rfl rfl hG'.2 (.cons (.refl .int) (.cons (.refl .int) (.nil _))) ?_
      refine ab 1000 rfl ⟨by decide, by decide, trivial⟩ ?_
      have hg : G (a' % 2) (b' % 2) < 2 := hG'.1
      have hm : 2 ^ i * G (a' % 2) (b' % 2) ≤ 2 ^ i := by
        rcases Nat.lt_or_ge (G (a' % 2) (b' % 2)) 1 with h | h
        · rw [show G (a' % 2) (b' % 2) = 0 by omega]; simp
        · rw [show G (a' % 2) (b' % 2) = 1 by omega]; simp
      refine S_round (i + 1, a' / 2, b' / 2, n + 2 ^ i * G (a' % 2) (b' % 2)) ?_ ⟨by omega, by omega, by omega, ?_, ?_⟩ (.cons ?_ (.cons ?_ (.cons rfl (.cons ?_ (.cons ?_ (.cons ?_ (.nil _))))))) rfl
      · show 32 - (i + 1) < 32 - i; omega
      · show n + _ < 2 ^ (i + 1); rw [Nat.pow_succ]; omega
      · show n + 2 ^ i * G (a' % 2) (b' % 2) + 2 ^ (i + 1) * bitsN G (32 - (i + 1)) (a' / 2) (b' / 2) = _
        rw [← hN, show 32 - i = (32 - (i + 1)) + 1 by omega, bitsN, Nat.mul_add, Nat.pow_succ, Nat.mul_assoc (2 ^ i) 2]; omega
      · exact ai64 rfl (by omega)
      · exact ai64 rfl (by omega)
      · exact ai64 (congrArg (fun z : Int => (n : Int) + z) (w64 (k := 2 ^ i * G (a' % 2) (b' % 2)) rfl (by omega))) (by omega)
      · exact ai64 (by rw [Nat.pow_succ]; omega) (by rw [Nat.pow_succ]; omega)
      · exact ai64 rfl (by omega)
    · have hi32 : i = 32 := by omega
      subst hi32
      refine ab 1000 rfl trivial ?_
      refine S_ret ⟨_, _, rfl, trivial, _, rfl, ?_⟩
      rw [show bitsN G 32 a b = n by rw [← hN]; simp [bitsN]]
      exact .refl .int
theorem xor1_nat (x y : Nat) (hx : x < 2) (hy : y < 2) : (x + y) % 2 < 2 ∧ Calc cx 119 [.int .i64 x, .int .i64 y] (.int .i64 ((x + y) % 2 : Nat)) := by
  refine ⟨Nat.mod_lt _ (by decide), ?_⟩
  have h := xor1_ok x y
  rw [show (x : Int) + (y : Int) = ((x + y : Nat) : Int) from rfl, w64 (k := x + y) rfl (by omega)] at h
  exact h
def xor2 (a b : Nat) : Nat := bitsN (fun x y => (x + y) % 2) 32 a b
theorem bitsN_lt (G : Nat → Nat → Nat) (hG : ∀ x y, x < 2 → y < 2 → G x y < 2) : ∀ k a b, bitsN G k a b < 2 ^ k
  | 0, _, _ => by simp [bitsN]
  | k + 1, a, b => by
    have h := bitsN_lt G hG k (a / 2) (b / 2)
    have h1 := hG (a % 2) (b % 2) (Nat.mod_lt _ (by decide)) (Nat.mod_lt _ (by decide))
    rw [bitsN, Nat.pow_succ]; omega
theorem xor2_lt (a b : Nat) : xor2 a b < 4294967296 := bitsN_lt _ (fun x y _ _ => Nat.mod_lt _ (by decide)) 32 a b
theorem xor2_ok (a b : Nat) (ha : a < 4294967296) (hb : b < 4294967296) : Calc cx 118 [.int .i64 a, .int .i64 b, .func (.func 119) [] []] (.int .i64 (xor2 a b)) := by
  unfold xor2
  exact bits_ok _ _ xor1_nat a b ha hb
def xorL (l : List Nat) : Nat := l.foldl xor2 0
def ints (l : List Nat) : List AV := l.map fun (x : Nat) => .int .i64 x
theorem xor_ok {st fl : Bool} (l : List Nat) (hl : ∀ x ∈ l, x < 4294967296) (hn : l.length ≤ 4611686018427387904) : Calc cx 82 [.sl st fl 1 (ints l)] (.int .i64 (xorL l)) :=
  pure_intro (fun a w => Tryz.call82 a w) Tryz.func82 rfl Tryz.ntmps82 rfl .int fun B => by
    refine ab 1000 rfl trivial ?_
    refine S_while (α := Nat × Nat) (fun (i, n) => [(0, .sl st fl 1 (ints l)), (3, .int .i64 n), (4, .int .i64 i)]) (fun _ => []) (fun (i, n) => i ≤ l.length ∧ n < 4294967296 ∧ (l.drop i).foldl xor2 n = xorL l) (fun (i, _) => l.length - i) (0, 0)
      ⟨by simp, by decide, by simp [xorL]⟩ (.cons rfl (.cons rfl (.cons rfl (.nil _)))) rfl ?_
    rintro ⟨i, n⟩ ⟨hi, hn', hN⟩
    refine ab 1000 rfl trivial ?_
    refine S_dec rfl (fun h => ?_) (fun h => ?_)
    · have hil : i < l.length := by simp [ints] at h; omega
      refine ab 1000 rfl trivial ?_
      refine S_index (.int .i64 l[i]) rfl rfl rfl ⟨rfl, by omega, by simp [ints, List.getElem?_eq_getElem hil], trivial⟩ ?_
      refine ab 1000 rfl trivial ?_
      have hx := hl _ (List.getElem_mem hil)
      refine S_pure rfl rfl rfl (xor2_ok n l[i] hn' hx) (.cons (.refl .int) (.cons (.refl .int) (.cons (.refl (.func (by simp) (by simp))) (.nil _)))) ?_
      refine ab 1000 rfl trivial ?_
      refine S_round (i + 1, xor2 n l[i]) (by show l.length - (i + 1) < l.length - i; omega) ⟨hil, xor2_lt _ _, ?_⟩ (.cons rfl (.cons rfl (.cons (ai64 rfl (by omega)) (.nil _)))) rfl
      show (l.drop (i + 1)).foldl xor2 (xor2 n l[i]) = _
      rw [← hN, List.drop_eq_getElem_cons hil, List.foldl_cons]
    · have hil : i = l.length := by simp [ints] at h; omega
      subst hil
      refine ab 1000 rfl trivial ?_
      refine S_ret ⟨_, _, rfl, trivial, _, rfl, ?_⟩
      rw [← hN]; simp
      exact .refl .int
end Go.Proofs.YtpehmhlgldbeoaaGreatDoor
end
section
set_option linter.unusedVariables false
set_option linter.unusedSimpArgs false
set_option maxRecDepth 20000
namespace Go.Proofs.YtpehmhlgldbeoaaGreatDoor
open Go Go.Ab
theorem xor_half (a b : Nat) : a ^^^ b = (a % 2 + b % 2) % 2 + 2 * ((a / 2) ^^^ (b / 2)) := by
  have h1 : (a ^^^ b) / 2 = (a / 2) ^^^ (b / 2) := by
    have := Nat.shiftRight_xor_distrib (a := a) (b := b) (i := 1)
    simpa [Nat.shiftRight_eq_div_pow] using this
  have h2 : (a ^^^ b) % 2 = (a % 2 + b % 2) % 2 := by
    clear h1
    have h := @Nat.xor_mod_two_eq_one a b
    have hz := Nat.mod_two_eq_zero_or_one (a ^^^ b)
    generalize (a ^^^ b) % 2 = z at *
    rcases Nat.mod_two_eq_zero_or_one a with ha | ha <;> rcases Nat.mod_two_eq_zero_or_one b with hb | hb <;> rw [ha, hb] at h ⊢ <;> rcases hz with rfl | rfl <;> simp at h ⊢
  rw [← h1, ← h2]; omega
theorem bitsN_xor : ∀ k a b, bitsN (fun x y => (x + y) % 2) k a b = (a ^^^ b) % 2 ^ k
  | 0, a, b => by simp [bitsN, Nat.mod_one]
  | k + 1, a, b => by
    rw [bitsN, bitsN_xor k, xor_half a b, Nat.pow_succ, Nat.mul_comm (2 ^ k) 2, Nat.mod_mul]
    have h : (a % 2 + b % 2) % 2 < 2 := Nat.mod_lt _ (by decide)
    generalize (a % 2 + b % 2) % 2 = x at *
    generalize (a / 2) ^^^ (b / 2) = y at *
    have e1 : (x + 2 * y) % 2 = x := by omega
    have e2 : (x + 2 * y) / 2 = y := by omega
    rw [e1, e2]
theorem xor2_eq {a b : Nat} (ha : a < 4294967296) (hb : b < 4294967296) : xor2 a b = a ^^^ b := by
  unfold xor2
  rw [bitsN_xor]
  exact Nat.mod_eq_of_lt (Nat.xor_lt_two_pow (n := 32) ha hb)
theorem xorL_two {a b : Nat} (ha : a < 4294967296) (hb : b < 4294967296) : xorL [a, b] = a ^^^ b := by
  simp only [xorL, List.foldl_cons, List.foldl_nil]
  rw [xor2_eq (by decide) ha, Nat.zero_xor, xor2_eq ha hb]
theorem xorL_three {a b c : Nat} (ha : a < 4294967296) (hb : b < 4294967296) (hc : c < 4294967296) : xorL [a, b, c] = a ^^^ b ^^^ c := by
  simp only [xorL, List.foldl_cons, List.foldl_nil]
  rw [xor2_eq (by decide) ha, Nat.zero_xor, xor2_eq ha hb, xor2_eq (Nat.xor_lt_two_pow (n := 32) ha hb) hc]
end Go.Proofs.YtpehmhlgldbeoaaGreatDoor
end
section
set_option linter.unusedVariables false
set_option linter.unusedSimpArgs false
set_option maxRecDepth 20000
namespace Go.Proofs.YtpehmhlgldbeoaaGreatDoor
open Go Go.Ab
theorem Pow2_ok (m : Nat) (hm : m ≤ 62) : Calc cx 79 [.int .i64 m] (.int .i64 ((2 ^ m : Nat) : Int)) :=
  pure_intro (fun a w => Tryz.call79 a w) Tryz.func79 rfl Tryz.ntmps79 rfl .int fun B => by
    refine ab 1000 rfl trivial ?_
    refine S_while (α := Nat) (fun i => [(0, .int .i64 ((m - i : Nat) : Int)), (3, .int .i64 ((2 ^ i : Nat) : Int))]) (fun _ => []) (fun i => i ≤ m) (fun i => m - i) 0 (Nat.zero_le _) (.cons rfl (.cons rfl (.nil _))) rfl ?_
    intro i hi
    have hp : 2 ^ i ≤ 2 ^ 62 := Nat.pow_le_pow_right (by decide) (by omega)
    refine ab 1000 rfl trivial ?_
    refine S_dec rfl (fun h => ?_) (fun h => ?_)
    · have hil : i < m := by omega
      have hp2 : 2 ^ (i + 1) = 2 * 2 ^ i := by rw [Nat.pow_succ]; omega
      have hp3 : 2 ^ (i + 1) ≤ 2 ^ 62 := Nat.pow_le_pow_right (by decide) (by omega)
      refine ab 1000 rfl trivial ?_
      refine S_round (i + 1) (by show m - (i + 1) < m - i; omega) hil (.cons ?_ (.cons ?_ (.nil _))) rfl
      · exact ai64 (k := m - (i + 1)) (by omega) (by omega)
      · exact ai64 (k := 2 ^ (i + 1)) (by rw [hp2]; rfl) (by omega)
    · have him : i = m := by omega
      subst him
      refine ab 1000 rfl trivial ?_
      exact S_retc .int rfl trivial rfl
end Go.Proofs.YtpehmhlgldbeoaaGreatDoor
end
section
set_option linter.unusedVariables false
set_option linter.unusedSimpArgs false
set_option maxRecDepth 20000
namespace Go.Proofs.YtpehmhlgldbeoaaGreatDoor
open Go Go.Ab
theorem and_half (a b : Nat) : a &&& b = (a % 2) * (b % 2) + 2 * ((a / 2) &&& (b / 2)) := by
  have h1 : (a &&& b) / 2 = (a / 2) &&& (b / 2) := by
    have := Nat.shiftRight_and_distrib (a := a) (b := b) (i := 1)
    simpa [Nat.shiftRight_eq_div_pow] using this
  have h2 : (a &&& b) % 2 = (a % 2) * (b % 2) := by
    have h := @Nat.and_mod_two_eq_one a b
    have hz := Nat.mod_two_eq_zero_or_one (a &&& b)
    clear h1
    generalize (a &&& b) % 2 = z at *
    rcases Nat.mod_two_eq_zero_or_one a with ha | ha <;> rcases Nat.mod_two_eq_zero_or_one b with hb | hb <;> rw [ha, hb] at h ⊢ <;> rcases hz with rfl | rfl <;> simp at h ⊢
  rw [← h1, ← h2]; omega
theorem bitsN_and : ∀ k a b, bitsN (fun x y => x * y) k a b = (a &&& b) % 2 ^ k
  | 0, a, b => by simp [bitsN, Nat.mod_one]
  | k + 1, a, b => by
    rw [bitsN, bitsN_and k, and_half a b, Nat.pow_succ, Nat.mul_comm (2 ^ k) 2, Nat.mod_mul]
    have h : (a % 2) * (b % 2) < 2 := by
      rcases Nat.mod_two_eq_zero_or_one a with ha | ha <;> rcases Nat.mod_two_eq_zero_or_one b with hb | hb <;> rw [ha, hb] <;> decide
    generalize (a % 2) * (b % 2) = x at *
    generalize (a / 2) &&& (b / 2) = y at *
    have e1 : (x + 2 * y) % 2 = x := by omega
    have e2 : (x + 2 * y) / 2 = y := by omega
    rw [e1, e2]
theorem and1_nat (x y : Nat) (hx : x < 2) (hy : y < 2) : x * y < 2 ∧ Calc cx 120 [.int .i64 x, .int .i64 y] (.int .i64 (x * y : Nat)) := by
  have h2 : x * y < 2 := by
    have : x = 0 ∨ x = 1 := by omega
    rcases this with rfl | rfl <;> simp <;> omega
  refine ⟨h2, pure_intro (fun a w => Tryz.call120 a w) Tryz.func120 rfl Tryz.ntmps120 rfl .int fun B => ?_⟩
  refine ab 1000 rfl trivial ?_
  refine S_retc .int rfl trivial ?_
  exact ai64 (by simp) (by omega)
theorem And_ok (a b : Nat) (ha : a < M32) (hb : b < M32) : Calc cx 85 [.int .i64 a, .int .i64 b] (.int .i64 (a &&& b : Nat)) :=
  pure_intro (fun a w => Tryz.call85 a w) Tryz.func85 rfl Tryz.ntmps85 rfl .int fun B => by
    have hc := bits_ok (fun x y => x * y) 120 and1_nat a b ha hb
    rw [bitsN_and, Nat.mod_eq_of_lt (show a &&& b < 2 ^ 32 from Nat.lt_of_le_of_lt Nat.and_le_left ha)] at hc
    refine ab 1000 rfl trivial ?_
    refine S_pure rfl rfl rfl hc (.cons (.refl .int) (.cons (.refl .int) (.cons (.refl (.func (by simp) (by simp))) (.nil _)))) ?_
    refine ab 1000 rfl trivial ?_
    exact S_retc .int rfl trivial rfl
theorem Wrap_ok (n : Nat) (hn : n ≤ 4611686018427387904) : Calc cx 84 [.int .i64 n] (.int .i64 (n % M32 : Nat)) :=
  pure_intro (fun a w => Tryz.call84 a w) Tryz.func84 rfl Tryz.ntmps84 rfl .int fun B => by
    have e : (n : Int).tmod 4294967296 = ((n % M32 : Nat) : Int) := rfl
    refine ab 1000 rfl ⟨by decide, trivial⟩ ?_
    refine S_dec rfl (fun h => ?_) (fun h => ?_)
    · exfalso
      have h : (n : Int).tmod 4294967296 < 0 := h
      rw [e] at h; omega
    · refine ab 1000 rfl trivial ?_
      exact S_retc .int rfl trivial rfl
theorem rotr_sum {x n : Nat} (h1 : n ≤ 32) : x / 2 ^ n + x % 2 ^ n * 2 ^ (32 - n) = rotr x n ∨ M32 ≤ x := by
  rcases Nat.lt_or_ge x M32 with hx | hx
  · left
    have e : M32 = 2 ^ n * 2 ^ (32 - n) := by rw [← Nat.pow_add, show n + (32 - n) = 32 by omega]; rfl
    have e2 : x * 2 ^ (32 - n) % M32 = x % 2 ^ n * 2 ^ (32 - n) := by rw [e, Nat.mul_mod_mul_right]
    have h3 : x / 2 ^ n < 2 ^ (32 - n) := by
      rw [Nat.div_lt_iff_lt_mul (Nat.two_pow_pos n), Nat.mul_comm, ← e]; exact hx
    rw [rotr, e2, Nat.mul_comm (x % 2 ^ n), ← Nat.two_pow_add_eq_or_of_lt h3, Nat.add_comm]
  · exact .inr hx
theorem Right_ok (x n : Nat) (hx : x < M32) (h1 : 1 ≤ n) (h2 : n ≤ 31) : Calc cx 83 [.int .i64 x, .int .i64 n] (.int .i64 (rotr x n : Nat)) :=
  pure_intro (fun a w => Tryz.call83 a w) Tryz.func83 rfl Tryz.ntmps83 rfl .int fun B => by
    have hs := (rotr_sum (x := x) (n := n) (by omega)).resolve_right (by omega)
    have hlt := rotr_lt n hx
    have hw : IntKind.i64.wrap (32 - (n : Int)) = ((32 - n : Nat) : Int) := w64 (by omega) (by omega)
    have p1 : 0 < 2 ^ n := Nat.two_pow_pos n
    have p2 : 0 < 2 ^ (32 - n) := Nat.two_pow_pos _
    have hx' : x < 4294967296 := hx
    have q1 : x / 2 ^ n ≤ x := Nat.div_le_self _ _
    have hlt' : rotr x n < 4294967296 := hlt
    have d1 : IntKind.i64.wrap ((x : Int).tdiv ((2 ^ n : Nat) : Int)) = ((x / 2 ^ n : Nat) : Int) := w64 rfl (by omega)
    have d2 : (x : Int).tmod ((2 ^ n : Nat) : Int) = ((x % 2 ^ n : Nat) : Int) := rfl
    have d0 : x % 2 ^ n * 2 ^ (32 - n) < 4294967296 := Nat.lt_of_le_of_lt (Nat.le_add_left _ _) (hs ▸ hlt')
    have d3 : IntKind.i64.wrap (((x % 2 ^ n : Nat) : Int) * ((2 ^ (32 - n) : Nat) : Int)) = ((x % 2 ^ n * 2 ^ (32 - n) : Nat) : Int) := w64 (by simp) (by generalize x % 2 ^ n * 2 ^ (32 - n) = z at *; omega)
    refine ab 1000 rfl trivial ?_
    refine S_draw 13 [] [.int .i64 ((2 ^ n : Nat) : Int), .int .i64 ((2 ^ n : Nat) : Int), .int .i64 ((2 ^ (32 - n) : Nat) : Int)] rfl rfl rfl rfl ⟨rfl, rfl, ⟨_, Pow2_ok n (by omega), .cons (.refl .int) (.nil _)⟩, rfl, by omega, rfl, rfl, ⟨_, Pow2_ok n (by omega), .cons (.refl .int) (.nil _)⟩, rfl, by omega, rfl, rfl, ⟨_, Pow2_ok (32 - n) (by omega), .cons (by rw [← hw]; exact .refl .int) (.nil _)⟩, rfl, rfl, trivial⟩ ?_
    refine ab 1000 rfl trivial ?_
    refine S_retc .int rfl trivial ?_
    show AV.int .i64 (IntKind.i64.wrap (IntKind.i64.wrap ((x : Int).tdiv ((2 ^ n : Nat) : Int)) + IntKind.i64.wrap ((x : Int).tmod ((2 ^ n : Nat) : Int) * ((2 ^ (32 - n) : Nat) : Int)))) = _
    rw [d2, d1, d3]
    exact ai64 (by rw [← hs]; simp) (by omega)
theorem Constants_ok : Calc cx 80 [] (.sl true true 1 (ints kTab)) :=
  pure_intro (fun a w => Tryz.call80 a w) Tryz.func80 rfl Tryz.ntmps80 rfl (.sl (fun _ => rfl) (by intro x hx; obtain ⟨y, _, rfl⟩ := List.mem_map.1 hx; exact .int)) fun B => by
    refine ab 1000 rfl trivial ?_
    exact S_retc (.sl (fun _ => rfl) (by intro x hx; obtain ⟨y, _, rfl⟩ := List.mem_map.1 hx; exact .int)) rfl trivial rfl
def iB (v : Nat) (l : List Nat) : Nat × Option Box := (v, some (.cells (ints l) ⟨false, none⟩))
theorem Firsts_ok : CallOk cx 81 [] [] (fun o σ' => o = .ret (.ms 0 0 0 8 1 true) ∧ σ' = [iB 0 hTab]) :=
  callOk_intro (fun a w => Tryz.call81 a w) Tryz.func81 rfl Tryz.ntmps81 rfl fun B => by
    refine go (M := [1]) 1000 rfl trivial ?_
    exact S_ret ⟨_, _, rfl, trivial, rfl, rfl⟩
end Go.Proofs.YtpehmhlgldbeoaaGreatDoor
end
section
set_option linter.unusedVariables false
set_option linter.unusedSimpArgs false
set_option maxRecDepth 20000
namespace Go.Proofs.YtpehmhlgldbeoaaGreatDoor
open Go Go.Ab
theorem ints_len (l : List Nat) : (ints l).length = l.length := by simp [ints]
theorem ints_one (l : List Nat) : ∀ x ∈ ints l, x.one = true := by
  intro x hx; obtain ⟨y, _, rfl⟩ := List.mem_map.1 hx; rfl
theorem ints_any {st : Bool} (l : List Nat) : ∀ x ∈ ints l, Free st x := by
  intro x hx; obtain ⟨y, _, rfl⟩ := List.mem_map.1 hx; exact .int
theorem ints_get {l : List Nat} {i : Nat} (h : i < l.length) : (ints l)[i]? = some (.int .i64 (l.getD i 0 : Nat)) := by
  simp [ints, List.getD, h]
theorem ints_ld {l : List Nat} {i : Nat} (h : i < l.length) : ((ints l).drop i)[0]? = some (.int .i64 (l.getD i 0 : Nat)) := by
  simp [ints, List.getD, h]
theorem getD_mid (A : List Nat) (x : Nat) (B : List Nat) : (A ++ x :: B).getD A.length 0 = x := by simp [List.getD]
def WInv (p : List UInt8) (t : Nat) (w : List Nat) : Prop := w.length = t ∧ W32 w ∧ (t ≤ 16 → w = (words p).take t) ∧ (16 ≤ t → sched (64 - t) w = schedOf p)
theorem sum4 {Z a V b : Nat} (hZ : Z < M32) (ha : a < M32) (hV : V < M32) (hb : b < M32) :
    IntKind.i64.wrap (IntKind.i64.wrap (IntKind.i64.wrap ((Z : Int) + (a : Int)) + (V : Int)) + (b : Int)) = ((Z + a + V + b : Nat) : Int) ∧ Z + a + V + b ≤ 4611686018427387904 := by
  simp only [M32] at *
  have e1 : IntKind.i64.wrap ((Z : Int) + (a : Int)) = ((Z + a : Nat) : Int) := w64 (by omega) (by omega)
  have e2 : IntKind.i64.wrap (((Z + a : Nat) : Int) + (V : Int)) = ((Z + a + V : Nat) : Int) := w64 (by omega) (by omega)
  have e3 : IntKind.i64.wrap (((Z + a + V : Nat) : Int) + (b : Int)) = ((Z + a + V + b : Nat) : Int) := w64 (by omega) (by omega)
  rw [e1, e2, e3]
  exact ⟨rfl, by omega⟩
theorem sum5 {Z a V b d : Nat} (hZ : Z < M32) (ha : a < M32) (hV : V < M32) (hb : b < M32) (hd : d < M32) :
    IntKind.i64.wrap (IntKind.i64.wrap (IntKind.i64.wrap (IntKind.i64.wrap ((Z : Int) + (a : Int)) + (V : Int)) + (b : Int)) + (d : Int)) = ((Z + a + V + b + d : Nat) : Int) ∧ Z + a + V + b + d ≤ 4611686018427387904 := by
  obtain ⟨h1, _⟩ := sum4 hZ ha hV hb
  rw [h1]
  simp only [M32] at *
  exact ⟨w64 (by omega) (by omega), by omega⟩
theorem sum2 {Z a : Nat} (hZ : Z < M32) (ha : a < M32 + M32) : IntKind.i64.wrap ((Z : Int) + (a : Int)) = ((Z + a : Nat) : Int) ∧ Z + a ≤ 4611686018427387904 := by
  simp only [M32] at *
  exact ⟨w64 (by omega) (by omega), by omega⟩
theorem lt2 {a : Nat} (h : a < M32) : a < M32 + M32 := Nat.lt_of_lt_of_le h (Nat.le_add_left _ _)
theorem round_eq (v0 v1 v2 v3 v4 v5 v6 v7 kt wt : Nat) : round [v0, v1, v2, v3, v4, v5, v6, v7] (kt + wt) =
    [((v7 + Sig1 v4 + ((v4 &&& v5) ^^^ ((4294967295 - v4) &&& v6)) + kt + wt) % M32 + (Sig0 v0 + ((v0 &&& v1) ^^^ (v0 &&& v2) ^^^ (v1 &&& v2)))) % M32, v0, v1, v2,
      (v3 + (v7 + Sig1 v4 + ((v4 &&& v5) ^^^ ((4294967295 - v4) &&& v6)) + kt + wt) % M32) % M32, v4, v5, v6] := by
  simp only [round, List.getD, List.getElem?_cons_zero, List.getElem?_cons_succ, Option.getD_some]
  rw [Nat.add_mod_mod, ← Nat.add_assoc (v7 + Sig1 v4 + ((v4 &&& v5) ^^^ ((4294967295 - v4) &&& v6))) kt wt]
theorem div32 {X k : Nat} (hX : X < M32) : IntKind.i64.wrap ((X : Int).tdiv (k : Int)) = ((X / k : Nat) : Int) :=
  w64 rfl (by have := Nat.div_le_self X k; simp only [M32] at hX; omega)
set_option maxHeartbeats 8000000 in
theorem SumR_ok (s : List UInt8) (hs : s.length ≤ 70368744177664) : Calc cx 52 [.str s] (.str (sha s)) :=
  pure_intro (fun a w => Tryz.call52 a w) Tryz.func52 rfl Tryz.ntmps52 rfl .str fun B => by
    refine go (M := [30]) 1000 rfl ⟨?_, ?_, ?_, rfl, rfl, allOne_mem (cs := [.int .u8 128]) rfl, allOne_mem (cs := [.int .u8 128]) rfl, rfl, trivial⟩ ?_
    · show s.length + 1 ≤ 9223372036854775807; omega
    · show (s.length + 1) * 1 ≤ 140737488355328; omega
    · show 0 + s.length * 1 = (s.map byteAV).length; simp
    have hbl : ∀ k, ((s ++ [128] ++ List.replicate k (0 : UInt8))).length = s.length + 1 + k := fun k => by simp; omega
    have hpl : padLen s.length < 64 := Nat.mod_lt _ (by decide)
    refine S_while (α := Nat × Nat) (fun (u, k) => [(0, .str s), (3, .ms 0 u 0 (s.length + 1 + k) 1 false)]) (fun (u, k) => [bB u (s ++ [128] ++ List.replicate k 0) ⟨false, some 5⟩])
      (fun (u, k) => k ≤ padLen s.length) (fun (u, k) => padLen s.length - k) (1, 0)
      (Nat.zero_le _) (.cons rfl (.cons rfl (.nil _))) (by simp only [bB, List.replicate_zero, List.append_nil, List.map_append, List.map_cons, List.map_nil]; rfl) ?_
    rintro ⟨u, k⟩ hk
    refine ab 1000 rfl ⟨by decide, trivial⟩ ?_
    have hmod : (((s.length + 1 + k : Nat) : Int)).tmod 64 = (((s.length + 1 + k) % 64 : Nat) : Int) := rfl
    refine S_bne rfl (fun h56 => ?_) (fun h56 => ?_)
    · have h56 : (s.length + 1 + k) % 64 ≠ 56 := by
        have : ((((s.length + 1 + k : Nat) : Int)).tmod 64) ≠ 56 := h56
        rw [hmod] at this; omega
      have hkl : k < padLen s.length := by unfold padLen at *; omega
      refine ab 1000 rfl ⟨?_, ?_, ?_, rfl, rfl, allOne_mem (cs := [.int .u8 0]) rfl, allOne_mem (cs := [.int .u8 0]) rfl, rfl, trivial⟩ ?_
      · show s.length + 1 + k + 1 ≤ 9223372036854775807; omega
      · show (s.length + 1 + k + 1) * 1 ≤ 140737488355328; omega
      · show 0 + (s.length + 1 + k) * 1 = ((s ++ [128] ++ List.replicate k (0 : UInt8)).map byteAV).length
        rw [List.length_map, hbl]; omega
      refine S_round (u + 1, k + 1) (by show padLen s.length - (k + 1) < padLen s.length - k; omega) hkl (.cons rfl (.cons rfl (.nil _))) ?_
      show [(u + 1, some (Box.cells ((s ++ [128] ++ List.replicate k (0 : UInt8)).map byteAV ++ [.int .u8 0]) _))] = [bB (u + 1) (s ++ [128] ++ List.replicate (k + 1) 0) _]
      rw [List.replicate_succ', ← List.append_assoc]
      simp only [bB, List.map_append, List.map_cons, List.map_nil]
      rfl
    have h56 : (s.length + 1 + k) % 64 = 56 := by
      have : ((((s.length + 1 + k : Nat) : Int)).tmod 64) = 56 := h56
      rw [hmod] at this; omega
    have hkl : k = padLen s.length := by unfold padLen at *; omega
    subst hkl
    obtain ⟨base, hbase⟩ : ∃ base, base = s ++ [128] ++ List.replicate (padLen s.length) (0 : UInt8) := ⟨_, rfl⟩
    have hbl' : base.length = s.length + 1 + padLen s.length := by rw [hbase]; exact hbl _
    have hpd : padded s = base ++ be8 (8 * s.length) := by rw [hbase]; rfl
    have hw8 : IntKind.i64.wrap (8 * (s.length : Int)) = ((8 * s.length : Nat) : Int) := w64 (by omega) (by omega)
    refine ab 1000 rfl trivial ?_
    refine S_while (α := Nat × Nat) (fun (u, j) => [(3, .ms 0 u 0 (base.length + j) 1 false), (4, .int .i64 (8 * s.length : Nat)), (5, .int .i64 (7 - (j : Int)))]) (fun (u, j) => [bB u (base ++ (be8 (8 * s.length)).take j) ⟨false, some 5⟩])
      (fun (u, j) => j ≤ 8) (fun (u, j) => 8 - j) (u, 0)
      (Nat.zero_le _) (.cons (by rw [hbl']; rfl) (.cons (ai64 (by omega) (by omega)) (.cons rfl (.nil _)))) (by rw [hbase]; simp) ?_
    rintro ⟨u, j⟩ hj
    refine ab 1000 rfl trivial ?_
    refine S_dec rfl (fun hlt => ?_) (fun hlt => ?_)
    · have hj8 : j < 8 := by omega
      have hw3 : IntKind.i64.wrap (8 * (7 - (j : Int))) = ((8 * (7 - j) : Nat) : Int) := w64 (by omega) (by omega)
      refine ab 1000 rfl trivial ?_
      refine S_pure rfl rfl rfl (Pow2_ok (8 * (7 - j)) (by omega)) (.cons (by show Frz false _ (AV.int .i64 (IntKind.i64.wrap (8 * (7 - (j : Int))))) _; rw [hw3]; exact .refl .int) (.nil _)) ?_
      have hp0 : 0 < 2 ^ (8 * (7 - j)) := Nat.two_pow_pos _
      have e256 : (2 : Nat) ^ (8 * (7 - j)) = 256 ^ (7 - j) := by rw [show (256 : Nat) = 2 ^ 8 from rfl, ← Nat.pow_mul]
      have hval : AV.int .u8 (IntKind.u8.wrap ((IntKind.i64.wrap (((8 * s.length : Nat) : Int).tdiv ((2 ^ (8 * (7 - j)) : Nat) : Int))).tmod 256)) = byteAV (UInt8.ofNat (8 * s.length / 256 ^ (7 - j) % 256)) := by
        have hd : IntKind.i64.wrap (((8 * s.length : Nat) : Int).tdiv ((2 ^ (8 * (7 - j)) : Nat) : Int)) = ((8 * s.length / 256 ^ (7 - j) : Nat) : Int) := by
          rw [← e256]
          exact w64 rfl (by have := Nat.div_le_self (8 * s.length) (2 ^ (8 * (7 - j))); omega)
        rw [hd]
        show AV.int .u8 (IntKind.u8.wrap ((8 * s.length / 256 ^ (7 - j) % 256 : Nat) : Int)) = _
        rw [wrap_low rfl]
        exact byteAV_of (by simp [IntKind.bits]) (Nat.mod_lt _ (by decide))
      refine ab 1000 rfl ⟨?_, ?_, ?_, rfl, rfl, ?_, ?_, rfl, by decide, by omega, trivial⟩ ?_
      · show base.length + j + 1 ≤ 9223372036854775807; omega
      · show (base.length + j + 1) * 1 ≤ 140737488355328; omega
      · show 0 + (base.length + j) * 1 = ((base ++ (be8 (8 * s.length)).take j).map byteAV).length
        simp [be8]; omega
      · exact allOne_mem (cs := [.int .u8 _]) rfl
      · exact allOne_mem (cs := [.int .u8 _]) rfl
      refine S_round (u + 1, j + 1) (by show 8 - (j + 1) < 8 - j; omega) hj8 (.cons rfl (.cons rfl (.cons ?_ (.nil _)))) ?_
      · show AV.int .i64 (IntKind.i64.wrap (7 - (j : Int) - 1)) = .int .i64 (7 - ((j + 1 : Nat) : Int))
        exact ai64i (by omega) (by omega)
      · show [(u + 1, some (Box.cells ((base ++ (be8 (8 * s.length)).take j).map byteAV ++ [AV.int .u8 (IntKind.u8.wrap ((IntKind.i64.wrap (((8 * s.length : Nat) : Int).tdiv ((2 ^ (8 * (7 - j)) : Nat) : Int))).tmod 256))]) _))] = [bB (u + 1) (base ++ (be8 (8 * s.length)).take (j + 1)) _]
        rw [hval]
        have ht : (be8 (8 * s.length)).take (j + 1) = (be8 (8 * s.length)).take j ++ [UInt8.ofNat (8 * s.length / 256 ^ (7 - j) % 256)] := by
          rw [List.take_succ_eq_append_getElem (by simp [be8]; omega)]
          simp [be8]
        rw [ht]
        simp only [bB, List.map_append, List.map_cons, List.map_nil, List.append_assoc]
        rfl
    have hj8 : j = 8 := by omega
    subst hj8
    have htake : base ++ (be8 (8 * s.length)).take 8 = padded s := by rw [hpd, List.take_of_length_le (by simp [be8])]
    have hPl : (padded s).length = base.length + 8 := by rw [hpd, List.length_append]; simp [be8]
    have hPm := padded_mod s
    have hPb : (padded s).length ≤ 140737488355328 := by rw [padded_len]; omega
    refine S_heap [bB u (padded s) ⟨false, some 5⟩] (by rw [← htake]) ?_
    refine ab 1000 rfl trivial ?_
    refine S_pure rfl rfl rfl Constants_ok (.nil _) ?_
    refine ab 1000 rfl trivial ?_
    refine S_callf [] Firsts_ok rfl (.nil _) (Part.mk' (es := []) rfl rfl (.nil _)) rfl rfl ?_ (by rintro y σ1 ⟨h1, _⟩; cases h1)
    rintro y σ1 ⟨h1, rfl⟩
    cases h1
    refine ⟨.ms 1 0 0 8 1 true, [iB 0 hTab], .cons (.live (.cells (Rns.free (ints_any _)))) (.nil _), .ms rfl, ?_⟩
    refine S_heap [bB u (padded s) ⟨false, some 5⟩, iB 0 hTab] rfl ?_
    refine ab 1000 rfl trivial ?_
    refine S_dead ?_ ⟨_, _, .inl rfl⟩
    refine S_dead ?_ ⟨_, _, .inl rfl⟩
    refine S_dead ?_ ⟨_, _, .inl rfl⟩
    obtain ⟨P, hP⟩ : ∃ P, P = padded s := ⟨_, rfl⟩
    rw [← hP] at hPl hPm hPb ⊢
    have hHs : hashOf s = blocks (P.length / 64) hTab P := by rw [hP]; rfl
    refine S_while (α := Nat × List Nat × Nat × Nat × Nat) (fun (m, h, a, b, c) => [(3, .ms 0 u 0 P.length 1 false), (6, .sl true true 1 (ints kTab)), (7, .ms 1 0 0 8 1 true), (8, .int .i64 (64 * m : Nat))])
      (fun (m, h, a, b, c) => [bB u P ⟨false, some 5⟩, iB 0 h, (a, none), (b, none), (c, none)])
      (fun (m, h, a, b, c) => 64 * m ≤ P.length ∧ h.length = 8 ∧ W32 h ∧ blocks (P.length / 64 - m) h (P.drop (64 * m)) = hashOf s) (fun (m, h, a, b, c) => P.length - 64 * m) (0, hTab, 0, 0, 0)
      ⟨Nat.zero_le _, rfl, by show ∀ x ∈ hTab, x < M32; decide +kernel, by rw [hHs]; rfl⟩ (.cons (by rw [hPl]; rfl) (.cons rfl (.cons rfl (.cons rfl (.nil _))))) rfl ?_
    rintro ⟨m, h, a, b, c⟩ ⟨hm, hhl, hh32, hN⟩
    refine ab 1000 rfl trivial ?_
    refine S_dec rfl (fun hlt => ?_) (fun hlt => ?_)
    · have hm64 : 64 * m + 64 ≤ P.length := by omega
      obtain ⟨p, hp⟩ : ∃ p, p = P.drop (64 * m) := ⟨_, rfl⟩
      have hpl : 64 ≤ p.length := by rw [hp, List.length_drop]; omega
      have hpg : ∀ i, i < 64 → P.getD (64 * m + i) 0 = p.getD i 0 := by
        intro i hi
        rw [hp]
        simp [List.getD]
      refine ab 1000 rfl trivial ?_
      refine S_ghostF (t := 9) 1 ⟨false, none⟩ rfl rfl ⟨_, _, .inl rfl⟩ ?_
      refine S_while (α := Nat × List Nat × Nat) (fun (t, w, x) => [(3, .ms 0 u 0 P.length 1 false), (6, .sl true true 1 (ints kTab)), (7, .ms 1 0 0 8 1 true), (8, .int .i64 (64 * m : Nat)), (9, .ms 2 x 0 t 1 false), (10, .int .i64 (t : Nat))])
        (fun (t, w, x) => [bB u P ⟨false, some 5⟩, iB 0 h, iB x w, (b, none), (c, none)])
        (fun (t, w, x) => t ≤ 64 ∧ WInv p t w) (fun (t, w, x) => 64 - t) (0, [], a + 1)
        ⟨Nat.zero_le _, rfl, (by intro y hy; cases hy), fun _ => rfl, fun h => absurd h (by decide)⟩ (.cons rfl (.cons rfl (.cons rfl (.cons rfl (.cons rfl (.cons rfl (.nil _))))))) rfl ?_
      rintro ⟨t, w, x⟩ ⟨ht64, hwl, hw32, hw16, hws⟩
      have ht64 : t ≤ 64 := ht64
      refine ab 1000 rfl trivial ?_
      refine S_dec rfl (fun hlt => ?_) (fun hlt => ?_)
      · have ht : t < 64 := by omega
        refine ab 1000 rfl trivial ?_
        refine S_dec rfl (fun hlt => ?_) (fun hlt => ?_)
        · have ht16 : t < 16 := by omega
          have hw0 := hw16 (by omega)
          refine ab 1000 rfl trivial ?_
          refine S_while (α := Nat) (fun j => [(3, .ms 0 u 0 P.length 1 false), (6, .sl true true 1 (ints kTab)), (7, .ms 1 0 0 8 1 true), (8, .int .i64 (64 * m : Nat)), (9, .ms 2 x 0 t 1 false), (10, .int .i64 (t : Nat)), (11, .int .i64 (accW p (4 * t) j : Nat)), (12, .int .i64 (j : Nat))])
            (fun j => [bB u P ⟨false, some 5⟩, iB 0 h, iB x w, (b, none), (c, none)]) (fun j => j ≤ 4) (fun j => 4 - j) 0
            (Nat.zero_le _) (.cons rfl (.cons rfl (.cons rfl (.cons rfl (.cons rfl (.cons rfl (.cons rfl (.cons rfl (.nil _))))))))) rfl ?_
          intro j hj
          refine ab 1000 rfl trivial ?_
          refine S_dec rfl (fun hlt => ?_) (fun hlt => ?_)
          · have hj4 : j < 4 := by omega
            have hacc := accW_lt p (4 * t) j
            have hap : 256 ^ j ≤ 256 ^ 3 := Nat.pow_le_pow_right (by decide) (by omega)
            have hi1 : IntKind.i64.wrap (4 * (t : Int)) = ((4 * t : Nat) : Int) := w64 (by omega) (by omega)
            have hi2 : IntKind.i64.wrap (((64 * m : Nat) : Int) + ((4 * t : Nat) : Int)) = ((64 * m + 4 * t : Nat) : Int) := w64 (by omega) (by omega)
            have hi3 : IntKind.i64.wrap (((64 * m + 4 * t : Nat) : Int) + (j : Int)) = ((64 * m + (4 * t + j) : Nat) : Int) := w64 (by omega) (by omega)
            refine ab 1000 rfl trivial ?_
            refine S_index .top rfl rfl rfl ⟨rfl, by rw [hi1, hi2, hi3]; omega, by rw [hi1, hi2, hi3]; omega, trivial⟩ ?_
            refine S_load (byteAV (p.getD (4 * t + j) 0)) rfl rfl rfl ⟨rfl, ?_, trivial⟩ ?_
            · show ((P.map byteAV).drop (offN 0 (mulN (IntKind.i64.wrap (IntKind.i64.wrap (((64 * m : Nat) : Int) + IntKind.i64.wrap (4 * (t : Int))) + (j : Int))).toNat 1)))[0]? = _
              rw [hi1, hi2, hi3, offN_eq, mulN_eq, Int.toNat_natCast, Nat.mul_one, Nat.zero_add, bytes_ld (by omega), hpg _ (by omega)]
            refine ab 1000 rfl trivial ?_
            have hb8 := (p.getD (4 * t + j) 0).toNat_lt
            refine S_round (j + 1) (by show 4 - (j + 1) < 4 - j; omega) hj4 (.cons rfl (.cons rfl (.cons rfl (.cons rfl (.cons rfl (.cons rfl (.cons ?_ (.cons (ai64 rfl (by omega)) (.nil _))))))))) rfl
            show AV.int .i64 (IntKind.i64.wrap (IntKind.i64.wrap (256 * ((accW p (4 * t) j : Nat) : Int)) + IntKind.i64.wrap (((p.getD (4 * t + j) 0).toNat : Nat) : Int))) = .int .i64 (accW p (4 * t) (j + 1) : Nat)
            rw [w64 (x := 256 * ((accW p (4 * t) j : Nat) : Int)) (k := 256 * accW p (4 * t) j) (by omega) (by omega), w64 (k := (p.getD (4 * t + j) 0).toNat) rfl (by omega)]
            exact ai64 (by rw [accW]; omega) (by rw [accW]; omega)
          · have hj4 : j = 4 := by omega
            subst hj4
            have hacc := accW_lt p (4 * t) 4
            refine ab 1000 rfl ⟨?_, ?_, ?_, rfl, rfl, ?_, ?_, rfl, trivial⟩ ?_
            · show t + 1 ≤ 9223372036854775807; omega
            · show (t + 1) * 8 ≤ 140737488355328; omega
            · show 0 + t * 1 = (ints w).length; rw [ints_len]; omega
            · exact allOne_mem (cs := [.int .i64 _]) rfl
            · exact allOne_mem (cs := [.int .i64 _]) rfl
            have hnext : (words p).take (t + 1) = w ++ [accW p (4 * t) 4] := by
              rw [List.take_succ_eq_append_getElem (by rw [words_len]; exact ht16), words_get p ht16, ← hw0]
            refine S_round (t + 1, w ++ [accW p (4 * t) 4], x + 1) (by show 64 - (t + 1) < 64 - t; omega) ⟨by omega, by simp [hwl], hw32.app (.one hacc), fun _ => hnext.symm, fun h => ?_⟩ (.cons rfl (.cons rfl (.cons rfl (.cons rfl (.cons rfl (.cons (ai64 rfl (by omega)) (.nil _))))))) ?_
            · have h15 : t + 1 = 16 := by omega
              rw [← hnext, h15, List.take_of_length_le (by rw [words_len]; exact Nat.le_refl _)]; rfl
            · show [bB u P _, iB 0 h, (x + 1, some (Box.cells (ints w ++ [.int .i64 (accW p (4 * t) 4 : Nat)]) ⟨false, none⟩)), (b, none), (c, none)] = _
              simp [iB, ints]
        · have ht16 : 16 ≤ t := by omega
          have hi15 : IntKind.i64.wrap ((t : Int) - 15) = ((t - 15 : Nat) : Int) := w64 (by omega) (by omega)
          have hi2 : IntKind.i64.wrap ((t : Int) - 2) = ((t - 2 : Nat) : Int) := w64 (by omega) (by omega)
          have hi16 : IntKind.i64.wrap ((t : Int) - 16) = ((t - 16 : Nat) : Int) := w64 (by omega) (by omega)
          have hi7 : IntKind.i64.wrap ((t : Int) - 7) = ((t - 7 : Nat) : Int) := w64 (by omega) (by omega)
          have g15 : 0 ≤ IntKind.i64.wrap ((t : Int) - 15) ∧ IntKind.i64.wrap ((t : Int) - 15) < (t : Int) ∧ t - 15 < t := by rw [hi15]; omega
          have g2 : 0 ≤ IntKind.i64.wrap ((t : Int) - 2) ∧ IntKind.i64.wrap ((t : Int) - 2) < (t : Int) ∧ t - 2 < t := by rw [hi2]; omega
          have g16 : 0 ≤ IntKind.i64.wrap ((t : Int) - 16) ∧ IntKind.i64.wrap ((t : Int) - 16) < (t : Int) ∧ t - 16 < t := by rw [hi16]; omega
          have g7 : 0 ≤ IntKind.i64.wrap ((t : Int) - 7) ∧ IntKind.i64.wrap ((t : Int) - 7) < (t : Int) ∧ t - 7 < t := by rw [hi7]; omega
          have k1 : t + 1 ≤ 9223372036854775807 ∧ (t + 1) * 8 ≤ 140737488355328 ∧ 0 + t * 1 = (ints w).length := by rw [ints_len]; omega
          have k2 : 64 - (t + 1) < 64 - t ∧ t + 1 ≤ 64 ∧ ¬ t + 1 ≤ 16 ∧ (w ++ [wNext w]).length = t + 1 := by rw [List.length_append]; simp only [List.length_cons, List.length_nil]; omega
          have k3 : AV.int .i64 (IntKind.i64.wrap ((t : Int) + 1)) = .int .i64 ((t + 1 : Nat) : Int) := ai64 rfl (by omega)
          have k4 : 64 - t = (64 - (t + 1)) + 1 := by omega
          have ld : ∀ (i : Int) (k : Nat), i = (k : Int) → k < t → ((ints w).drop (offN 0 (mulN i.toNat 1)))[0]? = some (.int .i64 (w.getD k 0 : Nat)) := by
            intro i k hi hk
            rw [hi, offN_eq, mulN_eq, Int.toNat_natCast, Nat.mul_one, Nat.zero_add, ints_ld (by omega)]
          obtain ⟨X, hX⟩ : ∃ X, X = w.getD (t - 15) 0 := ⟨_, rfl⟩
          obtain ⟨Y, hY⟩ : ∃ Y, Y = w.getD (t - 2) 0 := ⟨_, rfl⟩
          obtain ⟨Z, hZ⟩ : ∃ Z, Z = w.getD (t - 16) 0 := ⟨_, rfl⟩
          obtain ⟨V, hV⟩ : ∃ V, V = w.getD (t - 7) 0 := ⟨_, rfl⟩
          have hX32 : X < M32 := by rw [hX]; exact hw32.getD _
          have hY32 : Y < M32 := by rw [hY]; exact hw32.getD _
          have hZ32 : Z < M32 := by rw [hZ]; exact hw32.getD _
          have hV32 : V < M32 := by rw [hV]; exact hw32.getD _
          refine ab 1000 rfl trivial ?_
          refine S_draw 12 [] [.top, .int .i64 (X : Nat), .top, .int .i64 (Y : Nat)] rfl rfl rfl rfl ⟨rfl, rfl, rfl, rfl, g15.1, g15.2.1, rfl, (by rw [hX]; exact ld _ _ hi15 g15.2.2), rfl, rfl, rfl, rfl, g2.1, g2.2.1, rfl, (by rw [hY]; exact ld _ _ hi2 g2.2.2), rfl, rfl, trivial⟩ ?_
          refine ab 1000 rfl trivial ?_
          refine S_pure rfl rfl rfl (Right_ok X 7 hX32 (by decide) (by decide)) (.cons (.refl .int) (.cons (.refl .int) (.nil _))) ?_
          refine ab 1000 rfl trivial ?_
          refine S_pure rfl rfl rfl (Right_ok X 18 hX32 (by decide) (by decide)) (.cons (.refl .int) (.cons (.refl .int) (.nil _))) ?_
          refine ab 1000 rfl ⟨by decide, trivial⟩ ?_
          have hx8 : IntKind.i64.wrap ((X : Int).tdiv 8) = ((X / 8 : Nat) : Int) := div32 (k := 8) hX32
          have hs0 : Calc cx 82 [.sl true true 1 (ints [rotr X 7, rotr X 18, X / 8])] (.int .i64 (sig0 X : Nat)) := by
            have := xor_ok (st := true) (fl := true) [rotr X 7, rotr X 18, X / 8] (by intro y hy; simp at hy; rcases hy with rfl | rfl | rfl; exact rotr_lt _ hX32; exact rotr_lt _ hX32; exact div_lt _ hX32) (by simp)
            rwa [xorL_three (rotr_lt _ hX32) (rotr_lt _ hX32) (div_lt _ hX32)] at this
          refine S_pure rfl rfl rfl hs0 (.cons ?_ (.nil _)) ?_
          · show Frz false _ (.sl true true 1 [.int .i64 (rotr X 7 : Nat), .int .i64 (rotr X 18 : Nat), .int .i64 (IntKind.i64.wrap ((X : Int).tdiv 8))]) _
            rw [hx8]; exact .refl (.sl (fun h => by cases h) (ints_any [rotr X 7, rotr X 18, X / 8]))
          refine ab 1000 rfl trivial ?_
          refine S_pure rfl rfl rfl (Right_ok Y 17 hY32 (by decide) (by decide)) (.cons (.refl .int) (.cons (.refl .int) (.nil _))) ?_
          refine ab 1000 rfl trivial ?_
          refine S_pure rfl rfl rfl (Right_ok Y 19 hY32 (by decide) (by decide)) (.cons (.refl .int) (.cons (.refl .int) (.nil _))) ?_
          refine ab 1000 rfl ⟨by decide, trivial⟩ ?_
          have hy10 : IntKind.i64.wrap ((Y : Int).tdiv 1024) = ((Y / 1024 : Nat) : Int) := div32 (k := 1024) hY32
          have hs1 : Calc cx 82 [.sl true true 1 (ints [rotr Y 17, rotr Y 19, Y / 1024])] (.int .i64 (sig1 Y : Nat)) := by
            have := xor_ok (st := true) (fl := true) [rotr Y 17, rotr Y 19, Y / 1024] (by intro y hy; simp at hy; rcases hy with rfl | rfl | rfl; exact rotr_lt _ hY32; exact rotr_lt _ hY32; exact div_lt _ hY32) (by simp)
            rwa [xorL_three (rotr_lt _ hY32) (rotr_lt _ hY32) (div_lt _ hY32)] at this
          refine S_pure rfl rfl rfl hs1 (.cons ?_ (.nil _)) ?_
          · show Frz false _ (.sl true true 1 [.int .i64 (rotr Y 17 : Nat), .int .i64 (rotr Y 19 : Nat), .int .i64 (IntKind.i64.wrap ((Y : Int).tdiv 1024))]) _
            rw [hy10]; exact .refl (.sl (fun h => by cases h) (ints_any [rotr Y 17, rotr Y 19, Y / 1024]))
          refine ab 1000 rfl trivial ?_
          obtain ⟨hsum, hsle⟩ := sum4 hZ32 (sig0_lt hX32) hV32 (sig1_lt hY32)
          have hnx : wNext w = (Z + sig0 X + V + sig1 Y) % M32 := by rw [wNext, hwl, hX, hY, hZ, hV]
          refine S_draw 18 [] [.top, .int .i64 (Z : Nat), .top, .int .i64 (V : Nat), .int .i64 (wNext w : Nat)] rfl rfl rfl rfl ⟨rfl, rfl, rfl, rfl, rfl, g16.1, g16.2.1, rfl, (by rw [hZ]; exact ld _ _ hi16 g16.2.2), rfl, rfl, rfl, rfl, rfl, rfl, g7.1, g7.2.1, rfl, (by rw [hV]; exact ld _ _ hi7 g7.2.2), rfl, rfl, rfl, ⟨_, (by rw [hnx]; exact Wrap_ok (Z + sig0 X + V + sig1 Y) hsle), .cons (by show Frz false _ (.int .i64 (IntKind.i64.wrap (IntKind.i64.wrap (IntKind.i64.wrap ((Z : Int) + ((sig0 X : Nat) : Int)) + (V : Int)) + ((sig1 Y : Nat) : Int)))) _; rw [hsum]; exact .refl .int) (.nil _)⟩, rfl, trivial⟩ ?_
          refine ab 1000 rfl ⟨k1.1, k1.2.1, k1.2.2, rfl, rfl, allOne_mem (cs := [.int .i64 _]) rfl, allOne_mem (cs := [.int .i64 _]) rfl, rfl, trivial⟩ ?_
          refine S_round (t + 1, w ++ [wNext w], x + 1) k2.1 ⟨k2.2.1, k2.2.2.2, hw32.app (.one (wNext_lt w)), fun h => absurd h k2.2.2.1, fun _ => ?_⟩ (.cons rfl (.cons rfl (.cons rfl (.cons rfl (.cons rfl (.cons k3 (.nil _))))))) ?_
          · have := hws ht16
            rw [k4, sched] at this
            exact this
          · show [bB u P _, iB 0 h, (x + 1, some (Box.cells (ints w ++ [.int .i64 (wNext w : Nat)]) ⟨false, none⟩)), (b, none), (c, none)] = _
            simp [iB, ints]
      · have ht : t = 64 := by omega
        subst ht
        have hW : w = schedOf p := hws (by decide)
        have hWl : w.length = 64 := hwl
        refine go (M := [137]) 1000 rfl ⟨by decide, ?_, .inl (by decide), ?_, rfl, rfl, fun y hy => ints_one h y (List.mem_of_mem_take hy), ?_, rfl, rfl, trivial⟩ ?_
        · show (0 + 8) * 8 ≤ 140737488355328; decide
        · exact Nat.zero_le _
        · show 0 + 8 * 1 ≤ (ints h).length; rw [ints_len]; omega
        refine S_drop (id := 3) rfl ?_ ⟨_, _, .inl rfl⟩
        refine S_heap [bB u P ⟨false, some 5⟩, iB 0 h, iB x w, (b + 1, none), iB (c + 1) h] ?_ ?_
        · show [_, _, _, (b + 1, none), (c + 1, some (Box.cells ((ints h).take 8) ⟨false, none⟩))] = _
          rw [List.take_of_length_le (by rw [ints_len]; omega)]; rfl
        refine S_freeze1 (t := 17) (id := 4) (len := 8) rfl rfl (by rw [ints_len]; exact hhl) (ints_one h) (ints_any h) ⟨_, _, .inl rfl⟩ ?_
        refine S_while (α := Nat × List Nat × Bool × Bool) (fun (t, v, st, fl) => [(3, .ms 0 u 0 P.length 1 false), (6, .sl true true 1 (ints kTab)), (7, .ms 1 0 0 8 1 true), (8, .int .i64 (64 * m : Nat)), (9, .ms 2 x 0 64 1 false), (17, .sl st fl 1 (ints v)), (18, .int .i64 (t : Nat))])
          (fun (t, v, st, fl) => [bB u P ⟨false, some 5⟩, iB 0 h, iB x w, (b + 1, none), (c + 1, none)])
          (fun (t, v, st, fl) => t ≤ 64 ∧ v.length = 8 ∧ W32 v ∧ rounds (64 - t) t w v = rounds 64 0 w h) (fun (t, v, st, fl) => 64 - t) (0, h, false, false)
          ⟨Nat.zero_le _, hhl, hh32, rfl⟩ (.cons rfl (.cons rfl (.cons rfl (.cons rfl (.cons rfl (.cons rfl (.cons rfl (.nil _)))))))) rfl ?_
        rintro ⟨t, v, st, fl⟩ ⟨ht64, hvl, hv32, hvN⟩
        have ht64 : t ≤ 64 := ht64
        have hvl : v.length = 8 := hvl
        refine ab 1000 rfl trivial ?_
        refine S_dec rfl (fun hlt => ?_) (fun hlt => ?_)
        · have ht : t < 64 := by omega
          obtain ⟨v0, v1, v2, v3, v4, v5, v6, v7, rfl⟩ : ∃ v0 v1 v2 v3 v4 v5 v6 v7, v = [v0, v1, v2, v3, v4, v5, v6, v7] := by
            match v, hvl with
            | [v0, v1, v2, v3, v4, v5, v6, v7], _ => exact ⟨_, _, _, _, _, _, _, _, rfl⟩
          have q0 : v0 < M32 := hv32 _ (by simp)
          have q1 : v1 < M32 := hv32 _ (by simp)
          have q2 : v2 < M32 := hv32 _ (by simp)
          have q3 : v3 < M32 := hv32 _ (by simp)
          have q4 : v4 < M32 := hv32 _ (by simp)
          have q5 : v5 < M32 := hv32 _ (by simp)
          have q6 : v6 < M32 := hv32 _ (by simp)
          have q7 : v7 < M32 := hv32 _ (by simp)
          have qn : 4294967295 - v4 < M32 := by simp only [M32]; omega
          obtain ⟨kt, hkt⟩ : ∃ kt, kt = kTab.getD t 0 := ⟨_, rfl⟩
          obtain ⟨wt, hwt⟩ : ∃ wt, wt = w.getD t 0 := ⟨_, rfl⟩
          have qk : kt < M32 := by rw [hkt]; exact kTab32.getD _
          have qw : wt < M32 := by rw [hwt]; exact hw32.getD _
          have hkg : (ints kTab)[(t : Int).toNat]? = some (.int .i64 (kt : Nat)) := by rw [Int.toNat_natCast, hkt]; exact ints_get (by show t < 64; exact ht)
          have hwg : ((ints w).drop (offN 0 (mulN (t : Int).toNat 1)))[0]? = some (.int .i64 (wt : Nat)) := by
            rw [offN_eq, mulN_eq, Int.toNat_natCast, Nat.mul_one, Nat.zero_add, hwt, ints_ld (by omega)]
          have hnw : IntKind.i64.wrap (4294967295 - (v4 : Int)) = ((4294967295 - v4 : Nat) : Int) := w64 (by simp only [M32] at q4; omega) (by omega)
          have t1 : 0 ≤ (t : Int) ∧ (t : Int) < 64 := by omega
          have t2 : 64 - (t + 1) < 64 - t ∧ t + 1 ≤ 64 := by omega
          have t3 : AV.int .i64 (IntKind.i64.wrap ((t : Int) + 1)) = .int .i64 ((t + 1 : Nat) : Int) := ai64 rfl (by omega)
          have t4 : 64 - t = (64 - (t + 1)) + 1 := by omega
          have xor2c : ∀ {a b : Nat}, a < M32 → b < M32 → Calc cx 82 [.sl true true 1 (ints [a, b])] (.int .i64 (a ^^^ b : Nat)) := fun {a b} ha hb => by
            have := xor_ok (st := true) (fl := true) [a, b] (by intro y hy; simp at hy; rcases hy with rfl | rfl; exact ha; exact hb) (by simp)
            rwa [xorL_two ha hb] at this
          have xor3c : ∀ {a b c : Nat}, a < M32 → b < M32 → c < M32 → Calc cx 82 [.sl true true 1 (ints [a, b, c])] (.int .i64 (a ^^^ b ^^^ c : Nat)) := fun {a b c} ha hb hc => by
            have := xor_ok (st := true) (fl := true) [a, b, c] (by intro y hy; simp at hy; rcases hy with rfl | rfl | rfl; exact ha; exact hb; exact hc) (by simp)
            rwa [xorL_three ha hb hc] at this
          refine ab 1000 rfl trivial ?_
          have z0 : (0 : Int) ≤ 0 := Int.le_refl _
          have z1 : (0 : Int) ≤ 1 := by decide
          have z2 : (0 : Int) ≤ 2 := by decide
          have z3 : (0 : Int) ≤ 3 := by decide
          have z4 : (0 : Int) ≤ 4 := by decide
          have z5 : (0 : Int) ≤ 5 := by decide
          have z6 : (0 : Int) ≤ 6 := by decide
          have z7 : (0 : Int) ≤ 7 := by decide
          have i2 : ∀ {σ : Heap} {a b : Nat}, Frzs σ [.int .i64 (a : Nat), .int .i64 (b : Nat)] [.int .i64 (a : Nat), .int .i64 (b : Nat)] := .cons (.refl .int) (.cons (.refl .int) (.nil _))
          have sl3 : ∀ {σ : Heap} {a b c : Nat}, Frzs σ [.sl true true 1 (ints [a, b, c])] [.sl true true 1 (ints [a, b, c])] := fun {σ a b c} => .cons (.refl (.sl (fun h => by cases h) (ints_any _))) (.nil _)
          have sl2 : ∀ {σ : Heap} {a b : Nat}, Frzs σ [.sl true true 1 (ints [a, b])] [.sl true true 1 (ints [a, b])] := fun {σ a b} => .cons (.refl (.sl (fun h => by cases h) (ints_any _))) (.nil _)
          refine S_draw 8 [] [.int .i64 (v0 : Nat), .int .i64 (v4 : Nat)] rfl rfl rfl rfl ⟨rfl, rfl, z0, rfl, rfl, rfl, rfl, z4, rfl, rfl, rfl, rfl, trivial⟩ ?_
          obtain ⟨ch, hch⟩ : ∃ ch, ch = (v4 &&& v5) ^^^ ((4294967295 - v4) &&& v6) := ⟨_, rfl⟩
          have qch : ch < M32 := by rw [hch]; exact xor_lt (and_lt q4) (and_lt qn)
          refine ab 1000 rfl trivial ?_
          refine S_draw 14 [] [.int .i64 (v5 : Nat), .int .i64 (v4 &&& v5 : Nat), .int .i64 (v6 : Nat), .int .i64 ((4294967295 - v4) &&& v6 : Nat), .int .i64 (ch : Nat)] rfl rfl rfl rfl
            ⟨rfl, rfl, rfl, z5, rfl, rfl, ⟨_, And_ok v4 v5 q4 q5, i2⟩, rfl, rfl, rfl, rfl, z6, rfl, rfl, ⟨_, And_ok (4294967295 - v4) v6 qn q6, .cons (by show Frz false _ (.int .i64 (IntKind.i64.wrap (4294967295 - (v4 : Int)))) _; rw [hnw]; exact .refl .int) (.cons (.refl .int) (.nil _))⟩, rfl, ⟨_, (by rw [hch]; exact xor2c (and_lt q4) (and_lt qn)), sl2⟩, rfl, trivial⟩ ?_
          refine ab 1000 rfl trivial ?_
          obtain ⟨hs5, hs5l⟩ := sum5 q7 (Sig1_lt q4) qch qk qw
          obtain ⟨U, hU⟩ : ∃ U, U = (v7 + Sig1 v4 + ch + kt + wt) % M32 := ⟨_, rfl⟩
          have qU : U < M32 := by rw [hU]; exact mod_lt _
          refine S_draw 26 [] [.int .i64 (v7 : Nat), .int .i64 (rotr v4 6 : Nat), .int .i64 (rotr v4 11 : Nat), .int .i64 (rotr v4 25 : Nat), .int .i64 (Sig1 v4 : Nat), .int .i64 (kt : Nat), .top, .int .i64 (wt : Nat), .int .i64 (U : Nat)] rfl rfl rfl rfl
            ⟨rfl, rfl, z7, rfl, rfl, rfl, ⟨_, Right_ok v4 6 q4 (by decide) (by decide), i2⟩, rfl, ⟨_, Right_ok v4 11 q4 (by decide) (by decide), i2⟩, rfl, ⟨_, Right_ok v4 25 q4 (by decide) (by decide), i2⟩, rfl, ⟨_, xor3c (rotr_lt 6 q4) (rotr_lt 11 q4) (rotr_lt 25 q4), sl3⟩, rfl, rfl, rfl, rfl, rfl, rfl, t1.1, hkg, rfl, rfl, rfl, rfl, rfl, t1.1, t1.2, rfl, hwg, rfl, ⟨_, (by rw [hU]; exact Wrap_ok _ hs5l), .cons (by show Frz false _ (.int .i64 (IntKind.i64.wrap (IntKind.i64.wrap (IntKind.i64.wrap (IntKind.i64.wrap ((v7 : Int) + ((Sig1 v4 : Nat) : Int)) + (ch : Int)) + (kt : Int)) + (wt : Int)))) _; rw [hs5]; exact .refl .int) (.nil _)⟩, rfl, trivial⟩ ?_
          refine ab 1000 rfl trivial ?_
          obtain ⟨mo, hmo⟩ : ∃ mo, mo = (v0 &&& v1) ^^^ (v0 &&& v2) ^^^ (v1 &&& v2) := ⟨_, rfl⟩
          have qmo : mo < M32 := by rw [hmo]; exact xor_lt (xor_lt (and_lt q0) (and_lt q0)) (and_lt q1)
          refine S_draw 20 [] [.int .i64 (v1 : Nat), .int .i64 (v0 &&& v1 : Nat), .int .i64 (v2 : Nat), .int .i64 (v0 &&& v2 : Nat), .int .i64 (v1 : Nat), .int .i64 (v2 : Nat), .int .i64 (v1 &&& v2 : Nat), .int .i64 (mo : Nat)] rfl rfl rfl rfl
            ⟨rfl, rfl, rfl, z1, rfl, rfl, ⟨_, And_ok v0 v1 q0 q1, i2⟩, rfl, rfl, rfl, z2, rfl, rfl, ⟨_, And_ok v0 v2 q0 q2, i2⟩, rfl, rfl, z1, rfl, rfl, rfl, rfl, z2, rfl, rfl, ⟨_, And_ok v1 v2 q1 q2, i2⟩, rfl, ⟨_, (by rw [hmo]; exact xor3c (and_lt q0) (and_lt q0) (and_lt q1)), sl3⟩, rfl, trivial⟩ ?_
          refine ab 1000 rfl trivial ?_
          refine S_pure rfl rfl rfl (Right_ok v0 2 q0 (by decide) (by decide)) i2 ?_
          refine ab 1000 rfl trivial ?_
          refine S_pure rfl rfl rfl (Right_ok v0 13 q0 (by decide) (by decide)) i2 ?_
          refine ab 1000 rfl trivial ?_
          refine S_pure rfl rfl rfl (Right_ok v0 22 q0 (by decide) (by decide)) i2 ?_
          refine ab 1000 rfl trivial ?_
          refine S_pure rfl rfl rfl (xor3c (rotr_lt 2 q0) (rotr_lt 13 q0) (rotr_lt 22 q0)) sl3 ?_
          have hsm := (sum2 (Z := Sig0 v0) (a := mo) (Sig0_lt q0) (lt2 qmo)).1
          have qsm : Sig0 v0 + mo < M32 + M32 := Nat.add_lt_add (Sig0_lt q0) qmo
          refine ab 1000 rfl trivial ?_
          refine S_weak (fr' := [(3, .ms 0 u 0 P.length 1 false), (6, .sl true true 1 (ints kTab)), (7, .ms 1 0 0 8 1 true), (8, .int .i64 (64 * m : Nat)), (9, .ms 2 x 0 64 1 false), (17, .sl st fl 1 (ints [v0, v1, v2, v3, v4, v5, v6, v7])), (18, .int .i64 (t : Nat)), (22, .int .i64 (U : Nat)), (24, .int .i64 (Sig0 v0 + mo : Nat))]) (.cons rfl (.cons rfl (.cons rfl (.cons rfl (.cons rfl (.cons rfl (.cons rfl (.cons rfl (.cons (congrArg (AV.int .i64) hsm) (.nil _)))))))))) ?_
          obtain ⟨na, hna⟩ : ∃ na, na = (U + (Sig0 v0 + mo)) % M32 := ⟨_, rfl⟩
          obtain ⟨ne, hne⟩ : ∃ ne, ne = (v3 + U) % M32 := ⟨_, rfl⟩
          obtain ⟨hs6, hs6l⟩ := sum2 qU qsm
          obtain ⟨hs7, hs7l⟩ := sum2 q3 (lt2 qU)
          refine S_draw 30 [] [.int .i64 (na : Nat), .int .i64 (v0 : Nat), .int .i64 (v1 : Nat), .int .i64 (v2 : Nat), .int .i64 (v3 : Nat), .int .i64 (ne : Nat), .int .i64 (v4 : Nat), .int .i64 (v5 : Nat), .int .i64 (v6 : Nat)] rfl rfl rfl rfl
            ⟨rfl, rfl, rfl, ⟨_, (by rw [hna]; exact Wrap_ok _ hs6l), .cons (by show Frz false _ (.int .i64 (IntKind.i64.wrap ((U : Int) + ((Sig0 v0 + mo : Nat) : Int)))) _; rw [hs6]; exact .refl .int) (.nil _)⟩, rfl, rfl, z0, rfl, rfl, rfl, rfl, z1, rfl, rfl, rfl, rfl, z2, rfl, rfl, rfl, rfl, z3, rfl, rfl, rfl, rfl, ⟨_, (by rw [hne]; exact Wrap_ok _ hs7l), .cons (by show Frz false _ (.int .i64 (IntKind.i64.wrap ((v3 : Int) + (U : Int)))) _; rw [hs7]; exact .refl .int) (.nil _)⟩, rfl, rfl, z4, rfl, rfl, rfl, rfl, z5, rfl, rfl, rfl, rfl, z6, rfl, rfl, rfl, rfl, trivial⟩ ?_
          refine ab 1000 rfl trivial ?_
          have hro : round [v0, v1, v2, v3, v4, v5, v6, v7] (kt + wt) = [na, v0, v1, v2, ne, v4, v5, v6] := by rw [round_eq, hna, hne, hU, hch, hmo]
          refine S_round (t + 1, [na, v0, v1, v2, ne, v4, v5, v6], true, true) t2.1 ⟨t2.2, rfl, by rw [← hro]; exact round_lt _ hv32, ?_⟩ (.cons rfl (.cons rfl (.cons rfl (.cons rfl (.cons rfl (.cons rfl (.cons t3 (.nil _)))))))) rfl
          rw [t4, rounds, ← hkt, ← hwt, hro] at hvN
          exact hvN
        · have ht : t = 64 := by omega
          subst ht
          have hvE : v = rounds 64 0 w h := hvN
          have hblk : block h p = addW h v := by rw [block, hvE, ← hW]
          have hal := addW_len h v
          refine ab 1000 rfl trivial ?_
          refine S_while (α := Nat) (fun i => [(3, .ms 0 u 0 P.length 1 false), (6, .sl true true 1 (ints kTab)), (7, .ms 1 0 0 8 1 true), (8, .int .i64 (64 * m : Nat)), (17, .sl st fl 1 (ints v)), (25, .int .i64 (i : Nat))])
            (fun i => [bB u P ⟨false, some 5⟩, iB 0 ((addW h v).take i ++ h.drop i), iB x w, (b + 1, none), (c + 1, none)])
            (fun i => i ≤ 8) (fun i => 8 - i) 0 (Nat.zero_le _) (.cons rfl (.cons rfl (.cons rfl (.cons rfl (.cons rfl (.cons rfl (.nil _))))))) (by simp) ?_
          intro i hi
          refine ab 1000 rfl trivial ?_
          refine S_dec rfl (fun hlt => ?_) (fun hlt => ?_)
          · have hi8 : i < 8 := by omega
            have c1 : 0 ≤ (i : Int) ∧ (i : Int) < 8 := by omega
            have c2 : 8 - (i + 1) < 8 - i := by omega
            have c3 : AV.int .i64 (IntKind.i64.wrap ((i : Int) + 1)) = .int .i64 ((i + 1 : Nat) : Int) := ai64 rfl (by omega)
            have htk : ((addW h v).take i).length = i := by rw [List.length_take, hal]; omega
            have hil : i < h.length := by omega
            have hiv : i < v.length := by omega
            have hdr : h.drop i = h.getD i 0 :: h.drop (i + 1) := by
              rw [List.drop_eq_getElem_cons hil]
              simp [List.getD, hil]
            have hld : ((ints ((addW h v).take i ++ h.drop i)).drop (offN 0 (mulN (i : Int).toNat 1)))[0]? = some (.int .i64 (h.getD i 0 : Nat)) := by
              have hgi : ((addW h v).take i ++ h.drop i).getD i 0 = h.getD i 0 := by
                rw [hdr]
                have h2 := getD_mid ((addW h v).take i) (h.getD i 0) (h.drop (i + 1))
                rwa [htk] at h2
              rw [offN_eq, mulN_eq, Int.toNat_natCast, Nat.mul_one, Nat.zero_add, ints_ld (by rw [List.length_append, htk, List.length_drop]; omega), hgi]
            have hvg : (ints v)[(i : Int).toNat]? = some (.int .i64 (v.getD i 0 : Nat)) := by rw [Int.toNat_natCast]; exact ints_get hiv
            obtain ⟨hh1, hhle⟩ := sum2 (hh32.getD i) (lt2 (hv32.getD i))
            have hst : offN 0 (mulN (i : Int).toNat 1) + 1 ≤ (ints ((addW h v).take i ++ h.drop i)).length := by
              rw [offN_eq, mulN_eq, Int.toNat_natCast, ints_len, List.length_append, htk, List.length_drop]; omega
            refine ab 1000 rfl trivial ?_
            refine S_draw 12 [] [.top, .int .i64 (h.getD i 0 : Nat), .int .i64 (v.getD i 0 : Nat), .int .i64 ((h.getD i 0 + v.getD i 0) % M32 : Nat)] rfl rfl rfl rfl
              ⟨rfl, rfl, rfl, rfl, rfl, c1.1, c1.2, rfl, hld, rfl, rfl, rfl, c1.1, hvg, rfl, rfl, ⟨_, Wrap_ok _ hhle, .cons (by show Frz false _ (.int .i64 (IntKind.i64.wrap (((h.getD i 0 : Nat) : Int) + ((v.getD i 0 : Nat) : Int)))) _; rw [hh1]; exact .refl .int) (.nil _)⟩, trivial⟩ ?_
            refine S_index .top rfl rfl rfl ⟨rfl, c1.1, c1.2, trivial⟩ ?_
            refine S_store rfl rfl rfl ⟨rfl, rfl, rfl, hst, trivial⟩ ?_
            refine ab 1000 rfl trivial ?_
            refine S_round (i + 1) c2 hi8 (.cons rfl (.cons rfl (.cons rfl (.cons rfl (.cons rfl (.cons c3 (.nil _))))))) ?_
            show [bB u P _, (0, some (Box.cells (setRange (ints ((addW h v).take i ++ h.drop i)) (offN 0 (mulN (i : Int).toNat 1)) [.int .i64 ((h.getD i 0 + v.getD i 0) % M32 : Nat)]) ⟨false, none⟩)), iB x w, (b + 1, none), (c + 1, none)] = _
            rw [offN_eq, mulN_eq, Int.toNat_natCast, Nat.mul_one, Nat.zero_add]
            have hta : (addW h v).take (i + 1) = (addW h v).take i ++ [(h.getD i 0 + v.getD i 0) % M32] := by
              rw [List.take_succ_eq_append_getElem (by rw [hal]; exact hi8)]
              simp [addW]
            have hsf := set_fill ((addW h v).take i) 0 ((h.getD i 0 + v.getD i 0) % M32) (h.getD i 0) (h.drop (i + 1))
            rw [htk] at hsf
            show [_, (0, some (Box.cells (List.set (ints ((addW h v).take i ++ h.drop i)) i (.int .i64 ((h.getD i 0 + v.getD i 0) % M32 : Nat))) _)), _, _, _] = _
            have hse : List.set (ints ((addW h v).take i ++ h.drop i)) i (.int .i64 ((h.getD i 0 + v.getD i 0) % M32 : Nat)) = ints ((addW h v).take (i + 1) ++ h.drop (i + 1)) := by
              rw [hta, hdr, List.append_assoc, List.singleton_append, ← hsf]
              simp only [ints, List.map_set]
            rw [hse]; rfl
          · have hi8 : i = 8 := by omega
            subst hi8
            have hfin : (addW h v).take 8 ++ h.drop 8 = block h p := by
              rw [List.take_of_length_le (by omega), List.drop_of_length_le (by omega), List.append_nil, hblk]
            rw [hfin]
            have d1 : P.length - 64 * (m + 1) < P.length - 64 * m ∧ 64 * (m + 1) ≤ P.length := by omega
            have d2 : AV.int .i64 (IntKind.i64.wrap (((64 * m : Nat) : Int) + 64)) = .int .i64 ((64 * (m + 1) : Nat) : Int) := ai64 (by omega) (by omega)
            have d3 : P.length / 64 - m = (P.length / 64 - (m + 1)) + 1 := by omega
            have d4 : 64 * m + 64 = 64 * (m + 1) := by omega
            refine S_drop (id := 2) rfl ?_ ⟨_, _, .inl rfl⟩
            refine ab 1000 rfl trivial ?_
            refine S_round (m + 1, block h p, x, b + 1, c + 1) d1.1 ⟨d1.2, block_len _ _, block_lt _ _, ?_⟩ (.cons rfl (.cons rfl (.cons rfl (.cons d2 (.nil _))))) rfl
            rw [← hN, d3, blocks, block_take, List.drop_drop, d4, hp]
    · have hm64 : 64 * m = P.length := by omega
      have hH : h = hashOf s := by
        rw [← hN, show P.length / 64 - m = 0 by omega]; rfl
      subst hH
      obtain ⟨HL, hHL⟩ : ∃ HL, HL = hashOf s := ⟨_, rfl⟩
      have hsh : sha s = HL.flatMap hexW := by rw [hHL]; rfl
      have hHl : HL.length = 8 := by rw [hHL]; exact hashOf_len s
      have hH32 : W32 HL := by rw [hHL]; exact hashOf_lt s
      rw [hsh]
      rw [← hHL] at *
      have hxl : ∀ n, (hexW n).length = 8 := fun n => by simp [hexW]
      have hfl : ∀ l : List Nat, (l.flatMap hexW).length = 8 * l.length := by
        intro l
        induction l with
        | nil => rfl
        | cons a r ih => rw [List.flatMap_cons, List.length_append, hxl, ih, List.length_cons]; omega
      refine ab 1000 rfl trivial ?_
      refine S_while (α := Nat) (fun i => [(7, .ms 1 0 0 8 1 true), (26, .str ((HL.take i).flatMap hexW)), (27, .int .i64 (i : Nat))]) (fun i => [bB u P ⟨false, some 5⟩, iB 0 HL, (a, none), (b, none), (c, none)])
        (fun i => i ≤ 8) (fun i => 8 - i) 0 (Nat.zero_le _) (.cons rfl (.cons rfl (.cons rfl (.nil _)))) rfl ?_
      intro i hi
      refine ab 1000 rfl trivial ?_
      refine S_dec rfl (fun hlt => ?_) (fun hlt => ?_)
      · have hi8 : i < 8 := by omega
        obtain ⟨nn, hnn⟩ : ∃ nn, nn = HL.getD i 0 := ⟨_, rfl⟩
        have qn : nn < M32 := by rw [hnn]; exact hH32.getD i
        have htl : ((HL.take i).flatMap hexW).length = 8 * i := by rw [hfl, List.length_take]; omega
        refine ab 1000 rfl trivial ?_
        refine S_while (α := Nat) (fun j => [(7, .ms 1 0 0 8 1 true), (26, .str ((HL.take i).flatMap hexW ++ (hexW nn).take j)), (27, .int .i64 (i : Nat)), (28, .int .i64 (7 - (j : Int)))]) (fun j => [bB u P ⟨false, some 5⟩, iB 0 HL, (a, none), (b, none), (c, none)])
          (fun j => j ≤ 8) (fun j => 8 - j) 0 (Nat.zero_le _) (.cons rfl (.cons (by simp; rfl) (.cons rfl (.cons rfl (.nil _))))) rfl ?_
        intro j hj
        refine ab 1000 rfl trivial ?_
        refine S_dec rfl (fun hlt => ?_) (fun hlt => ?_)
        · have hj8 : j < 8 := by omega
          have c1 : 0 ≤ (i : Int) ∧ (i : Int) < 8 := by omega
          have c2 : 8 - (j + 1) < 8 - j := by omega
          have hw4 : IntKind.i64.wrap (4 * (7 - (j : Int))) = ((4 * (7 - j) : Nat) : Int) := w64 (by omega) (by omega)
          have c3 : AV.int .i64 (IntKind.i64.wrap (7 - (j : Int) - 1)) = .int .i64 (7 - ((j + 1 : Nat) : Int)) := ai64i (by omega) (by omega)
          have c4 : 4 * (7 - j) ≤ 62 := by omega
          have hp0 : ((2 ^ (4 * (7 - j)) : Nat) : Int) ≠ 0 := by have := Nat.two_pow_pos (4 * (7 - j)); omega
          have hld : ((ints HL).drop (offN 0 (mulN (i : Int).toNat 1)))[0]? = some (.int .i64 (nn : Nat)) := by
            rw [offN_eq, mulN_eq, Int.toNat_natCast, Nat.mul_one, Nat.zero_add, hnn, ints_ld (by omega)]
          have e16 : (2 : Nat) ^ (4 * (7 - j)) = 16 ^ (7 - j) := by rw [show (16 : Nat) = 2 ^ 4 from rfl, ← Nat.pow_mul]
          have hdv : IntKind.i64.wrap ((nn : Int).tdiv ((2 ^ (4 * (7 - j)) : Nat) : Int)) = ((nn / 16 ^ (7 - j) : Nat) : Int) := by
            rw [← e16]; exact div32 qn
          have hm16 : (((nn / 16 ^ (7 - j) : Nat) : Int)).tmod 16 = ((nn / 16 ^ (7 - j) % 16 : Nat) : Int) := rfl
          have hlen : (((((HL.take i).flatMap hexW ++ (hexW nn).take j).length + 1 : Nat)) : Int) ≤ 9223372036854775807 := by
            rw [List.length_append, htl, List.length_take, hxl]; omega
          have hnx : (hexW nn).take (j + 1) = (hexW nn).take j ++ [hexC (nn / 16 ^ (7 - j) % 16)] := by
            rw [List.take_succ_eq_append_getElem (by rw [hxl]; exact hj8)]
            simp [hexW]
          refine ab 1000 rfl trivial ?_
          refine S_draw 13 [] [.top, .int .i64 (nn : Nat), .int .i64 ((2 ^ (4 * (7 - j)) : Nat) : Int), .str [hexC (nn / 16 ^ (7 - j) % 16)]] rfl rfl rfl rfl
            ⟨rfl, rfl, rfl, rfl, c1.1, c1.2, rfl, hld, rfl, rfl, ⟨_, Pow2_ok (4 * (7 - j)) c4, .cons (by show Frz false _ (.int .i64 (IntKind.i64.wrap (4 * (7 - (j : Int))))) _; rw [hw4]; exact .refl .int) (.nil _)⟩, rfl, hp0, rfl, by decide, ⟨_, HexDigit_ok (nn / 16 ^ (7 - j) % 16) (Nat.mod_lt _ (by decide)), .cons (by show Frz false _ (.int .i64 ((IntKind.i64.wrap ((nn : Int).tdiv ((2 ^ (4 * (7 - j)) : Nat) : Int))).tmod 16)) _; rw [hdv, hm16]; exact .refl .int) (.nil _)⟩, rfl, hlen, rfl, trivial⟩ ?_
          refine ab 1000 rfl trivial ?_
          exact S_round (j + 1) c2 hj8 (.cons rfl (.cons (by rw [hnx, ← List.append_assoc]; rfl) (.cons rfl (.cons c3 (.nil _))))) rfl
        · have hj8 : j = 8 := by omega
          subst hj8
          have hti : HL.take (i + 1) = HL.take i ++ [nn] := by
            rw [List.take_succ_eq_append_getElem (by omega), hnn]
            simp [List.getD, show i < HL.length by omega]
          have c3 : AV.int .i64 (IntKind.i64.wrap ((i : Int) + 1)) = .int .i64 ((i + 1 : Nat) : Int) := ai64 rfl (by omega)
          refine ab 1000 rfl trivial ?_
          refine S_round (i + 1) (by show 8 - (i + 1) < 8 - i; omega) hi8 (.cons rfl (.cons ?_ (.cons c3 (.nil _)))) rfl
          show AV.str ((HL.take i).flatMap hexW ++ (hexW nn).take 8) = .str ((HL.take (i + 1)).flatMap hexW)
          rw [hti, List.flatMap_append, List.take_of_length_le (l := hexW nn) (by rw [hxl]; exact Nat.le_refl _)]
          simp
      · have hi8 : i = 8 := by omega
        subst hi8
        refine ab 1000 rfl trivial ?_
        refine S_retc .str rfl trivial ?_
        show AV.str ((HL.take 8).flatMap hexW) = _
        rw [List.take_of_length_le (by omega)]
end Go.Proofs.YtpehmhlgldbeoaaGreatDoor
end
section
set_option linter.unusedVariables false
set_option linter.unusedSimpArgs false
set_option maxRecDepth 20000
namespace Go.Proofs.YtpehmhlgldbeoaaGreatDoor
open Go Go.Ab
def clashF : List (List UInt8) → List (List UInt8) → Bool
  | _, [] => false
  | T, x :: r => if T.contains x then clashF T r else if (T.map sha).contains (sha x) then true else clashF (T ++ [x]) r
def Apart (T : List (List UInt8)) : Prop := ∀ a ∈ T, ∀ b ∈ T, sha a = sha b → a = b
theorem clashF_apart : ∀ (r T : List (List UInt8)), clashF T r = false → Apart T → Apart (T ++ r)
  | [], T, h, hT => by rw [List.append_nil]; exact hT
  | x :: r, T, h, hT => by
    rw [clashF] at h
    split at h
    · rename_i hx
      have hx : x ∈ T := List.contains_iff_mem.1 hx
      have := clashF_apart r T h hT
      intro a ha b hb
      refine this a ?_ b ?_
      · simp only [List.mem_append, List.mem_cons] at ha ⊢
        rcases ha with ha | rfl | ha
        · exact .inl ha
        · exact .inl hx
        · exact .inr ha
      · simp only [List.mem_append, List.mem_cons] at hb ⊢
        rcases hb with hb | rfl | hb
        · exact .inl hb
        · exact .inl hx
        · exact .inr hb
    · split at h
      · cases h
      rename_i hx hd
      have hd : ∀ a ∈ T, sha a ≠ sha x := fun a ha e => hd (List.contains_iff_mem.2 (List.mem_map.2 ⟨a, ha, e⟩))
      have := clashF_apart r (T ++ [x]) h (by
        intro a ha b hb e
        simp only [List.mem_append, List.mem_singleton] at ha hb
        rcases ha with ha | rfl <;> rcases hb with hb | rfl
        · exact hT a ha b hb e
        · exact absurd e (hd a ha)
        · exact absurd e.symm (hd b hb)
        · rfl)
      rwa [List.append_assoc] at this
def listsAV (LS : List (List (List UInt8))) : List AV := LS.map fun q => .sl true false 1 (texts q)
theorem Clash_ok {st fl : Bool} (LS : List (List (List UInt8))) (h1 : LS.length ≤ 1000) (h2 : ∀ q ∈ LS, q.length ≤ 2000000) (h3 : ∀ q ∈ LS, ∀ s ∈ q, s.length ≤ 2000000) :
    Calc cx 22 [.sl st fl 1 (listsAV LS)] (.bool (clashF [] LS.flatten)) :=
  pure_intro (fun a w => Tryz.call22 a w) Tryz.func22 rfl Tryz.ntmps22 rfl .bool fun B => by
    have hll : (listsAV LS).length = LS.length := by simp [listsAV]
    refine ab 1000 rfl trivial ?_
    refine S_ghostF (t := 3) 1 ⟨false, none⟩ rfl rfl ⟨_, _, .inl rfl⟩ ?_
    refine S_ghostF (t := 4) 1 ⟨false, none⟩ rfl rfl ⟨_, _, .inl rfl⟩ ?_
    have gL : ∀ {j : Nat} (h : j < LS.length), (listsAV LS)[(j : Int).toNat]? = some (.sl true false 1 (texts LS[j])) := fun h => by
      rw [Int.toNat_natCast]; simp [listsAV, h]
    refine S_while (α := Nat × List (List UInt8) × Nat) (fun (i, T, u) => [(0, .sl st fl 1 (listsAV LS)), (3, .ms 0 u 0 T.length 1 false), (4, .ms 1 u 0 T.length 1 false), (5, .int .i64 (i : Nat))])
      (fun (i, T, u) => [(u, some (.cells (texts T) ⟨false, none⟩)), (u, some (.cells (texts (T.map sha)) ⟨false, none⟩))]) (fun (i, T, u) => i ≤ LS.length ∧ T.length ≤ 2000000 * i ∧ clashF T (LS.drop i).flatten = clashF [] LS.flatten) (fun (i, T, u) => LS.length - i) (0, [], 0)
      ⟨Nat.zero_le _, Nat.zero_le _, rfl⟩ (.cons rfl (.cons rfl (.cons rfl (.cons rfl (.nil _))))) rfl ?_
    rintro ⟨i, T, u⟩ ⟨g1, g2, g3⟩
    have g1 : i ≤ LS.length := g1
    have g2 : T.length ≤ 2000000 * i := g2
    refine ab 1000 rfl trivial ?_
    refine S_dec rfl (fun hlt => ?_) (fun hlt => ?_)
    · have hil : i < LS.length := by have : (i : Int) < (((listsAV LS).length : Nat) : Int) := hlt; omega
      obtain ⟨q, hq⟩ : ∃ q, q = LS[i] := ⟨_, rfl⟩
      have hqm : q ∈ LS := by rw [hq]; exact List.getElem_mem hil
      have gq := gL hil
      rw [← hq] at gq
      have hql := h2 q hqm
      have hqs := h3 q hqm
      have hqt := texts_len q
      have c0 : (0 : Int) ≤ (i : Int) := by omega
      have g3 : clashF T (q ++ (LS.drop (i + 1)).flatten) = clashF [] LS.flatten := by
        rw [← g3, List.drop_eq_getElem_cons hil, List.flatten_cons, hq]
      refine ab 1000 rfl trivial ?_
      refine S_while (α := Nat × List (List UInt8) × Nat) (fun (k, T, u) => [(0, .sl st fl 1 (listsAV LS)), (3, .ms 0 u 0 T.length 1 false), (4, .ms 1 u 0 T.length 1 false), (5, .int .i64 (i : Nat)), (6, .int .i64 (k : Nat))])
        (fun (k, T, u) => [(u, some (.cells (texts T) ⟨false, none⟩)), (u, some (.cells (texts (T.map sha)) ⟨false, none⟩))]) (fun (k, T, u) => k ≤ q.length ∧ T.length ≤ 2000000 * i + k ∧ clashF T (q.drop k ++ (LS.drop (i + 1)).flatten) = clashF [] LS.flatten) (fun (k, T, u) => q.length - k) (0, T, u)
        ⟨Nat.zero_le _, by omega, g3⟩ (.cons rfl (.cons rfl (.cons rfl (.cons rfl (.cons rfl (.nil _)))))) rfl ?_
      rintro ⟨k, T, u⟩ ⟨f1, f2, f3⟩
      have f1 : k ≤ q.length := f1
      have f2 : T.length ≤ 2000000 * i + k := f2
      have f3 : clashF T (q.drop k ++ (LS.drop (i + 1)).flatten) = clashF [] LS.flatten := f3
      have hTl := texts_len T
      have hDl := texts_len (T.map sha)
      rw [List.length_map] at hDl
      refine ab 1000 rfl trivial ?_
      refine S_index (.sl true false 1 (texts q)) rfl rfl rfl ⟨rfl, c0, gq, trivial⟩ ?_
      refine ab 1000 rfl trivial ?_
      refine S_dec rfl (fun hlt => ?_) (fun hlt => ?_)
      · have hkq : k < q.length := by have : (k : Int) < (((texts q).length : Nat) : Int) := hlt; omega
        have c1 : (0 : Int) ≤ (k : Int) := by omega
        obtain ⟨x, hx⟩ : ∃ x, x = q[k] := ⟨_, rfl⟩
        have hxs : x.length ≤ 2000000 := by rw [hx]; exact hqs _ (List.getElem_mem hkq)
        have gk : (texts q)[(k : Int).toNat]? = some (.str x) := by rw [Int.toNat_natCast, hx]; exact texts_get hkq
        rw [List.drop_eq_getElem_cons hkq, ← hx, List.cons_append, clashF] at f3
        refine ab 1000 rfl trivial ?_
        refine S_index (.sl true false 1 (texts q)) rfl rfl rfl ⟨rfl, c0, gq, trivial⟩ ?_
        refine ab 1000 rfl trivial ?_
        refine S_index (.str x) rfl rfl rfl ⟨rfl, c1, gk, trivial⟩ ?_
        refine ab 1000 rfl trivial ?_
        refine S_pure rfl rfl rfl (HasText_ok (st := false) (fl := false) T x (by omega)) (.cons (.ms1 rfl (texts_one _) (by rw [texts_len]) (texts_any _)) (.cons (.refl .str) (.nil _))) ?_
        refine ab 1000 rfl trivial ?_
        refine S_cond rfl (fun hb => ?_) (fun hb => ?_)
        · have hb : T.contains x = true := hb
          rw [if_pos hb] at f3
          refine ab 1000 rfl trivial ?_
          exact S_round (k + 1, T, u) (by show q.length - (k + 1) < q.length - k; omega) ⟨hkq, by omega, f3⟩ (.cons rfl (.cons rfl (.cons rfl (.cons rfl (.cons (ai64 rfl (by omega)) (.nil _)))))) rfl
        · have hb : T.contains x = false := hb
          rw [if_neg (by rw [hb]; decide)] at f3
          refine ab 1000 rfl trivial ?_
          refine S_index (.sl true false 1 (texts q)) rfl rfl rfl ⟨rfl, c0, gq, trivial⟩ ?_
          refine ab 1000 rfl trivial ?_
          refine S_index (.str x) rfl rfl rfl ⟨rfl, c1, gk, trivial⟩ ?_
          refine ab 1000 rfl trivial ?_
          refine S_pure rfl rfl rfl (SumR_ok x (by omega)) (.cons (.refl .str) (.nil _)) ?_
          refine ab 1000 rfl trivial ?_
          refine S_pure rfl rfl rfl (HasText_ok (st := false) (fl := false) (T.map sha) (sha x) (by rw [List.length_map]; omega)) (.cons (.ms1 rfl (texts_one _) hDl (texts_any _)) (.cons (.refl .str) (.nil _))) ?_
          refine ab 1000 rfl trivial ?_
          refine S_cond rfl (fun hd => ?_) (fun hd => ?_)
          · have hd : (T.map sha).contains (sha x) = true := hd
            rw [if_pos hd] at f3
            refine ab 1000 rfl trivial ?_
            refine S_retc .bool rfl trivial ?_
            rw [← f3]; rfl
          · have hd : (T.map sha).contains (sha x) = false := hd
            rw [if_neg (by rw [hd]; decide)] at f3
            refine ab 1000 rfl trivial ?_
            refine S_index (.sl true false 1 (texts q)) rfl rfl rfl ⟨rfl, c0, gq, trivial⟩ ?_
            refine ab 1000 rfl trivial ?_
            refine S_index (.str x) rfl rfl rfl ⟨rfl, c1, gk, trivial⟩ ?_
            refine ab 1000 rfl ⟨?_, ?_, ?_, rfl, rfl, allOne_mem (cs := [.str _]) rfl, allOne_mem (cs := [.str _]) rfl, rfl, ?_, ?_, ?_, rfl, rfl, allOne_mem (cs := [.str _]) rfl, allOne_mem (cs := [.str _]) rfl, rfl, trivial⟩ ?_
            · show T.length + 1 ≤ 9223372036854775807; omega
            · show (T.length + 1) * 16 ≤ 140737488355328; omega
            · show 0 + T.length * 1 = (texts (T.map sha)).length; omega
            · show T.length + 1 ≤ 9223372036854775807; omega
            · show (T.length + 1) * 16 ≤ 140737488355328; omega
            · show 0 + T.length * 1 = (texts T).length; omega
            refine S_round (k + 1, T ++ [x], u + 1) (by show q.length - (k + 1) < q.length - k; omega) ⟨hkq, by rw [List.length_append]; simp only [List.length_cons, List.length_nil]; omega, f3⟩
              (.cons rfl (.cons (by simp; rfl) (.cons (by simp; rfl) (.cons rfl (.cons (ai64 rfl (by omega)) (.nil _)))))) ?_
            show [(u + 1, some (Box.cells (texts T ++ [.str x]) ⟨false, none⟩)), (u + 1, some (Box.cells (texts (T.map sha) ++ [.str (sha x)]) ⟨false, none⟩))] = _
            simp [texts]
      · have hkq : k = q.length := by have : ¬ (k : Int) < (((texts q).length : Nat) : Int) := hlt; omega
        rw [hkq, List.drop_length, List.nil_append] at f3
        refine ab 1000 rfl trivial ?_
        exact S_round (i + 1, T, u) (by show LS.length - (i + 1) < LS.length - i; omega) ⟨hil, by omega, f3⟩ (.cons rfl (.cons rfl (.cons rfl (.cons (ai64 rfl (by omega)) (.nil _))))) rfl
    · have hil : i = LS.length := by have : ¬ (i : Int) < (((listsAV LS).length : Nat) : Int) := hlt; omega
      have g3 : clashF T (LS.drop i).flatten = clashF [] LS.flatten := g3
      rw [hil, List.drop_length] at g3
      refine ab 1000 rfl trivial ?_
      refine S_retc .bool rfl trivial ?_
      rw [← g3]; rfl
end Go.Proofs.YtpehmhlgldbeoaaGreatDoor
end
section
set_option linter.unusedVariables false
set_option linter.unusedSimpArgs false
set_option maxRecDepth 20000
namespace Go.Proofs.YtpehmhlgldbeoaaGreatDoor
open Go Go.Ab
def checkL (l : List (List UInt8)) (most : Nat) : Nat := if most < l.length then 2 else if l.any (fun s => decide (100000 < s.length)) then 2 else 0
theorem CheckList_ok {st fl : Bool} (l : List (List UInt8)) (most : Nat) (hl : l.length ≤ 9223372036854775806) : Calc cx 20 [.sl st fl 1 (texts l), .int .i64 most] (.int .i64 (checkL l most : Nat)) :=
  pure_intro (fun a w => Tryz.call20 a w) Tryz.func20 rfl Tryz.ntmps20 rfl .int fun B => by
    refine ab 1000 rfl trivial ?_
    refine S_dec rfl (fun h => ?_) (fun h => ?_)
    · have h : most < l.length := by simp [texts] at h; omega
      refine ab 1000 rfl trivial ?_
      refine S_retc .int rfl trivial ?_
      rw [checkL, if_pos h]; rfl
    · have h : ¬ most < l.length := by simp [texts] at h; omega
      refine ab 1000 rfl trivial ?_
      refine S_while (α := Nat) (fun i => [(0, .sl st fl 1 (texts l)), (5, .int .i64 i)]) (fun _ => []) (fun i => i ≤ l.length ∧ (l.take i).any (fun s => decide (100000 < s.length)) = false) (fun i => l.length - i) 0
        ⟨Nat.zero_le _, rfl⟩ (.cons rfl (.cons rfl (.nil _))) rfl ?_
      rintro i ⟨hi, hN⟩
      refine ab 1000 rfl trivial ?_
      refine S_dec rfl (fun hlt => ?_) (fun hlt => ?_)
      · have hil : i < l.length := by simp [texts] at hlt; omega
        refine ab 1000 rfl trivial ?_
        refine S_index (.str l[i]) rfl rfl rfl ⟨rfl, by omega, by simp [texts, List.getElem?_eq_getElem hil], trivial⟩ ?_
        refine ab 1000 rfl trivial ?_
        refine S_dec rfl (fun hb => ?_) (fun hb => ?_)
        · have hb : 100000 < l[i].length := by omega
          refine ab 1000 rfl trivial ?_
          refine S_retc .int rfl trivial ?_
          rw [checkL, if_neg h, if_pos (List.any_eq_true.2 ⟨l[i], List.getElem_mem hil, by simpa using hb⟩)]; rfl
        · have hb : ¬ 100000 < l[i].length := by omega
          refine ab 1000 rfl trivial ?_
          refine S_round (i + 1) (by show l.length - (i + 1) < l.length - i; omega) ⟨hil, ?_⟩ (.cons rfl (.cons (ai64 rfl (by omega)) (.nil _))) rfl
          rw [List.take_succ_eq_append_getElem hil, List.any_append, hN]
          simp; omega
      · have hil : i = l.length := by simp [texts] at hlt; omega
        refine ab 1000 rfl trivial ?_
        refine S_retc .int rfl trivial ?_
        rw [hil, List.take_length] at hN
        rw [checkL, if_neg h, if_neg (by rw [hN]; simp)]; rfl
end Go.Proofs.YtpehmhlgldbeoaaGreatDoor
end
section
set_option linter.unusedVariables false
set_option linter.unusedSimpArgs false
namespace Go.Ab
open Go
section
variable {cx : Cx} {n : Nat} {B : Bs} {k : List AI} {Q : Post} {fr : Fr} {σ : Heap}
inductive Wv : AV → AV → Prop
  | refl {a} : Wv a a
  | nils {st fl sz} : Wv .nils (.sl st fl sz [])
  | sl {st fl st' fl' sz xs} (h1 : st' = true → st = true) (h2 : fl' = true → fl = true) : Wv (.sl st fl sz xs) (.sl st' fl' sz xs)
theorem Wv.rel {r : Rl} {w : World} {v : Value} {a a' : AV} (h : Wv a a') (hv : VRel r w v a) : VRel r w v a' := by
  cases h with
  | refl => exact hv
  | nils => cases hv; exact .sl0 (fun _ => rfl)
  | sl h1 h2 =>
    cases hv with
    | sl0 hf => exact .sl0 (fun h => hf (h2 h))
    | sl hn hc0 hf hI hS hsz f hc hv => exact .sl hn hc0 (fun h => hf (h2 h)) hI (fun h => hS (h1 h)) hsz f hc hv
theorem Wv.one {a a' : AV} (h : Wv a a') (ho : a.one = true) : a'.one = true := by
  cases h with
  | refl => exact ho
  | nils => rfl
  | sl _ _ => rfl
inductive Wvs : List AV → List AV → Prop
  | nil : Wvs [] []
  | cons {a b az bs} (h : Wv a b) (hs : Wvs az bs) : Wvs (a :: az) (b :: bs)
theorem Wvs.len {az bs : List AV} (h : Wvs az bs) : az.length = bs.length := by
  induction h with
  | nil => rfl
  | cons _ _ ih => simp [ih]
theorem Wvs.get {az bs : List AV} (h : Wvs az bs) : ∀ (i : Nat) (h1 : i < az.length) (h2 : i < bs.length), Wv az[i] bs[i] := by
  induction h with
  | nil => intro i h1; simp at h1
  | cons h hs ih =>
    intro i h1 h2
    cases i with
    | zero => exact h
    | succ i => exact ih i (by simpa using h1) (by simpa using h2)
end
end Go.Ab
end
section
set_option linter.unusedVariables false
set_option linter.unusedSimpArgs false
set_option maxRecDepth 20000
set_option maxHeartbeats 4000000
namespace Go.Proofs.YtpehmhlgldbeoaaGreatDoor
open Go Go.Ab
theorem blob_set (l : List Fil) : blobT l = setT ((dirT 101 l).2 ++ [(dirT 101 l).1]) := by
  unfold blobT setT
  rw [List.foldl_append]; rfl
end Go.Proofs.YtpehmhlgldbeoaaGreatDoor
end
section
set_option linter.unusedVariables false
set_option linter.unusedSimpArgs false
set_option maxRecDepth 20000
set_option maxHeartbeats 4000000
namespace Go.Proofs.YtpehmhlgldbeoaaGreatDoor
open Go Go.Ab
theorem msT (v : Nat) (a b : List (List UInt8)) (τ : Heap) (g : Tag) : Frz false ((v, some (.cells (texts a ++ texts b) g)) :: τ) (.ms 0 v 0 (0 + (texts a).length + (texts b).length) 1 false) (.sl false false 1 (texts (a ++ b))) := by
  have e : texts (a ++ b) = texts a ++ texts b := by simp [texts]
  have h1 : ∀ y ∈ texts a ++ texts b, y.one = true := by
    rw [← e]; intro y hy
    obtain ⟨t, _, rfl⟩ := List.mem_map.1 hy; rfl
  rw [e]
  exact Frz.ms1 rfl h1 (by rw [List.length_append]; omega) (by rw [← e]; exact texts_any _)
theorem msT1 (v w : Nat) (y : Option Box) (a b : List (List UInt8)) (τ : Heap) (g : Tag) : Frz false ((v, y) :: (w, some (.cells (texts a ++ texts b) g)) :: τ) (.ms 1 w 0 (0 + (texts a).length + (texts b).length) 1 false) (.sl false false 1 (texts (a ++ b))) := by
  have e : texts (a ++ b) = texts a ++ texts b := by simp [texts]
  have h1 : ∀ y ∈ texts a ++ texts b, y.one = true := by
    rw [← e]; intro y hy
    obtain ⟨t, _, rfl⟩ := List.mem_map.1 hy; rfl
  rw [e]
  exact Frz.ms1 rfl h1 (by rw [List.length_append]; omega) (by rw [← e]; exact texts_any _)
theorem TreeBack_ok (l : List Fil) (more : List (List UInt8)) (hk : avB (.sl true false 3 (fils l)) ≤ 1048576) (h1 : more.length ≤ 1048576) (h2 : ∀ t ∈ more, t.length ≤ 1048576) :
    Calc cx 5 [.sl true false 3 (fils l), .sl true false 1 (texts more)] (.bool true) :=
  pure_intro (fun a w => Tryz.call5 a w) Tryz.func5 rfl Tryz.ntmps5 rfl .bool fun B => by
    have hl := fils_of hk
    have hR := Root_ok (st := true) (fl := false) l hl
    have hB := Blobs_ok (st := true) (fl := false) l hl
    unfold rootAV at hR
    unfold blobAV at hB
    have hfr : ∀ σ : Heap, Frzs σ [.sl true false 3 (fils l)] [.sl true false 3 (fils l)] := fun σ => .cons (.refl (.sl (fun h => by cases h) (fils_free l))) (.nil _)
    by_cases hc : chkT l = 0
    case neg =>
      rw [if_neg hc] at hR
      refine pa [.v (.bool true), .b false, .v (.tup [.str [], .int .i64 (chkT l : Nat)]), .b true] rfl ?_ ?_
      · (repeat' with_reducible apply AllP_cons) <;> try exact aC
        · exact ⟨_, treeBegun_ok, .nil _⟩
        · exact ⟨_, hR, hfr _⟩
        · show ((((chkT l : Nat) : Int)) != 0) = true
          rw [chk_bne]; simpa using hc
      exact S_retc .bool rfl trivial rfl
    rw [hc] at hR hB
    rw [if_pos rfl] at hR hB
    have hd := DirOk.of hc
    obtain ⟨b, hb⟩ : ∃ b, b = blobT l := ⟨_, rfl⟩
    have hbl : b.length ≤ 100000 := by
      rw [hb, blob_set]
      have h1 := setT_len ((dirT 101 l).2 ++ [(dirT 101 l).1])
      have h2 := blb_count hd
      have h3 := hd.len
      have h4 : l.length * 101 ≤ 60 * 101 := Nat.mul_le_mul_right _ h3
      rw [List.length_append, List.length_singleton] at h1
      omega
    have hbt : ∀ t ∈ b, t.length ≤ 100000 := by
      intro t ht
      rw [hb] at ht
      rcases blob_mem.1 ht with h | rfl
      · exact blb_len hd t h
      · have := dir_len hd; omega
    have hrl : (rootT l).length ≤ 9223372036854775807 := by unfold rootT; rw [sha_len]; decide
    have hF := flatS (Flat_ok (st := false) (fl := false) (rootT l) (more ++ b) hrl (by rw [List.length_append]; omega))
    have hCl := Clash_ok (st := true) (fl := true) [b, more] (by simp) (by
      intro q hq; simp at hq; rcases hq with rfl | rfl <;> omega) (by
      intro q hq s hs; simp at hq
      rcases hq with rfl | rfl
      · have := hbt s hs; omega
      · have := h2 s hs; omega)
    have hCL := CheckList_ok (st := false) (fl := false) (more ++ b) 2000 (by rw [List.length_append]; omega)
    have hS := SameFiles_ok (st := true) (st' := true) (fl := false) (fl' := false) l l (by have := hd.len; omega) (by have := hd.len; omega)
    rw [decide_eq_true rfl] at hS
    rw [← hb] at hB
    have htm := txl more
    have htb := txl b
    have hone : ∀ (x : List (List UInt8)), ∀ y ∈ flatA 1 (texts x), y.one = true := by
      intro x y hy
      obtain ⟨t, _, rfl⟩ := List.mem_map.1 hy; rfl
    generalize hroot : rootT l = root at *
    cases hcl : clashF [] [b, more].flatten with
    | true =>
      rw [hcl] at hCl
      refine pa [.v (.bool true), .b false, .v (.tup [.str root, .int .i64 ((0 : Nat) : Int)]), .b false, .v (.tup [.sl true false 1 (texts b), .int .i64 ((0 : Nat) : Int)]), .v (flatSV (flatT sortFl root (more ++ b))), .b true, .v (.bool true), .b true] rfl ?_ ?_
      · (repeat' with_reducible apply AllP_cons) <;> try exact aC
        · exact ⟨_, treeBegun_ok, .nil _⟩
        · exact ⟨_, hR, hfr _⟩
        · exact ⟨_, hB, hfr _⟩
        · exact hone more
        · exact hone more
        · exact .inr rfl
        · show (0 + (texts more).length) * 16 ≤ 140737488355328
          omega
        · exact hone b
        · exact hone b
        · show 0 + (0 + (texts more).length) * 1 = (texts more).length
          omega
        · show (0 + (texts more).length + (texts b).length) * 16 ≤ 140737488355328
          omega
        · exact ⟨_, hF, .cons (.refl .str) (.cons (msT _ more b [] _) (.nil _))⟩
        · exact ⟨_, hCl, .cons (.refl (.sl (fun h => by cases h) (by intro x hx; simp [listsAV] at hx; rcases hx with rfl | rfl; exact .sl (fun h => by cases h) (texts_any _); exact .sl (fun h => by cases h) (texts_any _)))) (.nil _)⟩
      exact S_retc .bool rfl trivial rfl
    | false =>
      rw [hcl] at hCl
      have hap := clashF_apart [b, more].flatten [] hcl (fun a ha => by cases ha)
      have hmem : ∀ t, t ∈ b ∨ t ∈ more → t ∈ [] ++ [b, more].flatten := by
        intro t ht
        simpa using ht
      by_cases hmany : 2000 < (more ++ b).length ∨ longT (more ++ b) = true
      · have hft : flatT sortFl root (more ++ b) = ([], 2) := by unfold flatT; rw [if_pos hmany]
        rw [hft] at hF
        have hck : checkL (more ++ b) 2000 = 2 := by
          unfold checkL
          rcases hmany with h | h
          · rw [if_pos h]
          · split
            · rfl
            · unfold longT at h; rw [if_pos h]
        rw [hck] at hCL
        refine pa [.v (.bool true), .b false, .v (.tup [.str root, .int .i64 ((0 : Nat) : Int)]), .b false, .v (.tup [.sl true false 1 (texts b), .int .i64 ((0 : Nat) : Int)]), .v (.tup [.sl true false 3 (fils []), .int .i64 ((2 : Nat) : Int)]), .b true, .v (.bool false), .b false, .b true, .b false, .b false, .b true, .v (.int .i64 ((2 : Nat) : Int))] rfl ?_ ?_
        · (repeat' with_reducible apply AllP_cons) <;> try exact aC
          · exact ⟨_, treeBegun_ok, .nil _⟩
          · exact ⟨_, hR, hfr _⟩
          · exact ⟨_, hB, hfr _⟩
          · exact hone more
          · exact hone more
          · exact .inr rfl
          · show (0 + (texts more).length) * 16 ≤ 140737488355328
            omega
          · exact hone b
          · exact hone b
          · show 0 + (0 + (texts more).length) * 1 = (texts more).length
            omega
          · show (0 + (texts more).length + (texts b).length) * 16 ≤ 140737488355328
            omega
          · exact ⟨_, hF, .cons (.refl .str) (.cons (msT _ more b [] _) (.nil _))⟩
          · exact ⟨_, hCl, .cons (.refl (.sl (fun h => by cases h) (by intro x hx; simp [listsAV] at hx; rcases hx with rfl | rfl; exact .sl (fun h => by cases h) (texts_any _); exact .sl (fun h => by cases h) (texts_any _)))) (.nil _)⟩
          · exact hone more
          · exact hone more
          · exact .inr rfl
          · show (0 + (texts more).length) * 16 ≤ 140737488355328
            omega
          · exact hone b
          · exact hone b
          · show 0 + (0 + (texts more).length) * 1 = (texts more).length
            omega
          · show (0 + (texts more).length + (texts b).length) * 16 ≤ 140737488355328
            omega
          · exact ⟨_, hCL, .cons (msT1 _ _ _ more b [] _) (.cons (.refl .int) (.nil _))⟩
        exact S_retc .bool rfl trivial rfl
      · have hft : flatT sortFl root (more ++ b) = (l, 0) := by
          have hfb := flat_back hc (blobs := more ++ b) (fun t ht => by rw [hb]; exact List.mem_append_right _ ht) (fun a ha c hc' e => by
            rw [← hb] at ha
            refine hap a (hmem a (.inl ha)) c (hmem c ?_) e
            rcases List.mem_append.1 hc' with h | h
            · exact .inr h
            · exact .inl h)
          rw [hroot] at hfb
          unfold flatT
          rw [if_neg hmany, if_pos (by rw [← hroot]; unfold rootT; exact isDig_sha _), if_pos hfb.1, hfb.2]
        rw [hft] at hF
        refine pa [.v (.bool true), .b false, .v (.tup [.str root, .int .i64 ((0 : Nat) : Int)]), .b false, .v (.tup [.sl true false 1 (texts b), .int .i64 ((0 : Nat) : Int)]), .v (.tup [.sl true false 3 (fils l), .int .i64 ((0 : Nat) : Int)]), .b true, .v (.bool false), .b false, .b true, .b true, .v (.bool true), .b true] rfl ?_ ?_
        · (repeat' with_reducible apply AllP_cons) <;> try exact aC
          · exact ⟨_, treeBegun_ok, .nil _⟩
          · exact ⟨_, hR, hfr _⟩
          · exact ⟨_, hB, hfr _⟩
          · exact hone more
          · exact hone more
          · exact .inr rfl
          · show (0 + (texts more).length) * 16 ≤ 140737488355328
            omega
          · exact hone b
          · exact hone b
          · show 0 + (0 + (texts more).length) * 1 = (texts more).length
            omega
          · show (0 + (texts more).length + (texts b).length) * 16 ≤ 140737488355328
            omega
          · exact ⟨_, hF, .cons (.refl .str) (.cons (msT _ more b [] _) (.nil _))⟩
          · exact ⟨_, hCl, .cons (.refl (.sl (fun h => by cases h) (by intro x hx; simp [listsAV] at hx; rcases hx with rfl | rfl; exact .sl (fun h => by cases h) (texts_any _); exact .sl (fun h => by cases h) (texts_any _)))) (.nil _)⟩
          · exact ⟨_, hS, .cons (.refl (.sl (fun h => by cases h) (fils_free l))) (.cons (.refl (.sl (fun h => by cases h) (fils_free l))) (.nil _))⟩
        exact S_retc .bool rfl trivial rfl
end Go.Proofs.YtpehmhlgldbeoaaGreatDoor
end
section
set_option linter.unusedVariables false
set_option linter.unusedSimpArgs false
set_option maxRecDepth 20000
namespace Go.Proofs.YtpehmhlgldbeoaaGreatDoor
open Go Go.Ab
theorem open_file {H : Type} {d : DataW H} {a : AV} (h : RdD Tryz.prog 48 d a) : ∃ f : Fil, a = filA f := by
  obtain ⟨ds, xs, rfl, rfl, hall⟩ := h.inv_st Tryz.underlying48
  obtain ⟨d0, ds, x0, xs, rfl, rfl, h0, hall⟩ := hall.cons
  obtain ⟨d1, ds, x1, xs, rfl, rfl, h1, hall⟩ := hall.cons
  obtain ⟨d2, ds, x2, xs, rfl, rfl, h2, hall⟩ := hall.cons
  obtain ⟨rfl, rfl⟩ := hall.nil
  obtain ⟨s0, rfl, rfl, _⟩ := h0.inv_str Tryz.underlying9
  obtain ⟨s1, rfl, rfl, _⟩ := h1.inv_str Tryz.underlying9
  obtain ⟨b, rfl, rfl⟩ := h2.inv_bool Tryz.underlying4
  exact ⟨⟨s0, s1, b⟩, rfl⟩
theorem open_F {H : Type} {d : DataW H} {a : AV} (h : RdD Tryz.prog 22 d a) : ∃ l : List Fil, a = .sl true false 3 (fils l) := by
  obtain ⟨ds, xs, rfl, hl, hm, hall, _⟩ := h.inv_sl Tryz.underlying22
  obtain ⟨ys, rfl, hy, hg⟩ := RdD.each filA (fun _ _ => True) hl hall (fun d x h => by
    obtain ⟨f, rfl⟩ := open_file h
    exact ⟨f, rfl, trivial⟩)
  have hc : Tryz.prog.cellsOf 48 = 3 := by kernel_rfl
  exact ⟨ys, by rw [hc]; rfl⟩
end Go.Proofs.YtpehmhlgldbeoaaGreatDoor
end
