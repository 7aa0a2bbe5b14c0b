/-
  Texts of our own, in one file.
-/
import Derived.Test.YtpehmhlgldbeoaaGreatDoorGrpE
section
set_option linter.unusedVariables false
set_option linter.unusedSimpArgs false
set_option maxRecDepth 20000
set_option maxHeartbeats 4000000
namespace Go.Proofs.YtpehmhlgldbeoaaGreatDoor
open Go Go.Ab
def ksP (l : List Fil) : List (List UInt8) := l.foldl (fun ks f => addU ks f.path) []
def lastF (l : List Fil) (p : List UInt8) : Fil := (l.reverse.find? (fun f => f.path == p)).getD ⟨[], [], false⟩
def vaP (l : List Fil) : List UInt8 → AV := fun p => filA (lastF l p)
def ovT (c : List Fil) : List Fil := (sortT (ksP c)).map (lastF c)
def ovX (o : List Fil) : Nat := if (o.any fun f => o.any fun g => insT f.path g.path) = true then 6 else if 60 < o.length then 2 else 0
def ovE (a b : List Fil) : Nat := if (if chkT a = 0 then chkT b else chkT a) = 0 then ovX (ovT (a ++ b)) else (if chkT a = 0 then chkT b else chkT a)
theorem ksP_mem {l : List Fil} {p : List UInt8} : p ∈ ksP l ↔ ∃ f ∈ l, f.path = p := by
  unfold ksP; rw [addU_fold_mem]; simp
theorem ksP_nodup (l : List Fil) : (ksP l).Nodup := addU_fold_nodup _ l [] .nil
theorem ksP_len (l : List Fil) : (ksP l).length ≤ l.length := by
  have := addU_fold_len (fun f : Fil => f.path) l []
  simpa [ksP] using this
theorem ksP_step {l : List Fil} {i : Nat} (h : i < l.length) : ksP (l.take (i + 1)) = addU (ksP (l.take i)) l[i].path := by
  unfold ksP; rw [List.take_succ_eq_append_getElem h, List.foldl_append]; rfl
theorem lastF_step {l : List Fil} {i : Nat} (h : i < l.length) (p : List UInt8) : lastF (l.take (i + 1)) p = if p = l[i].path then l[i] else lastF (l.take i) p := by
  unfold lastF
  rw [List.take_succ_eq_append_getElem h, List.reverse_append]
  show ((l[i] :: (l.take i).reverse).find? _).getD _ = _
  rw [List.find?_cons]
  by_cases e : p = l[i].path
  · rw [if_pos e, show (l[i].path == p) = true by simp [e]]; rfl
  · rw [if_neg e, show (l[i].path == p) = false by simpa using Ne.symm e]
theorem lastF_mem {l : List Fil} {p : List UInt8} (h : p ∈ ksP l) : lastF l p ∈ l ∧ (lastF l p).path = p := by
  unfold lastF
  cases hq : l.reverse.find? (fun f => f.path == p) with
  | none =>
    rw [List.find?_eq_none] at hq
    obtain ⟨f, hf, e⟩ := ksP_mem.1 h
    exact absurd (by simpa using e) (hq f (by simpa using hf))
  | some f => exact ⟨by simpa using List.mem_of_find?_eq_some hq, by simpa using List.find?_some hq⟩
theorem mapP_step {l : List Fil} {i : Nat} (h : i < l.length) :
    mapBx (addK (ksP (l.take i)) l[i].path) (updF (vaP (l.take i)) l[i].path (filA l[i])) = mapBx (ksP (l.take (i + 1))) (vaP (l.take (i + 1))) := by
  unfold mapBx
  rw [ksP_step h]
  show some (Box.map (mapF (addU _ _) _) none) = some (Box.map (mapF (addU _ _) _) none)
  congr 2
  refine mapF_congr fun n _ => ?_
  unfold updF vaP
  rw [lastF_step h]
  split <;> rfl
theorem Over_ok {st fl st' fl' : Bool} (a b : List Fil) (ha : FilsOk a) (hb : FilsOk b) : Calc cx 39 [.sl st fl 3 (fils a), .sl st' fl' 3 (fils b)] (flatAV (ovT (a ++ b), ovE a b)) :=
  pure_intro (fun a w => Tryz.call39 a w) Tryz.func39 rfl Tryz.ntmps39 rfl (flatAV_free _) fun B => by
    have hB := both_ok (st := st) (fl := fl) (st' := st') (fl' := fl') a b ha hb
    have rt : ∀ (x : List Fil) (e : Nat), e ≠ 0 → flatAV (x, e) = .tup [.nils, .int .i64 (e : Nat)] := fun x e he => by unfold flatAV; rw [if_neg he]
    have rf : ∀ e : Int, Free true (.tup [.nils, .int .i64 e]) := fun e => .tup (by intro x hx; simp at hx; rcases hx with rfl | rfl; exact .nils; exact .int)
    have hfr : ∀ σ : Heap, Frzs σ [.sl st fl 3 (fils a), .sl st' fl' 3 (fils b)] [.sl st fl 3 (fils a), .sl st' fl' 3 (fils b)] := fun σ => .cons (.refl (.sl (fun h => by cases h) (fils_free a))) (.cons (.refl (.sl (fun h => by cases h) (fils_free b))) (.nil _))
    unfold ovE
    obtain ⟨e, he⟩ : ∃ e, e = if chkT a = 0 then chkT b else chkT a := ⟨_, rfl⟩
    rw [← he] at hB ⊢
    by_cases h0 : e = 0
    case neg =>
      rw [if_neg h0, rt _ _ h0]
      refine pa [.v (.int .i64 (e : Nat)), .b true] rfl ?_ ?_
      · (repeat' with_reducible apply AllP_cons) <;> try exact aC
        · exact ⟨_, hB, hfr _⟩
        · show (((e : Int)) != 0) = true
          rw [chk_bne]; simpa using h0
      exact S_retc (rf _) rfl trivial rfl
    rw [if_pos h0]
    rw [h0] at hB he
    have hca : chkT a = 0 := by
      by_cases h : chkT a = 0
      · exact h
      · rw [if_neg h] at he; exact absurd he.symm h
    have hcb : chkT b = 0 := by rw [if_pos hca] at he; exact he.symm
    have hda := DirOk.of hca
    have hdb := DirOk.of hcb
    have hCC := Concat_ok (st := st) (fl := fl) (st' := st') (fl' := fl') a b ha.len hb.len
    obtain ⟨c, hc⟩ : ∃ c, c = a ++ b := ⟨_, rfl⟩
    rw [← hc] at hCC ⊢
    have hcl : c.length ≤ 120 := by rw [hc, List.length_append]; have := hda.len; have := hdb.len; omega
    have hcp : ∀ f ∈ c, f.path.length ≤ 100 := by
      intro f hf
      rw [hc] at hf
      rcases List.mem_append.1 hf with hf | hf
      · exact (path_fst (hda.path f hf)).2.1
      · exact (path_fst (hdb.path f hf)).2.1
    have hcn := fils_len c
    refine pa [.v (.int .i64 ((0 : Nat) : Int)), .b false, .f (.map 0 0) (fun _ => [(0, some (.map [] (some ([], 0))))]), .v (.sl true false 3 (fils c))] rfl ?_ ?_
    · (repeat' with_reducible apply AllP_cons) <;> try exact aC
      · exact ⟨_, hB, hfr _⟩
      · exact OpSpec.mapN (C := []) rfl trivial
      · exact ⟨_, hCC, .cons (.refl (.sl (fun h => by cases h) (by intro x hx; simp at hx; rcases hx with rfl | rfl; exact .sl (fun h => by cases h) (fils_free a); exact .sl (fun h => by cases h) (fils_free b)))) (.nil _)⟩
    refine S_unstamp (id := 0) rfl ?_ ⟨_, _, .inl rfl⟩
    refine S_dead ?_ ⟨_, _, .inl rfl⟩
    refine S_while (α := Nat) (fun i => [(7, .map 0 0), (25, .sl true false 3 (fils c)), (26, .int .i64 (((fils c).length : Nat) : Int)), (27, .int .i64 (i : Nat))]) (fun i => [(0, mapBx (ksP (c.take i)) (vaP (c.take i))), (i, none)]) (fun i => i ≤ c.length) (fun i => c.length - i) 0
      (Nat.zero_le _) (.cons rfl (.cons rfl (.cons rfl (.cons rfl (.nil _))))) rfl ?_
    intro i hi
    have hi : i ≤ c.length := hi
    by_cases hlt : i < c.length
    · have e1 : decide ((i : Int) < (((fils c).length : Nat) : Int)) = true := decide_eq_true (by omega)
      have g1 : (fils c)[(i : Int).toNat]? = some (filA c[i]) := fils_get hlt
      refine pa [.b true, .v (filA c[i]), .f (.tup []) (fun σ => (0, mapBx (addK (ksP (c.take i)) c[i].path) (updF (vaP (c.take i)) c[i].path (filA c[i]))) :: σ.tail), .s] rfl ?_ ?_
      · (repeat' with_reducible apply AllP_cons) <;> try exact aC
        · exact OpSpec.mput (kt := 9) (et := 48) (ks := ksP (c.take i)) (val := vaP (c.take i)) (s := c[i].path) rfl (Tryz.underlying85) rfl rfl rfl rfl rfl (ksP_nodup _) rfl
      refine S_drop (id := 1) rfl ?_ ⟨.skip, _, .inr ⟨_, _, _, rfl⟩⟩
      refine S_heap [(0, mapBx (ksP (c.take (i + 1))) (vaP (c.take (i + 1)))), (i + 1, none)] ?_ ?_
      · rw [← mapP_step hlt]; rfl
      refine pB [] rfl ?_
      exact S_round (i + 1) (by show c.length - (i + 1) < c.length - i; omega) hlt (.cons rfl (.cons rfl (.cons rfl (.cons (nX (by omega)) (.nil _))))) rfl
    have hil : i = c.length := by omega
    subst hil
    have e1 : decide ((c.length : Int) < (((fils c).length : Nat) : Int)) = false := decide_eq_false (by omega)
    rw [List.take_length]
    generalize hu : c.length = u at *
    have hkn := ksP_nodup c
    have hkl := ksP_len c
    refine pa [.b false, .f (.func (.func 97) [] [.ptr 1 (u + 1) 0]) (fun σ => (0, mapBx (ksP c) (vaP c)) :: [(u + 1, some (.cells [.map 0 0] ⟨false, some 85⟩))]), .k (.sl true false 1 ((sortT (ksP c)).map AV.str)), .s] rfl ?_ ?_
    · (repeat' with_reducible apply AllP_cons) <;> try exact aC
      · exact KeysF_ok rfl
      · exact SortedF_ok (ks := ksP c) (val := vaP c) rfl rfl hkn (by omega) (fun p hp => by
          obtain ⟨f, hf, rfl⟩ := ksP_mem.1 hp
          have := hcp f hf; omega)
    refine S_drop (id := 1) rfl ?_ ⟨.skip, _, .inr ⟨_, _, _, rfl⟩⟩
    refine pB [] rfl ?_
    refine S_ghostF (t := 10) 3 ⟨false, none⟩ rfl rfl ⟨_, _, .inl rfl⟩ ?_
    have hsl : (sortT (ksP c)).length ≤ 120 := by rw [(sortT_perm _).length_eq]; omega
    have hkm : ∀ p ∈ sortT (ksP c), p ∈ ksP c := fun p hp => (sortT_perm _).mem_iff.1 hp
    have hov : ovT c = (sortT (ksP c)).map (lastF c) := rfl
    rw [hov]
    generalize hks : sortT (ksP c) = ks at *
    have hkt : (ks.map AV.str).length = ks.length := List.length_map ..
    refine S_while (α := Nat) (fun j => [(7, .map 0 0), (10, .ms 1 (u + 2 + j) 0 j 3 false), (38, .sl true false 1 (ks.map AV.str)), (39, .int .i64 (((ks.map AV.str).length : Nat) : Int)), (40, .int .i64 (j : Nat))]) (fun j => [(0, mapBx (ksP c) (vaP c)), (u + 2 + j, some (.cells (celsF ((ks.take j).map (lastF c))) ⟨false, none⟩))]) (fun j => j ≤ ks.length) (fun j => ks.length - j) 0
      (Nat.zero_le _) (.cons rfl (.cons rfl (.cons rfl (.cons rfl (.cons rfl (.nil _)))))) rfl ?_
    intro j hj
    have hj : j ≤ ks.length := hj
    by_cases hjt : j < ks.length
    · have e2 : decide ((j : Int) < (((ks.map AV.str).length : Nat) : Int)) = true := decide_eq_true (by omega)
      have g2 : (ks.map AV.str)[(j : Int).toNat]? = some (.str ks[j]) := by rw [Int.toNat_natCast, List.getElem?_map, List.getElem?_eq_getElem hjt]; rfl
      have hn := hkm _ (List.getElem_mem hjt)
      have hcl2 : (celsF ((ks.take j).map (lastF c))).length = j * 3 := by rw [cels_len, List.length_map, List.length_take, Nat.min_eq_left (by omega)]
      refine pa [.b true, .v (.str ks[j]), .v (filA (lastF c ks[j]))] rfl ?_ ?_
      · (repeat' with_reducible apply AllP_cons) <;> try exact aC
        · exact OpSpec.mget (kt := 9) (et := 48) (ks := ksP c) (val := vaP c) (s := ks[j]) (z := .agg [.str [], .str [], .bool false]) rfl (Tryz.underlying85) rfl rfl rfl rfl rfl (by rw [if_pos hn]; rfl)
        · show 0 + j * 3 = _
          omega
        · show (j + 1) * 40 ≤ 140737488355328
          omega
      refine S_round (j + 1) (by show ks.length - (j + 1) < ks.length - j; omega) hjt (.cons rfl (.cons rfl (.cons rfl (.cons rfl (.cons (nX (by omega)) (.nil _)))))) ?_
      rw [List.take_succ_eq_append_getElem hjt, List.map_append]
      show _ = [(0, mapBx (ksP c) (vaP c)), (u + 2 + (j + 1), some (.cells (celsF ((ks.take j).map (lastF c) ++ [lastF c ks[j]])) ⟨false, none⟩))]
      rw [celsF_add]; rfl
    have hje : j = ks.length := by omega
    subst hje
    have e2 : decide ((ks.length : Int) < (((ks.map AV.str).length : Nat) : Int)) = false := decide_eq_false (by omega)
    rw [List.take_length]
    obtain ⟨o, ho⟩ : ∃ o, o = ks.map (lastF c) := ⟨_, rfl⟩
    rw [← ho]
    have hol : o.length = ks.length := by rw [ho, List.length_map]
    have hop : ∀ f ∈ o, f.path.length ≤ 1000000000000 := by
      intro f hf
      rw [ho] at hf
      obtain ⟨p, hp, rfl⟩ := List.mem_map.1 hf
      have h1 := lastF_mem (hkm p hp)
      have := hcp _ h1.1; omega
    rw [← hol]
    generalize hw : u + 2 + o.length = w
    have hocl := cels_len o
    refine pan 6 [.b false] rfl ?_ ?_
    · (repeat' with_reducible apply AllP_cons) <;> try exact aC
    refine S_drop (id := 0) rfl ?_ ⟨_, _, .inl rfl⟩
    refine pB [] rfl ?_
    refine S_while (α := Nat) (fun k => [(10, .ms 1 w 0 o.length 3 false), (51, .ms 1 w 0 o.length 3 false), (52, .int .i64 (o.length : Nat)), (53, .int .i64 (k : Nat))]) (fun k => [(k, none), (w, some (.cells (celsF o) ⟨false, none⟩))]) (fun k => k ≤ o.length ∧ ∀ j (hj : j < o.length), j < k → (o.any fun g => insT o[j].path g.path) = false) (fun k => o.length - k) 0
      ⟨Nat.zero_le _, fun j hj h => absurd h (Nat.not_lt_zero _)⟩ (.cons rfl (.cons rfl (.cons rfl (.cons rfl (.nil _))))) rfl ?_
    rintro k ⟨hk, hK⟩
    have hk : k ≤ o.length := hk
    by_cases hkt : k < o.length
    · have e3 : decide ((k : Int) < (o.length : Int)) = true := decide_eq_true (by omega)
      have hF := ContainsFuncF_ok (k + 1) o[k] w o (hop _ (List.getElem_mem hkt)) (by omega)
      have c1 : 3 ≤ ((celsF o).drop (offN 0 (mulN (k : Int).toNat 3))).length := by
        rw [cels_off, List.length_drop, cels_len]; omega
      have c2 : filA o[k] = .agg (List.take 3 ((celsF o).drop (offN 0 (mulN (k : Int).toNat 3)))) := by
        obtain ⟨r, hr⟩ := cels_at hkt
        rw [cels_off, hr]; rfl
      cases hin : o.any fun g => insT o[k].path g.path with
      | true =>
        rw [hin] at hF
        have hX : ovX o = 6 := by
          unfold ovX
          rw [if_pos (List.any_eq_true.2 ⟨_, List.getElem_mem hkt, hin⟩)]
        rw [hX, rt _ _ (by decide)]
        refine pa [.b true, .v .top, .v (filA o[k]), .k (.bool true), .b true] rfl ?_ ?_
        · (repeat' with_reducible apply AllP_cons) <;> try exact aC
          all_goals first | exact c1 | exact c2 | exact hF
        exact S_retc (rf _) rfl trivial rfl
      | false =>
        rw [hin] at hF
        refine pa [.b true, .v .top, .v (filA o[k]), .k (.bool false), .b false, .s] rfl ?_ ?_
        · (repeat' with_reducible apply AllP_cons) <;> try exact aC
          all_goals first | exact c1 | exact c2 | exact hF
        refine S_drop (id := 0) rfl ?_ ⟨.skip, _, .inr ⟨_, _, _, rfl⟩⟩
        refine pB [] rfl ?_
        refine S_round (k + 1) (by show o.length - (k + 1) < o.length - k; omega) ⟨hkt, fun j hj h => ?_⟩ (.cons rfl (.cons rfl (.cons rfl (.cons (nX (by omega)) (.nil _))))) rfl
        have h : j < k + 1 := h
        by_cases hjk : j < k
        · exact hK j hj hjk
        · have : j = k := by omega
          subst this; exact hin
    · have e3 : decide ((k : Int) < (o.length : Int)) = false := decide_eq_false (by omega)
      have hno : (o.any fun f => o.any fun g => insT f.path g.path) = false := by
        rw [List.any_eq_false]
        intro f hf
        obtain ⟨j, hj, rfl⟩ := List.getElem_of_mem hf
        rw [hK j hj (by omega)]; simp
      by_cases h60 : 60 < o.length
      · have hX : ovX o = 2 := by unfold ovX; rw [hno, if_neg (by simp), if_pos h60]
        have e4 : decide ((o.length : Int) > 60) = true := decide_eq_true (by omega)
        rw [hX, rt _ _ (by decide)]
        refine pB [.b false, .b true] rfl ?_
        exact S_retc (rf _) rfl trivial rfl
      · have hX : ovX o = 0 := by unfold ovX; rw [hno, if_neg (by simp), if_neg h60]
        have e4 : decide ((o.length : Int) > 60) = false := decide_eq_false (by omega)
        rw [hX]
        refine pB [.b false, .b false] rfl ?_
        refine S_ret ⟨_, _, rfl, trivial, _, rfl, ?_⟩
        show Frz true [(k, none), (w, some (.cells (celsF o) ⟨false, none⟩))] (.tup [.ms 1 w 0 o.length 3 false, .int .i64 0]) (.tup [.sl true false 3 (fils o), .int .i64 0])
        exact Fzs.tup (.cons (.ms rfl (by omega) (by rw [List.drop_zero]; exact List.take_of_length_le (by omega)) (fil_size _) (fils_len _) (fils_free _)) (.cons (.refl .int) .nil))
end Go.Proofs.YtpehmhlgldbeoaaGreatDoor
end
section
set_option linter.unusedVariables false
set_option linter.unusedSimpArgs false
set_option maxRecDepth 20000
set_option maxHeartbeats 4000000
namespace Go.Proofs.YtpehmhlgldbeoaaGreatDoor
open Go Go.Ab
theorem formT_all {l : List Fil} (h : ∀ f ∈ l, isPathB f.path = true ∧ f.text.length ≤ 100000) : formT l = 0 := by
  induction l with
  | nil => rfl
  | cons f r ih =>
    have hf : filE f = 0 := by
      unfold filE
      rw [if_pos (h f (List.mem_cons_self ..)).1, if_neg (by have := (h f (List.mem_cons_self ..)).2; omega)]
    rw [formT, if_pos hf]
    exact ih fun g hg => h g (List.mem_cons_of_mem _ hg)
theorem chk_of {d : Nat} {l : List Fil} (h : DirOk d l) : chkT l = 0 := by
  unfold chkT
  have := h.len
  rw [if_neg (by omega), if_neg (by rw [formT_all fun f hf => ⟨h.path f hf, h.text f hf⟩]; simp), if_pos h.ok]
theorem fok_of {d : Nat} {l : List Fil} (h : DirOk d l) : FilsOk l :=
  ⟨by have := h.len; omega, fun f hf => by have := (path_fst (h.path f hf)).2.1; omega, fun f hf => by have := h.text f hf; omega⟩
theorem ov_mem {c : List Fil} {f : Fil} : f ∈ ovT c ↔ ∃ p ∈ ksP c, lastF c p = f := by
  unfold ovT
  rw [List.mem_map]
  constructor
  · rintro ⟨p, hp, h⟩; exact ⟨p, (sortT_perm _).mem_iff.1 hp, h⟩
  · rintro ⟨p, hp, h⟩; exact ⟨p, (sortT_perm _).mem_iff.2 hp, h⟩
theorem ov_sub {c : List Fil} {f : Fil} (h : f ∈ ovT c) : f ∈ c := by
  obtain ⟨p, hp, rfl⟩ := ov_mem.1 h
  exact (lastF_mem hp).1
theorem ov_has {c : List Fil} {f : Fil} (h : f ∈ c) : ∃ g ∈ ovT c, g.path = f.path := by
  have hp : f.path ∈ ksP c := ksP_mem.2 ⟨f, h, rfl⟩
  exact ⟨_, ov_mem.2 ⟨_, hp, rfl⟩, (lastF_mem hp).2⟩
theorem ov_dirOk {a b : List Fil} (ha : DirOk 101 a) (hb : DirOk 101 b) (h : ovX (ovT (a ++ b)) = 0) : DirOk 101 (ovT (a ++ b)) := by
  have hmem : ∀ f ∈ ovT (a ++ b), f ∈ a ∨ f ∈ b := fun f hf => List.mem_append.1 (ov_sub hf)
  have hpath : ∀ f ∈ ovT (a ++ b), isPathB f.path = true := fun f hf => (hmem f hf).elim (ha.path f) (hb.path f)
  unfold ovX at h
  split at h
  · cases h
  rename_i h1
  split at h
  · cases h
  rename_i h2
  refine ⟨by omega, hpath, fun f hf => (hmem f hf).elim (ha.text f) (hb.text f), ⟨?_, ?_⟩, fun f hf => ?_⟩
  · rw [List.pairwise_iff_getElem]
    intro i j hi hj hij
    have e : ∀ k (hk : k < (ovT (a ++ b)).length), (ovT (a ++ b))[k].path = (sortT (ksP (a ++ b)))[k]'(by simpa [ovT] using hk) := by
      intro k hk
      have hk' : k < (sortT (ksP (a ++ b))).length := by simpa [ovT] using hk
      have : (ovT (a ++ b))[k] = lastF (a ++ b) ((sortT (ksP (a ++ b)))[k]'hk') := List.getElem_map (lastF (a ++ b))
      rw [this]
      exact (lastF_mem ((sortT_perm _).mem_iff.1 (List.getElem_mem hk'))).2
    rw [e i hi, e j hj, bl_eq, decide_eq_true_eq]
    exact sort_lt (ksP_nodup _) hij _
  · intro f hf g hg
    cases hi : insT f.path g.path with
    | false => rfl
    | true => exact absurd (List.any_eq_true.2 ⟨f, hf, List.any_eq_true.2 ⟨g, hg, hi⟩⟩) h1
  · have := (path_fst (hpath f hf)).2.1; omega
end Go.Proofs.YtpehmhlgldbeoaaGreatDoor
end
section
set_option linter.unusedVariables false
set_option linter.unusedSimpArgs false
set_option maxRecDepth 20000
namespace Go.Proofs.YtpehmhlgldbeoaaGreatDoor
open Go Go.Ab
theorem readN_pack : ∀ (k n i acc : Nat) (rest : List UInt8), n < 128 ^ (k + 1) → i + (packN k n).length ≤ 8 → acc + n * 128 ^ i ≤ 9007199254740991 → (n ≠ 0 ∨ i = 0) →
    readN (packN k n ++ rest) i acc = (acc + n * 128 ^ i, i + (packN k n).length, 0)
  | 0, n, i, acc, rest, hn, hi, hb, h0 => by
    have hn : n < 128 := by simpa using hn
    simp only [packN, List.length_singleton] at hi ⊢
    have ht : (UInt8.ofNat n).toNat = n := by rw [UInt8.toNat_ofNat', Nat.mod_eq_of_lt (by omega)]
    simp only [List.singleton_append, readN]
    rw [if_neg (by omega), ht, if_neg (by omega), if_neg (by omega), Nat.mod_eq_of_lt hn, if_neg (by omega)]
  | k + 1, n, i, acc, rest, hn, hi, hb, h0 => by
    have e : packN (k + 1) n = if n < 128 then [UInt8.ofNat n] else UInt8.ofNat (n % 128 + 128) :: packN k (n / 128) := rfl
    by_cases hs : n < 128
    · rw [e, if_pos hs] at hi ⊢
      have ht : (UInt8.ofNat n).toNat = n := by rw [UInt8.toNat_ofNat', Nat.mod_eq_of_lt (by omega)]
      simp only [List.length_singleton] at hi ⊢
      simp only [List.singleton_append, readN]
      rw [if_neg (by omega), ht, if_neg (by omega), if_neg (by omega), Nat.mod_eq_of_lt hs, if_neg (by omega)]
    · rw [e, if_neg hs] at hi ⊢
      have hne := packN_ne k (n / 128)
      have hpos : 0 < (packN k (n / 128)).length := List.length_pos_iff.2 hne
      simp only [List.length_cons] at hi ⊢
      have ht : (UInt8.ofNat (n % 128 + 128)).toNat = n % 128 + 128 := by rw [UInt8.toNat_ofNat', Nat.mod_eq_of_lt (by omega)]
      simp only [List.cons_append, readN]
      rw [if_neg (by omega), ht, if_pos (by omega)]
      have hsum : acc + (n % 128 + 128) % 128 * 128 ^ i + n / 128 * 128 ^ (i + 1) = acc + n * 128 ^ i := by
        have h1 : (n % 128 + 128) % 128 = n % 128 := by omega
        rw [h1, Nat.pow_succ, Nat.mul_comm (128 ^ i) 128, ← Nat.mul_assoc, Nat.add_assoc, ← Nat.add_mul]
        congr 2; omega
      rw [readN_pack k (n / 128) (i + 1) _ rest (by rw [Nat.div_lt_iff_lt_mul (by decide)]; rw [Nat.pow_succ] at hn; omega) (by omega) (by omega) (.inl (by omega)), hsum]
      congr 2; omega
theorem packN_small {n : Nat} (hn : n ≤ 9007199254740991) : (packN 9 n).length ≤ 8 := by
  rw [packN_more 8 n (by simp; omega), packN_more 7 n (by simp; omega)]
  exact packN_len 7 n
theorem readN_of_pack (n : Nat) (rest : List UInt8) (hn : n ≤ 9007199254740991) : readN (packN 9 n ++ rest) 0 0 = (n, (packN 9 n).length, 0) := by
  have := readN_pack 9 n 0 0 rest (by simp; omega) (by have := packN_small hn; omega) (by simp; omega) (.inr rfl)
  simpa using this
end Go.Proofs.YtpehmhlgldbeoaaGreatDoor
end
section
set_option linter.unusedVariables false
set_option linter.unusedSimpArgs false
set_option maxRecDepth 20000
namespace Go.Proofs.YtpehmhlgldbeoaaGreatDoor
open Go Go.Ab
theorem rNum_pack (n : Nat) (rest : List UInt8) (hn : n ≤ 9007199254740991) : rNum (packN 9 n ++ rest) = some (n, rest) := by
  unfold rNum
  rw [readN_of_pack n rest hn]
  simp
theorem rText_pack (s rest : List UInt8) (hs : s.length ≤ 9007199254740991) : rText (packT s ++ rest) = some (s, rest) := by
  unfold rText packT
  rw [List.append_assoc, rNum_pack _ _ hs]
  simp [rTake]
theorem packT_pos (s : List UInt8) : 1 ≤ (packT s).length := by
  have := List.length_pos_iff.2 (packN_ne 9 s.length)
  simp only [packT, List.length_append]; omega
end Go.Proofs.YtpehmhlgldbeoaaGreatDoor
end
section
set_option linter.unusedVariables false
set_option linter.unusedSimpArgs false
set_option maxRecDepth 20000
namespace Go.Proofs.YtpehmhlgldbeoaaGreatDoor
open Go Go.Ab
theorem rNode_pack (n : NodeV) (rest : List UInt8) (h1 : n.name.length ≤ 20) (h2 : 1 ≤ n.kind ∧ n.kind ≤ 3) (h3 : n.dig.length = 64) : rNode (packNode n ++ rest) = some (n, rest) := by
  obtain ⟨k, hk⟩ := Int.eq_ofNat_of_zero_le (show 0 ≤ n.kind by omega)
  have e : packNode n ++ rest = packT n.name ++ (packN 9 k ++ (packT n.dig ++ rest)) := by
    simp only [packNode, hk, Int.toNat_natCast, List.append_assoc]
  rw [e, rNode, rText_pack _ _ (by omega)]
  simp only
  rw [rNum_pack k _ (by omega)]
  simp only
  rw [rText_pack _ _ (by omega)]
  simp only
  rw [← hk]
theorem rNodeRep_pack : ∀ (l : List NodeV) (rest : List UInt8), (∀ n ∈ l, n.name.length ≤ 20) → (∀ n ∈ l, 1 ≤ n.kind ∧ n.kind ≤ 3) → (∀ n ∈ l, n.dig.length = 64) → rNodeRep l.length (l.flatMap packNode ++ rest) = some (l, rest)
  | [], rest, _, _, _ => rfl
  | n :: l, rest, h1, h2, h3 => by
    rw [List.length_cons, rNodeRep, List.flatMap_cons, List.append_assoc, rNode_pack n _ (h1 n (List.mem_cons_self ..)) (h2 n (List.mem_cons_self ..)) (h3 n (List.mem_cons_self ..))]
    simp only
    rw [rNodeRep_pack l rest (fun x hx => h1 x (List.mem_cons_of_mem _ hx)) (fun x hx => h2 x (List.mem_cons_of_mem _ hx)) (fun x hx => h3 x (List.mem_cons_of_mem _ hx))]
theorem flatN_ge : ∀ (l : List NodeV), l.length ≤ (l.flatMap packNode).length
  | [] => Nat.le_refl _
  | n :: l => by
    have := flatN_ge l
    have := packT_pos n.name
    rw [List.flatMap_cons, List.length_append, List.length_cons, packNode, List.length_append, List.length_append]; omega
theorem rNodes_pack (l : List NodeV) (rest : List UInt8) (h : NodesFit l) : rNodes (packNs l ++ rest) = some (l, rest) := by
  have h0 := h.len
  have hg := flatN_ge l
  have hm : rMany (packN 9 l.length ++ (l.flatMap packNode ++ rest)) = some (l.length, l.flatMap packNode ++ rest) := by
    rw [rMany, rNum_pack _ _ (by omega)]
    simp only
    rw [if_neg (by rw [List.length_append]; omega)]
  rw [packNs, List.append_assoc, rNodes, hm]
  exact rNodeRep_pack l rest h.name h.kind h.dig
theorem readNd_pack (l : List NodeV) (hc : chkN l = 0) : readNd (packNs l) = (l, 0) := by
  have h := rNodes_pack l [] (chk_fit hc)
  rw [List.append_nil] at h
  simp only [readNd, h, nodesOf, hc, if_true]
end Go.Proofs.YtpehmhlgldbeoaaGreatDoor
end
section
set_option linter.unusedVariables false
set_option linter.unusedSimpArgs false
set_option maxRecDepth 20000
set_option maxHeartbeats 4000000
namespace Go.Proofs.YtpehmhlgldbeoaaGreatDoor
open Go Go.Ab
def pfx (path : List UInt8) (f : Fil) : Fil := ⟨path ++ f.path, f.text, f.run⟩
def grF (g : List Fil) (n : List UInt8) : List Fil := g.filter fun f => fstT f.path == n
theorem part_perm : ∀ (ks : List (List UInt8)) (g : List Fil), ks.Nodup → (∀ f ∈ g, fstT f.path ∈ ks) → (ks.flatMap fun n => grF g n).Perm g
  | [], g, _, h => by
    cases g with
    | nil => exact .nil
    | cons f r => have := h f (List.mem_cons_self ..); cases this
  | n :: ks, g, hn, h => by
    obtain ⟨h1, h2⟩ := List.nodup_cons.1 hn
    rw [List.flatMap_cons]
    have ih := part_perm ks (g.filter fun f => !(fstT f.path == n)) h2 (fun f hf => by
      obtain ⟨hf1, hf2⟩ := List.mem_filter.1 hf
      have hf2 : fstT f.path ≠ n := by simpa using hf2
      rcases List.mem_cons.1 (h f hf1) with h3 | h3
      · exact absurd h3 hf2
      · exact h3)
    have e : (ks.flatMap fun m => grF (g.filter fun f => !(fstT f.path == n)) m) = ks.flatMap fun m => grF g m := by
      refine congrArg List.flatten (List.map_congr_left fun m hm => ?_)
      unfold grF
      rw [List.filter_filter]
      apply List.filter_congr
      intro f _
      by_cases e : fstT f.path = m
      · have : fstT f.path ≠ n := fun e2 => h1 (by rw [← e2, e]; exact hm)
        simp [e]
        intro e3; exact this (e.trans e3)
      · simp [e]
    rw [e] at ih
    exact (ih.append_left _).trans (List.filter_append_perm _ _)
theorem back_dir (get : List UInt8 → Option (List UInt8)) : ∀ (d : Nat) (g : List Fil) (n : Nat) (path : List UInt8) (out : List Fil), DirOk (d + 1) g → (∀ t ∈ (dirT (d + 1) g).2, get (sha t) = some t) → get (sha (dirT (d + 1) g).1) = some (dirT (d + 1) g).1 →
    (g = [] → path = []) → (∀ f ∈ g, (path ++ f.path).length ≤ 100) → path.length ≤ 101 → 102 ≤ n + path.length → out.length + g.length ≤ 60 →
    ∃ X, flatD get n (sha (dirT (d + 1) g).1) path out = (out ++ X, 0) ∧ X.Perm (g.map (pfx path)) := by
  intro d
  induction d using Nat.strongRecOn with | ind d ih => ?_
  intro g n path out hg hget hroot h0 hpl hp101 hfuel h60
  obtain ⟨n', rfl⟩ : ∃ n', n = n' + 1 := ⟨n - 1, by omega⟩
  have hdir : dirT (d + 1) g = (packNs (nodsT (dirT d) g (sortT (nmsT g))), blbsT (dirT d) g (sortT (nmsT g))) := rfl
  have hchk := nods_chk hg (dirT d)
  rw [hdir] at hget hroot ⊢
  simp only at hget hroot ⊢
  rw [flatD, hroot]
  simp only [readNd_pack _ hchk]
  rw [if_neg (by simp)]
  have hkm : ∀ m ∈ sortT (nmsT g), m ∈ nmsT g := fun m hm => (sortT_perm _).mem_iff.1 hm
  rw [if_neg (by
    rintro ⟨h1, h2⟩
    apply h2
    apply h0
    unfold nodsT at h1
    rw [List.map_eq_nil_iff] at h1
    cases g with
    | nil => rfl
    | cons f r =>
      have : fstT f.path ∈ sortT (nmsT (f :: r)) := (sortT_perm _).mem_iff.2 (nms_mem.2 ⟨f, by simp, rfl⟩)
      rw [h1] at this; cases this)]
  have inner : ∀ (ks : List (List UInt8)) (o : List Fil), (∀ m ∈ ks, m ∈ sortT (nmsT g)) → o.length + (ks.flatMap fun m => grF g m).length ≤ 60 →
      ∃ X, flatN (flatD get n') get path (nodsT (dirT d) g ks) o = (o ++ X, 0) ∧ X.Perm ((ks.flatMap fun m => grF g m).map (pfx path)) := by
    intro ks
    induction ks with
    | nil => intro o _ _; exact ⟨[], by simp [nodsT, flatN], .nil⟩
    | cons m ks ihk =>
      intro o hks ho
      have hmk := hks m (List.mem_cons_self ..)
      have hm := hkm m hmk
      rw [List.flatMap_cons, List.length_append] at ho
      have hblb : ∀ t ∈ (entT (dirT d) m (grT g m)).2, get (sha t) = some t := fun t ht => hget t (List.mem_flatMap.2 ⟨m, hmk, ht⟩)
      have hgr : grT g m = (grF g m).map stp := rfl
      have hF : ∀ f ∈ grF g m, f ∈ g ∧ fstT f.path = m := fun f hf => by
        obtain ⟨h1, h2⟩ := List.mem_filter.1 hf
        exact ⟨h1, by simpa using h2⟩
      show ∃ X, flatN (flatD get n') get path ((entT (dirT d) m (grT g m)).1 :: nodsT (dirT d) g ks) o = (o ++ X, 0) ∧ X.Perm ((grF g m ++ ks.flatMap fun m => grF g m).map (pfx path))
      rcases hg.sub hm with ⟨f, hf, hfp, hfr, hgf⟩ | ⟨hne, hsub⟩
      · rw [hgf] at hblb ⊢
        have hFl : (grF g m).length = 1 := by rw [hgr] at hgf; have := congrArg List.length hgf; simpa using this
        obtain ⟨f', hf'⟩ : ∃ f', grF g m = [f'] := by
          cases hq : grF g m with
          | nil => rw [hq] at hFl; simp at hFl
          | cons a r =>
            cases r with
            | nil => exact ⟨a, rfl⟩
            | cons b r => rw [hq] at hFl; simp at hFl
        have hst : stp f' = ⟨[], f.text, f.run⟩ := by rw [hgr, hf'] at hgf; simpa using hgf
        obtain ⟨hf'1, hf'2⟩ := hF f' (by rw [hf']; simp)
        have hr' : rstT f'.path = [] := congrArg Fil.path hst
        have ht' : f'.text = f.text := by have := congrArg Fil.text hst; exact this
        have hrun' : f'.run = f.run := by have := congrArg Fil.run hst; exact this
        have hp' : f'.path = m := by rw [← hf'2]; exact ((path_fst (hg.path f' hf'1)).2.2.1 hr').symm
        have hlen := hpl f' hf'1
        rw [hp'] at hlen
        have hen : entT (dirT d) m [⟨[], f.text, f.run⟩] = (⟨m, if f.run = true then 2 else 1, sha f.text⟩, [f.text]) := by rw [entT, if_pos rfl]
        rw [hen] at hblb ⊢
        rw [hf', List.length_singleton] at ho
        rw [flatN]
        rw [if_neg (by show ¬ 100 < (path ++ m).length; omega), if_neg (by show ¬ (if f.run = true then (2 : Int) else 1) = 3; split <;> decide)]
        have hgt : get (sha f.text) = some f.text := hblb f.text (by simp)
        simp only [hgt]
        rw [if_neg (by omega)]
        obtain ⟨X, h1, h2⟩ := ihk (o ++ [⟨path ++ m, f.text, (if f.run = true then (2 : Int) else 1) == 2⟩]) (fun x hx => hks x (List.mem_cons_of_mem _ hx)) (by rw [List.length_append, List.length_singleton]; omega)
        refine ⟨⟨path ++ m, f.text, (if f.run = true then (2 : Int) else 1) == 2⟩ :: X, by rw [h1]; simp, ?_⟩
        rw [hf', List.map_append]
        have e : pfx path f' = ⟨path ++ m, f.text, (if f.run = true then (2 : Int) else 1) == 2⟩ := by
          unfold pfx
          rw [hp', ht', hrun']
          cases f.run <;> rfl
        rw [List.map_cons, List.map_nil, e]
        exact h2.cons _
      · have hgne := gr_ne hm
        obtain ⟨f0, r0, hfr⟩ : ∃ f r, grT g m = f :: r := by
          cases hq : grT g m with
          | nil => exact absurd hq hgne
          | cons f r => exact ⟨f, r, rfl⟩
        have hd1 : ∃ d', d = d' + 1 := by
          cases d with
          | zero => have := hsub.dep f0 (by rw [hfr]; simp); omega
          | succ d' => exact ⟨d', rfl⟩
        obtain ⟨d', hd1⟩ := hd1
        have hen : entT (dirT d) m (grT g m) = (⟨m, 3, sha (dirT d (grT g m)).1⟩, (dirT d (grT g m)).2 ++ [(dirT d (grT g m)).1]) := by
          rw [hfr, entT, if_neg (hne f0 (by rw [hfr]; simp))]
        have hpath : ∀ f ∈ grF g m, f.path = m ++ 47 :: rstT f.path ∧ rstT f.path ≠ [] := by
          intro f hf
          obtain ⟨h1, h2⟩ := hF f hf
          have h3 : rstT f.path ≠ [] := hne (stp f) (by rw [hgr]; exact List.mem_map.2 ⟨f, hf, rfl⟩)
          have h4 := ((path_fst (hg.path f h1)).2.2.2 h3).2
          rw [h2] at h4
          exact ⟨h4, h3⟩
        obtain ⟨f1, hf1⟩ : ∃ f1, f1 ∈ grF g m := by
          cases hq : grF g m with
          | nil => rw [hgr, hq] at hfr; cases hfr
          | cons a r => exact ⟨a, by simp⟩
        have hl1 := hpl f1 (hF f1 hf1).1
        obtain ⟨e1, e2⟩ := hpath f1 hf1
        have hr1 : 0 < (rstT f1.path).length := List.length_pos_iff.2 e2
        rw [e1] at hl1
        simp only [List.length_append, List.length_cons] at hl1
        have hmap : (grT g m).map (pfx (path ++ m ++ [47])) = (grF g m).map (pfx path) := by
          rw [hgr, List.map_map]
          apply List.map_congr_left
          intro f hf
          have := (hpath f hf).1
          show pfx (path ++ m ++ [47]) (stp f) = pfx path f
          unfold pfx stp
          conv => rhs; rw [this]
          simp
        rw [hen] at hblb
        have hih := ih d' (by omega) (grT g m) n' (path ++ m ++ [47]) o (by rw [← hd1]; exact hsub) (by rw [← hd1]; exact fun t ht => hblb t (List.mem_append_left _ ht)) (by rw [← hd1]; exact hblb _ (by simp)) (fun h => absurd h hgne)
          (fun f hf => by
            obtain ⟨f', hf', rfl⟩ := List.mem_map.1 (hgr ▸ hf)
            have h1 := hpl f' (hF f' hf').1
            rw [(hpath f' hf').1] at h1
            simp only [List.length_append, List.length_cons, List.length_singleton] at h1 ⊢
            show path.length + m.length + 1 + (rstT f'.path).length ≤ 100
            omega)
          (by simp only [List.length_append, List.length_singleton]; omega) (by simp only [List.length_append, List.length_singleton]; omega) (by rw [hgr, List.length_map]; omega)
        rw [← hd1] at hih
        obtain ⟨Y, k1, k2⟩ := hih
        rw [hen, flatN]
        rw [if_neg (by show ¬ 100 < (path ++ m).length; simp only [List.length_append]; omega), if_pos rfl]
        show ∃ X, (if (flatD get n' (sha (dirT d (grT g m)).1) (path ++ m ++ [47]) o).2 = 0 then _ else _) = _ ∧ _
        rw [k1, if_pos rfl]
        have hYl : Y.length = (grF g m).length := by rw [k2.length_eq, List.length_map, hgr, List.length_map]
        obtain ⟨X, h1, h2⟩ := ihk (o ++ Y) (fun x hx => hks x (List.mem_cons_of_mem _ hx)) (by rw [List.length_append]; omega)
        refine ⟨Y ++ X, by rw [← List.append_assoc]; exact h1, ?_⟩
        rw [List.map_append]
        rw [hmap] at k2
        exact k2.append h2
  have hpp := part_perm (sortT (nmsT g)) g (sort_nodup (nms_nodup g)) (fun f hf => (sortT_perm _).mem_iff.2 (nms_mem.2 ⟨f, hf, rfl⟩))
  obtain ⟨X, h1, h2⟩ := inner (sortT (nmsT g)) out (fun m hm => hm) (by rw [hpp.length_eq]; exact h60)
  exact ⟨X, h1, h2.trans (hpp.map _)⟩
theorem blob_mem {l : List Fil} {t : List UInt8} : t ∈ blobT l ↔ t ∈ (dirT 101 l).2 ∨ t = (dirT 101 l).1 := by
  unfold blobT
  rw [(sortT_perm _).mem_iff, addU_mem, fold_mem]
  simp
theorem flat_back {l : List Fil} (h : chkT l = 0) {blobs : List (List UInt8)} (hb : ∀ t ∈ blobT l, t ∈ blobs) (hap : ∀ a ∈ blobT l, ∀ b ∈ blobs, sha a = sha b → a = b) : (flatY (rootT l) blobs).2 = 0 ∧ sortFl (flatY (rootT l) blobs).1 = l := by
  have hd := DirOk.of h
  have hget : ∀ t ∈ blobT l, getM (ksB blobs) (txB blobs) (sha t) = some t := by
    intro t ht
    unfold getM
    rw [if_pos (ksB_mem.2 ⟨t, hb t ht, rfl⟩)]
    unfold txB
    cases hq : blobs.reverse.find? (fun s => sha s == sha t) with
    | none =>
      rw [List.find?_eq_none] at hq
      exact absurd (by simp) (hq t (by simpa using hb t ht))
    | some s =>
      have h1 := List.mem_of_find?_eq_some hq
      have h2 : sha s = sha t := by simpa using List.find?_some hq
      have := hap t ht s (by simpa using h1) h2.symm
      rw [this]; rfl
  have hmem : ∀ t, t ∈ (dirT 101 l).2 ∨ t = (dirT 101 l).1 → t ∈ blobT l := by
    intro t ht
    rw [blob_mem]; exact ht
  obtain ⟨X, h1, h2⟩ := back_dir (getM (ksB blobs) (txB blobs)) 100 l 102 [] [] hd (fun t ht => hget t (hmem t (.inl ht))) (hget _ (hmem _ (.inr rfl))) (fun _ => rfl) (fun f hf => (path_fst (hd.path f hf)).2.1) (by decide) (by decide) (by have := hd.len; simpa using this)
  have h1 : flatY (rootT l) blobs = (X, 0) := h1
  rw [h1]
  refine ⟨rfl, ?_⟩
  have e : l.map (pfx []) = l := by
    conv => rhs; rw [← List.map_id l]
    exact List.map_congr_left fun f _ => rfl
  rw [e] at h2
  have hpw : l.Pairwise fun f g => f.path ≤ g.path := hd.ok.1.imp fun hfg => by
    rw [bl_eq, decide_eq_true_eq] at hfg
    exact List.le_of_lt hfg
  have hnd : (X.map Fil.path).Nodup := by
    refine (h2.map Fil.path).nodup_iff.2 ?_
    rw [List.Nodup, List.pairwise_map]
    refine hd.ok.1.imp fun hfg e => ?_
    rw [e, bl_irr] at hfg; cases hfg
  exact (sortFl_uniq hnd h2.symm hpw).symm
end Go.Proofs.YtpehmhlgldbeoaaGreatDoor
end
section
set_option linter.unusedVariables false
set_option linter.unusedSimpArgs false
set_option maxRecDepth 20000
namespace Go.Proofs.YtpehmhlgldbeoaaGreatDoor
open Go Go.Ab
theorem HasText_ok {st fl : Bool} (l : List (List UInt8)) (s : List UInt8) (hl : l.length ≤ 9223372036854775806) : Calc cx 55 [.sl st fl 1 (texts l), .str s] (.bool (l.contains s)) :=
  pure_intro (fun a w => Tryz.call55 a w) Tryz.func55 rfl Tryz.ntmps55 rfl .bool fun B => by
    have htl := texts_len l
    refine ab 1000 rfl trivial ?_
    refine S_while (α := Nat) (fun i => [(0, .sl st fl 1 (texts l)), (1, .str s), (5, .int .i64 (i : Nat))]) (fun _ => []) (fun i => i ≤ l.length ∧ s ∉ l.take i) (fun i => l.length - i) 0
      ⟨Nat.zero_le _, by simp⟩ (.cons rfl (.cons rfl (.cons rfl (.nil _)))) rfl ?_
    rintro i ⟨hi, hN⟩
    have hi : i ≤ l.length := hi
    refine ab 1000 rfl trivial ?_
    refine S_dec rfl (fun hlt => ?_) (fun hlt => ?_)
    · have hil : i < l.length := by have : (i : Int) < ((texts l).length : Nat) := hlt; omega
      refine ab 1000 rfl trivial ?_
      refine S_index (.str l[i]) rfl rfl rfl ⟨rfl, by omega, by rw [Int.toNat_natCast]; exact texts_get hil, trivial⟩ ?_
      refine ab 1000 rfl trivial ?_
      refine S_cond rfl (fun h => ?_) (fun h => ?_)
      · have h : l[i] = s := by simpa using (show (l[i] == s) = true from h)
        refine ab 1000 rfl trivial ?_
        refine S_retc .bool rfl trivial ?_
        rw [List.contains_iff_mem.2 (by rw [← h]; exact List.getElem_mem hil)]; rfl
      · have h : l[i] ≠ s := by simpa using (show (l[i] == s) = false from h)
        refine ab 1000 rfl trivial ?_
        refine S_round (i + 1) (by show l.length - (i + 1) < l.length - i; omega) ⟨hil, fun hm => ?_⟩ (.cons rfl (.cons rfl (.cons (ai64 rfl (by omega)) (.nil _)))) rfl
        rw [List.take_succ_eq_append_getElem hil] at hm
        rcases List.mem_append.1 hm with hm | hm
        · exact hN hm
        · simp at hm; exact h hm.symm
    · have hil : i = l.length := by have : ¬ (i : Int) < ((texts l).length : Nat) := hlt; omega
      rw [hil, List.take_length] at hN
      refine ab 1000 rfl trivial ?_
      refine S_retc .bool rfl trivial ?_
      have : l.contains s = false := by
        cases h : l.contains s with
        | false => rfl
        | true => exact absurd (List.contains_iff_mem.1 h) hN
      rw [this]; rfl
end Go.Proofs.YtpehmhlgldbeoaaGreatDoor
end
section
set_option linter.unusedVariables false
set_option linter.unusedSimpArgs false
set_option maxRecDepth 20000
namespace Go.Proofs.YtpehmhlgldbeoaaGreatDoor
open Go Go.Ab
def clashF : List (List UInt8) → List (List UInt8) → Bool
  | _, [] => false
  | T, x :: r => if T.contains x then clashF T r else if (T.map sha).contains (sha x) then true else clashF (T ++ [x]) r
def Apart (T : List (List UInt8)) : Prop := ∀ a ∈ T, ∀ b ∈ T, sha a = sha b → a = b
theorem clashF_apart : ∀ (r T : List (List UInt8)), clashF T r = false → Apart T → Apart (T ++ r)
  | [], T, h, hT => by rw [List.append_nil]; exact hT
  | x :: r, T, h, hT => by
    rw [clashF] at h
    split at h
    · rename_i hx
      have hx : x ∈ T := List.contains_iff_mem.1 hx
      have := clashF_apart r T h hT
      intro a ha b hb
      refine this a ?_ b ?_
      · simp only [List.mem_append, List.mem_cons] at ha ⊢
        rcases ha with ha | rfl | ha
        · exact .inl ha
        · exact .inl hx
        · exact .inr ha
      · simp only [List.mem_append, List.mem_cons] at hb ⊢
        rcases hb with hb | rfl | hb
        · exact .inl hb
        · exact .inl hx
        · exact .inr hb
    · split at h
      · cases h
      rename_i hx hd
      have hd : ∀ a ∈ T, sha a ≠ sha x := fun a ha e => hd (List.contains_iff_mem.2 (List.mem_map.2 ⟨a, ha, e⟩))
      have := clashF_apart r (T ++ [x]) h (by
        intro a ha b hb e
        simp only [List.mem_append, List.mem_singleton] at ha hb
        rcases ha with ha | rfl <;> rcases hb with hb | rfl
        · exact hT a ha b hb e
        · exact absurd e (hd a ha)
        · exact absurd e.symm (hd b hb)
        · rfl)
      rwa [List.append_assoc] at this
def listsAV (LS : List (List (List UInt8))) : List AV := LS.map fun q => .sl true false 1 (texts q)
theorem Clash_ok {st fl : Bool} (LS : List (List (List UInt8))) (h1 : LS.length ≤ 1000) (h2 : ∀ q ∈ LS, q.length ≤ 2000000) (h3 : ∀ q ∈ LS, ∀ s ∈ q, s.length ≤ 2000000) :
    Calc cx 22 [.sl st fl 1 (listsAV LS)] (.bool (clashF [] LS.flatten)) :=
  pure_intro (fun a w => Tryz.call22 a w) Tryz.func22 rfl Tryz.ntmps22 rfl .bool fun B => by
    have hll : (listsAV LS).length = LS.length := by simp [listsAV]
    refine ab 1000 rfl trivial ?_
    refine S_ghostF (t := 3) 1 ⟨false, none⟩ rfl rfl ⟨_, _, .inl rfl⟩ ?_
    refine S_ghostF (t := 4) 1 ⟨false, none⟩ rfl rfl ⟨_, _, .inl rfl⟩ ?_
    have gL : ∀ {j : Nat} (h : j < LS.length), (listsAV LS)[(j : Int).toNat]? = some (.sl true false 1 (texts LS[j])) := fun h => by
      rw [Int.toNat_natCast]; simp [listsAV, h]
    refine S_while (α := Nat × List (List UInt8) × Nat) (fun (i, T, u) => [(0, .sl st fl 1 (listsAV LS)), (3, .ms 0 u 0 T.length 1 false), (4, .ms 1 u 0 T.length 1 false), (5, .int .i64 (i : Nat))])
      (fun (i, T, u) => [(u, some (.cells (texts T) ⟨false, none⟩)), (u, some (.cells (texts (T.map sha)) ⟨false, none⟩))]) (fun (i, T, u) => i ≤ LS.length ∧ T.length ≤ 2000000 * i ∧ clashF T (LS.drop i).flatten = clashF [] LS.flatten) (fun (i, T, u) => LS.length - i) (0, [], 0)
      ⟨Nat.zero_le _, Nat.zero_le _, rfl⟩ (.cons rfl (.cons rfl (.cons rfl (.cons rfl (.nil _))))) rfl ?_
    rintro ⟨i, T, u⟩ ⟨g1, g2, g3⟩
    have g1 : i ≤ LS.length := g1
    have g2 : T.length ≤ 2000000 * i := g2
    refine ab 1000 rfl trivial ?_
    refine S_dec rfl (fun hlt => ?_) (fun hlt => ?_)
    · have hil : i < LS.length := by have : (i : Int) < (((listsAV LS).length : Nat) : Int) := hlt; omega
      obtain ⟨q, hq⟩ : ∃ q, q = LS[i] := ⟨_, rfl⟩
      have hqm : q ∈ LS := by rw [hq]; exact List.getElem_mem hil
      have gq := gL hil
      rw [← hq] at gq
      have hql := h2 q hqm
      have hqs := h3 q hqm
      have hqt := texts_len q
      have c0 : (0 : Int) ≤ (i : Int) := by omega
      have g3 : clashF T (q ++ (LS.drop (i + 1)).flatten) = clashF [] LS.flatten := by
        rw [← g3, List.drop_eq_getElem_cons hil, List.flatten_cons, hq]
      refine ab 1000 rfl trivial ?_
      refine S_while (α := Nat × List (List UInt8) × Nat) (fun (k, T, u) => [(0, .sl st fl 1 (listsAV LS)), (3, .ms 0 u 0 T.length 1 false), (4, .ms 1 u 0 T.length 1 false), (5, .int .i64 (i : Nat)), (6, .int .i64 (k : Nat))])
        (fun (k, T, u) => [(u, some (.cells (texts T) ⟨false, none⟩)), (u, some (.cells (texts (T.map sha)) ⟨false, none⟩))]) (fun (k, T, u) => k ≤ q.length ∧ T.length ≤ 2000000 * i + k ∧ clashF T (q.drop k ++ (LS.drop (i + 1)).flatten) = clashF [] LS.flatten) (fun (k, T, u) => q.length - k) (0, T, u)
        ⟨Nat.zero_le _, by omega, g3⟩ (.cons rfl (.cons rfl (.cons rfl (.cons rfl (.cons rfl (.nil _)))))) rfl ?_
      rintro ⟨k, T, u⟩ ⟨f1, f2, f3⟩
      have f1 : k ≤ q.length := f1
      have f2 : T.length ≤ 2000000 * i + k := f2
      have f3 : clashF T (q.drop k ++ (LS.drop (i + 1)).flatten) = clashF [] LS.flatten := f3
      have hTl := texts_len T
      have hDl := texts_len (T.map sha)
      rw [List.length_map] at hDl
      refine ab 1000 rfl trivial ?_
      refine S_index (.sl true false 1 (texts q)) rfl rfl rfl ⟨rfl, c0, gq, trivial⟩ ?_
      refine ab 1000 rfl trivial ?_
      refine S_dec rfl (fun hlt => ?_) (fun hlt => ?_)
      · have hkq : k < q.length := by have : (k : Int) < (((texts q).length : Nat) : Int) := hlt; omega
        have c1 : (0 : Int) ≤ (k : Int) := by omega
        obtain ⟨x, hx⟩ : ∃ x, x = q[k] := ⟨_, rfl⟩
        have hxs : x.length ≤ 2000000 := by rw [hx]; exact hqs _ (List.getElem_mem hkq)
        have gk : (texts q)[(k : Int).toNat]? = some (.str x) := by rw [Int.toNat_natCast, hx]; exact texts_get hkq
        rw [List.drop_eq_getElem_cons hkq, ← hx, List.cons_append, clashF] at f3
        refine ab 1000 rfl trivial ?_
        refine S_index (.sl true false 1 (texts q)) rfl rfl rfl ⟨rfl, c0, gq, trivial⟩ ?_
        refine ab 1000 rfl trivial ?_
        refine S_index (.str x) rfl rfl rfl ⟨rfl, c1, gk, trivial⟩ ?_
        refine ab 1000 rfl trivial ?_
        refine S_pure rfl rfl rfl (HasText_ok (st := false) (fl := false) T x (by omega)) (.cons (.ms1 rfl (texts_one _) (by rw [texts_len]) (texts_any _)) (.cons (.refl .str) (.nil _))) ?_
        refine ab 1000 rfl trivial ?_
        refine S_cond rfl (fun hb => ?_) (fun hb => ?_)
        · have hb : T.contains x = true := hb
          rw [if_pos hb] at f3
          refine ab 1000 rfl trivial ?_
          exact S_round (k + 1, T, u) (by show q.length - (k + 1) < q.length - k; omega) ⟨hkq, by omega, f3⟩ (.cons rfl (.cons rfl (.cons rfl (.cons rfl (.cons (ai64 rfl (by omega)) (.nil _)))))) rfl
        · have hb : T.contains x = false := hb
          rw [if_neg (by rw [hb]; decide)] at f3
          refine ab 1000 rfl trivial ?_
          refine S_index (.sl true false 1 (texts q)) rfl rfl rfl ⟨rfl, c0, gq, trivial⟩ ?_
          refine ab 1000 rfl trivial ?_
          refine S_index (.str x) rfl rfl rfl ⟨rfl, c1, gk, trivial⟩ ?_
          refine ab 1000 rfl trivial ?_
          refine S_pure rfl rfl rfl (SumR_ok x (by omega)) (.cons (.refl .str) (.nil _)) ?_
          refine ab 1000 rfl trivial ?_
          refine S_pure rfl rfl rfl (HasText_ok (st := false) (fl := false) (T.map sha) (sha x) (by rw [List.length_map]; omega)) (.cons (.ms1 rfl (texts_one _) hDl (texts_any _)) (.cons (.refl .str) (.nil _))) ?_
          refine ab 1000 rfl trivial ?_
          refine S_cond rfl (fun hd => ?_) (fun hd => ?_)
          · have hd : (T.map sha).contains (sha x) = true := hd
            rw [if_pos hd] at f3
            refine ab 1000 rfl trivial ?_
            refine S_retc .bool rfl trivial ?_
            rw [← f3]; rfl
          · have hd : (T.map sha).contains (sha x) = false := hd
            rw [if_neg (by rw [hd]; decide)] at f3
            refine ab 1000 rfl trivial ?_
            refine S_index (.sl true false 1 (texts q)) rfl rfl rfl ⟨rfl, c0, gq, trivial⟩ ?_
            refine ab 1000 rfl trivial ?_
            refine S_index (.str x) rfl rfl rfl ⟨rfl, c1, gk, trivial⟩ ?_
            refine ab 1000 rfl ⟨?_, ?_, ?_, rfl, rfl, allOne_mem (cs := [.str _]) rfl, allOne_mem (cs := [.str _]) rfl, rfl, ?_, ?_, ?_, rfl, rfl, allOne_mem (cs := [.str _]) rfl, allOne_mem (cs := [.str _]) rfl, rfl, trivial⟩ ?_
            · show T.length + 1 ≤ 9223372036854775807; omega
            · show (T.length + 1) * 16 ≤ 140737488355328; omega
            · show 0 + T.length * 1 = (texts (T.map sha)).length; omega
            · show T.length + 1 ≤ 9223372036854775807; omega
            · show (T.length + 1) * 16 ≤ 140737488355328; omega
            · show 0 + T.length * 1 = (texts T).length; omega
            refine S_round (k + 1, T ++ [x], u + 1) (by show q.length - (k + 1) < q.length - k; omega) ⟨hkq, by rw [List.length_append]; simp only [List.length_cons, List.length_nil]; omega, f3⟩
              (.cons rfl (.cons (by simp; rfl) (.cons (by simp; rfl) (.cons rfl (.cons (ai64 rfl (by omega)) (.nil _)))))) ?_
            show [(u + 1, some (Box.cells (texts T ++ [.str x]) ⟨false, none⟩)), (u + 1, some (Box.cells (texts (T.map sha) ++ [.str (sha x)]) ⟨false, none⟩))] = _
            simp [texts]
      · have hkq : k = q.length := by have : ¬ (k : Int) < (((texts q).length : Nat) : Int) := hlt; omega
        rw [hkq, List.drop_length, List.nil_append] at f3
        refine ab 1000 rfl trivial ?_
        exact S_round (i + 1, T, u) (by show LS.length - (i + 1) < LS.length - i; omega) ⟨hil, by omega, f3⟩ (.cons rfl (.cons rfl (.cons rfl (.cons (ai64 rfl (by omega)) (.nil _))))) rfl
    · have hil : i = LS.length := by have : ¬ (i : Int) < (((listsAV LS).length : Nat) : Int) := hlt; omega
      have g3 : clashF T (LS.drop i).flatten = clashF [] LS.flatten := g3
      rw [hil, List.drop_length] at g3
      refine ab 1000 rfl trivial ?_
      refine S_retc .bool rfl trivial ?_
      rw [← g3]; rfl
end Go.Proofs.YtpehmhlgldbeoaaGreatDoor
end
section
set_option linter.unusedVariables false
set_option linter.unusedSimpArgs false
set_option maxRecDepth 20000
set_option maxHeartbeats 4000000
namespace Go.Proofs.YtpehmhlgldbeoaaGreatDoor
open Go Go.Ab
theorem blb_lens {l : List Fil} (hc : chkT l = 0) : (blobT l).length ≤ 100000 ∧ ∀ t ∈ blobT l, t.length ≤ 100000 := by
  have hd := DirOk.of hc
  constructor
  · rw [blob_set]
    have h1 := setT_len ((dirT 101 l).2 ++ [(dirT 101 l).1])
    have h2 := blb_count hd
    have h3 := hd.len
    have h4 : l.length * 101 ≤ 60 * 101 := Nat.mul_le_mul_right _ h3
    rw [List.length_append, List.length_singleton] at h1
    omega
  · intro t ht
    rcases blob_mem.1 ht with h | rfl
    · exact blb_len hd t h
    · have := dir_len hd; omega
theorem ok_le {l : List Fil} (h : okT l) : l.Pairwise fun f g => f.path ≤ g.path := h.1.imp fun {f g} h => by
  rw [bl_eq] at h
  exact List.le_of_lt (by simpa using h)
theorem ok_paths {l : List Fil} (h : okT l) : (l.map Fil.path).Nodup := by
  refine List.pairwise_map.2 (h.1.imp fun {f g} h e => ?_)
  rw [e, bl_irr] at h; cases h
theorem ok_ext {a b : List Fil} (ha : okT a) (hb : okT b) (h : ∀ f, f ∈ a ↔ f ∈ b) : a = b := by
  have hp : a.Perm b := (List.perm_ext_iff_of_nodup (ok_nodup ha) (ok_nodup hb)).2 h
  rw [sortFl_uniq (ok_paths hb) hp (ok_le ha)]
  exact (sortFl_uniq (ok_paths hb) (List.Perm.refl b) (ok_le hb)).symm
theorem dif_mem {a b : List Fil} (ha : okT a) (hb : okT b) {p : List UInt8} : p ∈ difT (a ++ b) ↔ ∃ f, ((f ∈ a ∧ f ∉ b) ∨ (f ∈ b ∧ f ∉ a)) ∧ f.path = p := by
  unfold difT
  rw [setT_mem]
  simp only [List.mem_map, List.mem_filter, beq_iff_eq, List.mem_append, List.count_append]
  have h0 : ∀ (l : List Fil) (f : Fil), okT l → (f ∈ l ∧ l.count f = 1) ∨ (f ∉ l ∧ l.count f = 0) := fun l f hl => by
    by_cases h : f ∈ l
    · exact .inl ⟨h, ok_count hl h⟩
    · exact .inr ⟨h, List.count_eq_zero_of_not_mem h⟩
  constructor
  · rintro ⟨f, ⟨_, h2⟩, h3⟩
    refine ⟨f, ?_, h3⟩
    rcases h0 a f ha with ⟨k1, k2⟩ | ⟨k1, k2⟩ <;> rcases h0 b f hb with ⟨k3, k4⟩ | ⟨k3, k4⟩
    · omega
    · exact .inl ⟨k1, k3⟩
    · exact .inr ⟨k3, k1⟩
    · omega
  · rintro ⟨f, h1, h3⟩
    refine ⟨f, ⟨?_, ?_⟩, h3⟩
    · rcases h1 with h1 | h1
      · exact .inl h1.1
      · exact .inr h1.1
    · rcases h1 with ⟨k1, k2⟩ | ⟨k1, k2⟩
      · rw [ok_count ha k1, List.count_eq_zero_of_not_mem k2]
      · rw [ok_count hb k1, List.count_eq_zero_of_not_mem k2]
theorem dif_nil {a b : List Fil} (ha : okT a) (hb : okT b) : difT (a ++ b) = [] ↔ a = b := by
  constructor
  · intro h
    refine ok_ext ha hb fun f => ⟨fun hf => Classical.byContradiction fun hn => ?_, fun hf => Classical.byContradiction fun hn => ?_⟩
    · have := (dif_mem ha hb).2 ⟨f, .inl ⟨hf, hn⟩, rfl⟩
      rw [h] at this; cases this
    · have := (dif_mem ha hb).2 ⟨f, .inr ⟨hf, hn⟩, rfl⟩
      rw [h] at this; cases this
  · rintro rfl
    refine List.eq_nil_iff_forall_not_mem.2 fun p hp => ?_
    obtain ⟨f, h, _⟩ := (dif_mem ha ha).1 hp
    rcases h with ⟨h1, h2⟩ | ⟨h1, h2⟩ <;> exact h2 h1
theorem root_inj {a b : List Fil} (ha : chkT a = 0) (hb : chkT b = 0) (hap : Apart (blobT a ++ blobT b)) (h : rootT a = rootT b) : a = b := by
  have h1 := (flat_back ha (blobs := blobT a ++ blobT b) (fun t ht => List.mem_append_left _ ht) (fun x hx y hy e => hap x (List.mem_append_left _ hx) y hy e)).2
  have h2 := (flat_back hb (blobs := blobT a ++ blobT b) (fun t ht => List.mem_append_right _ ht) (fun x hx y hy e => hap x (List.mem_append_right _ hx) y hy e)).2
  rw [h] at h1
  exact h1.symm.trans h2
theorem TreeSame_ok (a b : List Fil) (hk : avB (.sl true false 3 (fils a)) ≤ 1048576) (hk' : avB (.sl true false 3 (fils b)) ≤ 1048576) : Calc cx 10 [.sl true false 3 (fils a), .sl true false 3 (fils b)] (.bool true) :=
  pure_intro (fun a w => Tryz.call10 a w) Tryz.func10 rfl Tryz.ntmps10 rfl .bool fun B => by
    have hA := fils_of hk
    have hB := fils_of hk'
    have hD := Differs_ok (st := true) (fl := false) (st' := true) (fl' := false) a b hA hB
    have hfr : ∀ σ : Heap, Frzs σ [.sl true false 3 (fils a), .sl true false 3 (fils b)] [.sl true false 3 (fils a), .sl true false 3 (fils b)] := fun σ => .cons (fsR a) (.cons (fsR b) (.nil _))
    unfold difAV at hD
    by_cases hc : difE a b = 0
    case neg =>
      rw [if_neg hc] at hD
      generalize difE a b = e at *
      refine pa [.v (.bool true), .b false, .v (.tup [.nils, .int .i64 (e : Nat)]), .b true] rfl ?_ ?_
      · (repeat' with_reducible apply AllP_cons) <;> try exact aC
        · exact ⟨_, treeBegun_ok, .nil _⟩
        · exact ⟨_, hD, hfr _⟩
        · show (((e : Int)) != 0) = true
          rw [chk_bne]; simpa using hc
      exact S_retc .bool rfl trivial rfl
    obtain ⟨h1, h2⟩ := dif_both hc
    have hl := dif_len hc
    rw [if_pos hc] at hD
    have hoa := (DirOk.of h1).ok
    have hob := (DirOk.of h2).ok
    have hda := (DirOk.of h1).len
    have hdb := (DirOk.of h2).len
    have hnil := dif_nil hoa hob
    generalize difT (a ++ b) = d at *
    have hRa := Root_ok (st := true) (fl := false) a hA
    have hRb := Root_ok (st := true) (fl := false) b hB
    unfold rootAV at hRa hRb
    rw [if_pos h1, h1] at hRa
    rw [if_pos h2, h2] at hRb
    have hBa := TreeBlobsR_ok (st := true) (fl := false) a h1
    have hBb := TreeBlobsR_ok (st := true) (fl := false) b h2
    obtain ⟨ka1, ka2⟩ := blb_lens h1
    obtain ⟨kb1, kb2⟩ := blb_lens h2
    have hCl := Clash_ok (st := true) (fl := true) [blobT a, blobT b] (by simp) (by
      intro q hq; simp at hq; rcases hq with rfl | rfl <;> omega) (by
      intro q hq s hs; simp at hq
      rcases hq with rfl | rfl
      · have := ka2 s hs; omega
      · have := kb2 s hs; omega)
    have hS := SameFiles_ok (st := true) (st' := true) (fl := false) (fl' := false) a b (by omega) (by omega)
    have hinj : clashF [] [blobT a, blobT b].flatten = false → rootT a = rootT b → a = b := fun hcl h => by
      have hap := clashF_apart [blobT a, blobT b].flatten [] hcl (fun a ha => by cases ha)
      refine root_inj h1 h2 ?_ h
      simpa using hap
    have hroot : a = b → rootT a = rootT b := fun h => by rw [h]
    generalize rootT a = ra at *
    generalize rootT b = rb at *
    generalize blobT a = ba at *
    generalize blobT b = bb at *
    cases hcl : clashF [] [ba, bb].flatten with
    | true =>
      rw [hcl] at hCl
      refine pa [.v (.bool true), .b false, .v (.tup [.sl true false 1 (texts d), .int .i64 ((0 : Nat) : Int)]), .b false, .v (.tup [.str ra, .int .i64 ((0 : Nat) : Int)]), .v (.tup [.str rb, .int .i64 ((0 : Nat) : Int)]), .v (.sl true false 1 (texts ba)), .v (.sl true false 1 (texts bb)), .v (.bool true), .b true] rfl ?_ ?_
      · (repeat' with_reducible apply AllP_cons) <;> try exact aC
        · exact ⟨_, treeBegun_ok, .nil _⟩
        · exact ⟨_, hD, hfr _⟩
        · exact ⟨_, hRa, .cons (fsR a) (.nil _)⟩
        · exact ⟨_, hRb, .cons (fsR b) (.nil _)⟩
        · exact ⟨_, hBa, .cons (fsR a) (.nil _)⟩
        · exact ⟨_, hBb, .cons (fsR b) (.nil _)⟩
        · exact ⟨_, hCl, .cons (.refl (.sl (fun h => by cases h) (by intro x hx; simp [listsAV] at hx; rcases hx with rfl | rfl; exact .sl (fun h => by cases h) (texts_any _); exact .sl (fun h => by cases h) (texts_any _)))) (.nil _)⟩
      exact S_retc .bool rfl trivial rfl
    | false =>
      rw [hcl] at hCl
      have e1 : (ra == rb) = decide (a = b) := by
        by_cases h : a = b
        · rw [decide_eq_true h, hroot h]; simp
        · rw [decide_eq_false h]
          simpa using fun e => h (hinj hcl e)
      have e2 : ((((texts d).length : Nat) : Int) == 0) = decide (a = b) := by
        rw [txl]
        by_cases h : a = b
        · rw [decide_eq_true h, hnil.2 h]; rfl
        · rw [decide_eq_false h]
          have : d ≠ [] := fun e => h (hnil.1 e)
          have : d.length ≠ 0 := fun e => this (List.length_eq_zero_iff.1 e)
          simpa using this
      have e3 : ((ra == rb) == ((((texts d).length : Nat) : Int) == 0)) = true := by rw [e1, e2]; exact beq_self_eq_true _
      refine pa [.v (.bool true), .b false, .v (.tup [.sl true false 1 (texts d), .int .i64 ((0 : Nat) : Int)]), .b false, .v (.tup [.str ra, .int .i64 ((0 : Nat) : Int)]), .v (.tup [.str rb, .int .i64 ((0 : Nat) : Int)]), .v (.sl true false 1 (texts ba)), .v (.sl true false 1 (texts bb)), .v (.bool false), .b false, .b true, .b true, .b true, .v (.bool (decide (a = b)))] rfl ?_ ?_
      · (repeat' with_reducible apply AllP_cons) <;> try exact aC
        · exact ⟨_, treeBegun_ok, .nil _⟩
        · exact ⟨_, hD, hfr _⟩
        · exact ⟨_, hRa, .cons (fsR a) (.nil _)⟩
        · exact ⟨_, hRb, .cons (fsR b) (.nil _)⟩
        · exact ⟨_, hBa, .cons (fsR a) (.nil _)⟩
        · exact ⟨_, hBb, .cons (fsR b) (.nil _)⟩
        · exact ⟨_, hCl, .cons (.refl (.sl (fun h => by cases h) (by intro x hx; simp [listsAV] at hx; rcases hx with rfl | rfl; exact .sl (fun h => by cases h) (texts_any _); exact .sl (fun h => by cases h) (texts_any _)))) (.nil _)⟩
        · exact ⟨_, hS, hfr _⟩
      refine S_retc .bool rfl trivial ?_
      show AV.bool (((((texts d).length : Nat) : Int) == 0) == decide (a = b)) = _
      rw [e2, beq_self_eq_true]
end Go.Proofs.YtpehmhlgldbeoaaGreatDoor
end
section
set_option linter.unusedVariables false
set_option linter.unusedSimpArgs false
set_option maxRecDepth 20000
namespace Go.Proofs.YtpehmhlgldbeoaaGreatDoor
open Go Go.Ab
theorem open_file {H : Type} {d : DataW H} {a : AV} (h : RdD Tryz.prog 48 d a) : ∃ f : Fil, a = filA f := by
  obtain ⟨ds, xs, rfl, rfl, hall⟩ := h.inv_st Tryz.underlying48
  obtain ⟨d0, ds, x0, xs, rfl, rfl, h0, hall⟩ := hall.cons
  obtain ⟨d1, ds, x1, xs, rfl, rfl, h1, hall⟩ := hall.cons
  obtain ⟨d2, ds, x2, xs, rfl, rfl, h2, hall⟩ := hall.cons
  obtain ⟨rfl, rfl⟩ := hall.nil
  obtain ⟨s0, rfl, rfl, _⟩ := h0.inv_str Tryz.underlying9
  obtain ⟨s1, rfl, rfl, _⟩ := h1.inv_str Tryz.underlying9
  obtain ⟨b, rfl, rfl⟩ := h2.inv_bool Tryz.underlying4
  exact ⟨⟨s0, s1, b⟩, rfl⟩
theorem open_F {H : Type} {d : DataW H} {a : AV} (h : RdD Tryz.prog 22 d a) : ∃ l : List Fil, a = .sl true false 3 (fils l) := by
  obtain ⟨ds, xs, rfl, hl, hm, hall, _⟩ := h.inv_sl Tryz.underlying22
  obtain ⟨ys, rfl, hy, hg⟩ := RdD.each filA (fun _ _ => True) hl hall (fun d x h => by
    obtain ⟨f, rfl⟩ := open_file h
    exact ⟨f, rfl, trivial⟩)
  have hc : Tryz.prog.cellsOf 48 = 3 := by kernel_rfl
  exact ⟨ys, by rw [hc]; rfl⟩
end Go.Proofs.YtpehmhlgldbeoaaGreatDoor
end
section
set_option linter.unusedVariables false
set_option linter.unusedSimpArgs false
set_option maxRecDepth 20000
set_option maxHeartbeats 4000000
namespace Go.Proofs.YtpehmhlgldbeoaaGreatDoor
open Go Go.Ab
theorem lastF_app (u v : List Fil) (p : List UInt8) : lastF (u ++ v) p = if p ∈ ksP v then lastF v p else lastF u p := by
  have hf : ∀ (l : List Fil), p ∉ ksP l → l.reverse.find? (fun f => f.path == p) = none := fun l h => by
    rw [List.find?_eq_none]
    intro f hf e
    exact h (ksP_mem.2 ⟨f, by simpa using hf, by simpa using e⟩)
  have ht : ∀ (l : List Fil), p ∈ ksP l → ∃ f, l.reverse.find? (fun f => f.path == p) = some f := fun l h => by
    cases hq : l.reverse.find? (fun f => f.path == p) with
    | some f => exact ⟨f, rfl⟩
    | none =>
      rw [List.find?_eq_none] at hq
      obtain ⟨f, h1, h2⟩ := ksP_mem.1 h
      exact absurd (by simpa using h2) (hq f (by simpa using h1))
  unfold lastF
  rw [List.reverse_append, List.find?_append]
  by_cases h : p ∈ ksP v
  · rw [if_pos h]
    obtain ⟨f, hq⟩ := ht v h
    rw [hq]; rfl
  · rw [if_neg h, hf v h]; rfl
theorem ksP_app {u v : List Fil} {p : List UInt8} : p ∈ ksP (u ++ v) ↔ p ∈ ksP u ∨ p ∈ ksP v := by
  simp only [ksP_mem, List.mem_append]
  constructor
  · rintro ⟨f, h | h, e⟩
    · exact .inl ⟨f, h, e⟩
    · exact .inr ⟨f, h, e⟩
  · rintro (⟨f, h, e⟩ | ⟨f, h, e⟩)
    · exact ⟨f, .inl h, e⟩
    · exact ⟨f, .inr h, e⟩
theorem ksP_ov {u : List Fil} {p : List UInt8} : p ∈ ksP (ovT u) ↔ p ∈ ksP u := by
  rw [ksP_mem, ksP_mem]
  constructor
  · rintro ⟨f, h, e⟩; exact ⟨f, ov_sub h, e⟩
  · rintro ⟨f, h, e⟩
    obtain ⟨g, h1, h2⟩ := ov_has h
    exact ⟨g, h1, h2.trans e⟩
theorem lastF_ov {u : List Fil} {p : List UInt8} (h : p ∈ ksP u) : lastF (ovT u) p = lastF u p := by
  obtain ⟨h1, h2⟩ := lastF_mem (ksP_ov.2 h)
  obtain ⟨q, hq, e⟩ := ov_mem.1 h1
  have := (lastF_mem hq).2
  rw [e, h2] at this
  rw [← e, this]
theorem ov_ext {u v : List Fil} (hk : ∀ p, p ∈ ksP u ↔ p ∈ ksP v) (h : ∀ p ∈ ksP u, lastF u p = lastF v p) : ovT u = ovT v := by
  have hs : sortT (ksP u) = sortT (ksP v) := sortT_eq (nodup_perm (ksP_nodup u) (ksP_nodup v) hk)
  unfold ovT
  rw [← hs]
  exact List.map_congr_left fun p hp => h p ((sortT_perm _).mem_iff.1 hp)
theorem ov_left (u v : List Fil) : ovT (ovT u ++ v) = ovT (u ++ v) := by
  refine ov_ext (fun p => by rw [ksP_app, ksP_app, ksP_ov]) fun p hp => ?_
  rw [lastF_app, lastF_app]
  by_cases h : p ∈ ksP v
  · rw [if_pos h, if_pos h]
  · rw [if_neg h, if_neg h]
    rcases ksP_app.1 hp with h1 | h1
    · exact lastF_ov (ksP_ov.1 h1)
    · exact absurd h1 h
theorem ov_right (u v : List Fil) : ovT (u ++ ovT v) = ovT (u ++ v) := by
  refine ov_ext (fun p => by rw [ksP_app, ksP_app, ksP_ov]) fun p hp => ?_
  rw [lastF_app, lastF_app]
  by_cases h : p ∈ ksP v
  · rw [if_pos h, if_pos (ksP_ov.2 h), lastF_ov h]
  · rw [if_neg h, if_neg (fun h' => h (ksP_ov.1 h'))]
theorem ov_twice (u v : List Fil) : ovT ((u ++ v) ++ v) = ovT (u ++ v) := by
  refine ov_ext (fun p => by rw [ksP_app, ksP_app]; exact ⟨fun h => h.elim id .inr, .inl⟩) fun p hp => ?_
  rw [lastF_app]
  by_cases h : p ∈ ksP v
  · rw [if_pos h, lastF_app, if_pos h]
  · rw [if_neg h]
theorem lastF_self {l : List Fil} (h : okT l) {f : Fil} (hf : f ∈ l) : lastF l f.path = f := by
  obtain ⟨h1, h2⟩ := lastF_mem (l := l) (ksP_mem.2 ⟨f, hf, rfl⟩)
  exact ok_path h h1 hf h2
theorem dif_ov {a b : List Fil} (ha : okT a) (ho : okT (ovT (a ++ b))) {p : List UInt8} (hp : p ∈ difT (a ++ ovT (a ++ b))) : ∃ f ∈ b, f.path = p := by
  apply Classical.byContradiction
  intro hn
  have hk : p ∉ ksP b := fun h => hn (ksP_mem.1 h)
  obtain ⟨f, h, rfl⟩ := (dif_mem ha ho).1 hp
  have hl : lastF (a ++ b) f.path = lastF a f.path := by rw [lastF_app, if_neg hk]
  rcases h with ⟨h1, h2⟩ | ⟨h1, h2⟩
  · refine h2 (ov_mem.2 ⟨f.path, ksP_mem.2 ⟨f, List.mem_append_left _ h1, rfl⟩, ?_⟩)
    rw [hl, lastF_self ha h1]
  · obtain ⟨q, hq, e⟩ := ov_mem.1 h1
    have hqp := (lastF_mem hq).2
    rw [e] at hqp
    subst hqp
    rw [hl] at e
    have hka : f.path ∈ ksP a := (ksP_app.1 hq).elim id fun h => absurd h hk
    exact h2 (e ▸ (lastF_mem hka).1)
theorem ov_two {a b : List Fil} (hE : ovE a b = 0) : chkT a = 0 ∧ chkT b = 0 ∧ ovX (ovT (a ++ b)) = 0 := by
  have hca : chkT a = 0 := by
    by_cases h : chkT a = 0
    · exact h
    · unfold ovE at hE; rw [if_neg h, if_neg h] at hE; exact absurd hE h
  have hcb : chkT b = 0 := by
    by_cases h : chkT b = 0
    · exact h
    · unfold ovE at hE; rw [if_pos hca, if_neg h] at hE; exact absurd hE h
  refine ⟨hca, hcb, ?_⟩
  unfold ovE at hE; rw [if_pos hca, if_pos hcb] at hE; exact hE
theorem Over_d {st fl st' fl' : Bool} {a b : List Fil} (ha : DirOk 101 a) (hb : DirOk 101 b) : Calc cx 39 [.sl st fl 3 (fils a), .sl st' fl' 3 (fils b)] (flatSV (ovT (a ++ b), ovX (ovT (a ++ b)))) := by
  have h := flatS (Over_ok (st := st) (fl := fl) (st' := st') (fl' := fl') a b (fok_of ha) (fok_of hb))
  unfold ovE at h
  rw [if_pos (chk_of ha), if_pos (chk_of hb)] at h
  exact h
theorem TreeLays_ok (a b c : List Fil) (ha : avB (.sl true false 3 (fils a)) ≤ 1048576) (hb : avB (.sl true false 3 (fils b)) ≤ 1048576) (hc : avB (.sl true false 3 (fils c)) ≤ 1048576) :
    Calc cx 13 [.sl true false 3 (fils a), .sl true false 3 (fils b), .sl true false 3 (fils c)] (.bool true) :=
  pure_intro (fun a w => Tryz.call13 a w) Tryz.func13 rfl Tryz.ntmps13 rfl .bool fun B => by
    have hA := flatS (Over_ok (st := true) (fl := false) (st' := true) (fl' := false) a b (fils_of ha) (fils_of hb))
    have hB := flatS (Over_ok (st := true) (fl := false) (st' := true) (fl' := false) b c (fils_of hb) (fils_of hc))
    have fr2 : ∀ (σ : Heap) (x y : List Fil), Frzs σ [.sl true false 3 (fils x), .sl true false 3 (fils y)] [.sl true false 3 (fils x), .sl true false 3 (fils y)] := fun σ x y => .cons (fsR x) (.cons (fsR y) (.nil _))
    by_cases hE : ovE a b = 0
    case neg =>
      refine pa [.v (.bool true), .b false, .v (flatSV (ovT (a ++ b), ovE a b)), .v (flatSV (ovT (b ++ c), ovE b c)), .b true, .b true] rfl ?_ ?_
      · (repeat' with_reducible apply AllP_cons) <;> try exact aC
        all_goals first
          | exact ⟨_, treeBegun_ok, .nil _⟩
          | exact ⟨_, hA, fr2 _ _ _⟩
          | exact ⟨_, hB, fr2 _ _ _⟩
          | (show ((((ovE a b : Nat) : Int)) != 0) = true; rw [chk_bne]; simpa using hE)
      exact S_retc .bool rfl trivial rfl
    by_cases hF : ovE b c = 0
    case neg =>
      rw [hE] at hA
      refine pa [.v (.bool true), .b false, .v (flatSV (ovT (a ++ b), 0)), .v (flatSV (ovT (b ++ c), ovE b c)), .b false, .b true] rfl ?_ ?_
      · (repeat' with_reducible apply AllP_cons) <;> try exact aC
        all_goals first
          | exact ⟨_, treeBegun_ok, .nil _⟩
          | exact ⟨_, hA, fr2 _ _ _⟩
          | exact ⟨_, hB, fr2 _ _ _⟩
          | (show ((((ovE b c : Nat) : Int)) != 0) = true; rw [chk_bne]; simpa using hF)
      exact S_retc .bool rfl trivial rfl
    rw [hE] at hA
    rw [hF] at hB
    obtain ⟨hca, hcb, hX⟩ := ov_two hE
    obtain ⟨_, hcc, hY⟩ := ov_two hF
    have da := DirOk.of hca
    have db := DirOk.of hcb
    have dc := DirOk.of hcc
    have dab := ov_dirOk da db hX
    have dbc := ov_dirOk db dc hY
    have hO1 := Over_d (st := true) (fl := false) (st' := true) (fl' := false) dab dc
    have hO2 := Over_d (st := true) (fl := false) (st' := true) (fl' := false) da dbc
    have hO3 := Over_d (st := true) (fl := false) (st' := true) (fl' := false) dab db
    rw [ov_left] at hO1
    rw [ov_right, ← List.append_assoc] at hO2
    rw [ov_left, ov_twice, hX] at hO3
    have hD := Differs_ok (st := true) (fl := false) (st' := true) (fl' := false) a (ovT (a ++ b)) (fok_of da) (fok_of dab)
    have hde : difE a (ovT (a ++ b)) = 0 := by unfold difE; rw [if_pos hca]; exact chk_of dab
    have hdl := dif_len hde
    unfold difAV at hD
    rw [if_pos hde] at hD
    have hin : ∀ p ∈ difT (a ++ ovT (a ++ b)), ∃ f ∈ b, f.path = p := fun p hp => dif_ov da.ok dab.ok hp
    have hlo := dab.len
    have hlb := db.len
    have hS3 := SameFiles_ok (st := true) (st' := true) (fl := false) (fl' := false) (ovT (a ++ b)) (ovT (a ++ b)) (by omega) (by omega)
    rw [decide_eq_true rfl] at hS3
    have hxl : (ovT (a ++ b ++ c)).length ≤ 1000 := by
      have h1 : (ovT (a ++ b ++ c)).length = (ksP (a ++ b ++ c)).length := by unfold ovT; rw [List.length_map, (sortT_perm _).length_eq]
      have h2 := ksP_len (a ++ b ++ c)
      have h3 := da.len
      have h4 := dc.len
      rw [List.length_append, List.length_append] at h2
      omega
    generalize ovT (a ++ b) = o at *
    generalize ovT (b ++ c) = q at *
    generalize difT (a ++ o) = d at *
    have hS1 := SameFiles_ok (st := true) (st' := true) (fl := false) (fl' := false) (ovT (a ++ b ++ c)) (ovT (a ++ b ++ c)) (by omega) (by omega)
    rw [decide_eq_true rfl] at hS1
    generalize ovT (a ++ b ++ c) = X at *
    have htd := txl d
    by_cases hXe : ovX X = 0
    case' pos =>
      rw [hXe] at hO1 hO2
      refine pa [.v (.bool true), .b false, .v (flatSV (o, 0)), .v (flatSV (q, 0)), .b false, .b false, .v (flatSV (X, 0)), .v (flatSV (X, 0)), .b true, .b true, .v (.bool true), .b false, .v (.tup [.sl true false 1 (texts d), .int .i64 ((0 : Nat) : Int)]), .b false] rfl ?_ ?_
    case' neg =>
      generalize hXv : ovX X = xe at *
      refine pa [.v (.bool true), .b false, .v (flatSV (o, 0)), .v (flatSV (q, 0)), .b false, .b false, .v (flatSV (X, xe)), .v (flatSV (X, xe)), .b false, .b false, .b false, .v (.tup [.sl true false 1 (texts d), .int .i64 ((0 : Nat) : Int)]), .b false] rfl ?_ ?_
    case pos.refine_1 =>
      (repeat' with_reducible apply AllP_cons) <;> try exact aC
      all_goals first
        | exact ⟨_, treeBegun_ok, .nil _⟩
        | exact ⟨_, hA, fr2 _ _ _⟩
        | exact ⟨_, hB, fr2 _ _ _⟩
        | exact ⟨_, hO1, fr2 _ _ _⟩
        | exact ⟨_, hO2, fr2 _ _ _⟩
        | exact ⟨_, hS1, fr2 _ _ _⟩
        | exact ⟨_, hD, fr2 _ _ _⟩
    case neg.refine_1 =>
      (repeat' with_reducible apply AllP_cons) <;> try exact aC
      all_goals first
        | exact ⟨_, treeBegun_ok, .nil _⟩
        | exact ⟨_, hA, fr2 _ _ _⟩
        | exact ⟨_, hB, fr2 _ _ _⟩
        | exact ⟨_, hO1, fr2 _ _ _⟩
        | exact ⟨_, hO2, fr2 _ _ _⟩
        | exact ⟨_, hD, fr2 _ _ _⟩
        | (show (((xe : Int)) == 0) = false; simpa using hXe)
    all_goals
      refine S_while (α := Nat) (fun i => [(1, .sl true false 3 (fils b)), (7, .sl true false 3 (fils o)), (13, .sl true false 1 (texts d)), (14, .int .i64 (i : Nat))]) (fun _ => []) (fun i => i ≤ d.length) (fun i => d.length - i) 0
        (Nat.zero_le _) (.cons rfl (.cons rfl (.cons rfl (.cons rfl (.nil _))))) rfl ?_
      intro i hi
      have hi : i ≤ d.length := hi
      by_cases hlt : i < d.length
      · have e1 : decide ((i : Int) < (((texts d).length : Nat) : Int)) = true := decide_eq_true (by omega)
        have g1 : (texts d)[(i : Int).toNat]? = some (.str d[i]) := by rw [Int.toNat_natCast]; simp [texts, List.getElem?_eq_getElem hlt]
        have hFA := FileAt_ok (st := true) (fl := false) b d[i] (by omega)
        obtain ⟨f, hf, hfp⟩ := hin _ (List.getElem_mem hlt)
        rcases atF_cases b d[i] with ⟨_, k2⟩ | ⟨j, hj, k1, _⟩
        · exact absurd hfp (k2 f hf)
        rw [k1] at hFA
        have e2 : decide ((j : Int) < 0) = false := decide_eq_false (by omega)
        refine pa [.b true, .v (.str d[i]), .v (.int .i64 (j : Nat)), .b false] rfl ?_ ?_
        · (repeat' with_reducible apply AllP_cons) <;> try exact aC
          · exact ⟨_, hFA, .cons (fsR b) (.cons (.refl .str) (.nil _))⟩
        exact S_round (i + 1) (by show d.length - (i + 1) < d.length - i; omega) hlt (.cons rfl (.cons rfl (.cons rfl (.cons (nX (by omega)) (.nil _))))) rfl
      · have hil : i = d.length := by omega
        subst hil
        have e1 : decide ((d.length : Int) < (((texts d).length : Nat) : Int)) = false := decide_eq_false (by omega)
        refine pa [.b false, .v (flatSV (o, 0)), .b true, .v (.bool true)] rfl ?_ ?_
        · (repeat' with_reducible apply AllP_cons) <;> try exact aC
          · exact ⟨_, hO3, fr2 _ _ _⟩
          · exact ⟨_, hS3, fr2 _ _ _⟩
        exact S_retc .bool rfl trivial rfl
end Go.Proofs.YtpehmhlgldbeoaaGreatDoor
end
