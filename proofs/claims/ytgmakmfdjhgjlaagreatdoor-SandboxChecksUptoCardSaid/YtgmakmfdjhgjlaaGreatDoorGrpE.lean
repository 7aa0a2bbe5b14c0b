/-
  Texts of our own, in one file.
-/
import Derived.Test.YtgmakmfdjhgjlaaGreatDoorGrpD
import Derived.RangeFuncLeaves
import Derived.RangeFuncGives
import Derived.OwnWalkIn
import Derived.Below
section
set_option linter.unusedVariables false
set_option linter.unusedSimpArgs false
set_option maxRecDepth 20000
set_option maxHeartbeats 4000000
namespace Go.Proofs.YtgmakmfdjhgjlaaGreatDoor
open Go Go.Ab
def SortsF : Prop := ∀ (a b c d e x : Nat) (fs : List Fil) (m : Mc) (g : Tag) (τ : Heap), (ksP m.made).length ≤ 1000 → CallOk cx 26 [.func (.func 65) [] [.ptr 5 x 0], .func (.func 28) [] []] (mcH a b c d e fs m ((x, some (.cells [.map 1 b] g)) :: τ))
    (fun o s => o = .ret (.sl true false 3 (fils (ovT m.made))) ∧ s = mcH a b c d e fs m ((x, some (.cells [.map 1 b] g)) :: τ))
theorem call_step {L : Nat} {fs : List Fil} (hf : TrOk fs) {x : Ln} (hx : LnOk L x) (hL : L ≤ 1000) : ∃ (g : FuncId) (i : Nat), findK (.str x.op) stKV 0 = some (some (i, .func (.func g) [] [])) ∧
    ∀ (a b c d e : Nat) (m : Mc) (τ : Heap), McI m → CallOk cx g ([] ++ [.ptr 3 d 0, lnA x] ++ []) (mcH a b c d e fs m τ) (fun o s => o = .ret (.tup []) ∧ s = mcH a b c d e fs (stepM fs x m) τ) := by
  have hpl : ∀ {p : List UInt8}, isPathB p = true → p.length ≤ 10000000 := fun h => by have := (path_fst h).2.1; omega
  have hq : ∀ {m : Mc}, McI m → ∀ q ∈ ksP m.made, q.length ≤ 10000000 := fun hm q hq => by
    obtain ⟨f, hf, rfl⟩ := ksP_mem.1 hq
    exact hpl (hm.pth f hf).1
  cases hx with
  | @set c0 t _ _ ht => exact ⟨_, 0, rfl, fun a b c d e m τ hm => st1_ok fs [c0] t (by omega) a b c d e m τ hm.ok⟩
  | @read c0 p => exact ⟨_, 1, rfl, fun a b c d e m τ hm => st2_ok fs hf [c0] p _ a b c d e m τ hm.ok⟩
  | @list c0 p _ _ hp => exact ⟨_, 2, rfl, fun a b c d e m τ hm => st3_ok fs hf [c0] p (by rcases hp with rfl | hp; decide; exact hpl hp) _ a b c d e m τ hm.ok⟩
  | @join c0 d0 => exact ⟨_, 3, rfl, fun a b c d e m τ hm => st4_ok fs [c0] [d0] _ a b c d e m τ hm.ok⟩
  | @cut c0 v w i j _ _ hv hw => exact ⟨_, 4, rfl, fun a b c d e m τ hm => st5_ok fs [c0] [v, w] 0 i j (by have := (numT_le hv).1; omega) (by have := (numT_le hw).1; omega) a b c d e m τ hm.ok⟩
  | @size c0 d0 => exact ⟨_, 5, rfl, fun a b c d e m τ hm => st6_ok fs [c0] [d0] _ a b c d e m τ hm.ok⟩
  | @sum c0 => exact ⟨_, 6, rfl, fun a b c d e m τ hm => st7_ok fs [c0] _ a b c d e m τ hm.ok⟩
  | @make c0 p _ _ hp => exact ⟨_, 7, rfl, fun a b c d e m τ hm => st8_ok fs p [c0] _ (hpl hp) a b c d e m τ hm.ok (hq hm)⟩
  | @run c0 p _ _ hp => exact ⟨_, 8, rfl, fun a b c d e m τ hm => st9_ok fs p [c0] _ (hpl hp) a b c d e m τ hm.ok (hq hm)⟩
  | @same c0 d0 w j => exact ⟨_, 9, rfl, fun a b c d e m τ hm => st10_ok fs [c0] [d0] [w] 0 0 j a b c d e m τ hm.ok⟩
  | @less c0 d0 w j => exact ⟨_, 10, rfl, fun a b c d e m τ hm => st11_ok fs [c0] [d0] [w] 0 0 j a b c d e m τ hm.ok⟩
  | @goto w j => exact ⟨_, 11, rfl, fun a b c d e m τ hm => st12_ok fs [w] j a b c d e m τ hm.ok⟩
  | @exit w j => exact ⟨_, 12, rfl, fun a b c d e m τ hm => st13_ok fs [w] j a b c d e m τ hm.ok⟩
def runAV (fs : List Fil) (com : List (List UInt8)) (fuel : Int) : AV :=
  .tup [.sl true false 3 (fils (if boxE fs com fuel = 0 then ovT (runT fs com fuel.toNat).made else [])), .int .i64 (if boxE fs com fuel = 0 then (runT fs com fuel.toNat).code else 0 : Nat),
    .int .i64 (if boxE fs com fuel = 0 then fuel.toNat - (runT fs com fuel.toNat).left else 0 : Nat), .int .i64 (boxE fs com fuel : Nat)]
theorem runAV_free (fs : List Fil) (com : List (List UInt8)) (fuel : Int) : Free true (runAV fs com fuel) := .tup (by intro x hx; simp at hx; rcases hx with rfl | rfl | rfl | rfl; exact .sl (fun _ => rfl) (fils_free _); exact .int; exact .int; exact .int)
theorem run_frz {σ : Heap} {a : AV} {l : List AV} {i j e i' j' e' : Int} (h : Frz true σ a (.sl true false 3 l)) (hi : i = i') (hj : j = j') (he : e = e') : Frz true σ (.tup [a, .int .i64 i, .int .i64 j, .int .i64 e]) (.tup [.sl true false 3 l, .int .i64 i', .int .i64 j', .int .i64 e']) := by
  subst hi; subst hj; subst he
  refine .tup rfl fun k h1 h2 => ?_
  match k, h1 with
  | 0, _ => exact h
  | 1, _ => exact .refl .int
  | 2, _ => exact .refl .int
  | 3, _ => exact .refl .int
  | k + 4, h => exact absurd h (by simp)
theorem TrOk.of {fs : List Fil} (h : chkT fs = 0) : TrOk fs := by
  have hd := DirOk.of h
  exact ⟨hd.len, ok_paths hd.ok, fun f hf => (path_fst (hd.path f hf)).2.1, hd.text⟩
theorem ksP_nd {l : List Fil} (h : (l.map Fil.path).Nodup) : ksP l = l.map Fil.path := by
  have key : ∀ (l : List Fil) (a : List (List UInt8)), (a ++ l.map Fil.path).Nodup → l.foldl (fun ks f => addU ks f.path) a = a ++ l.map Fil.path := by
    intro l
    induction l with
    | nil => intro a _; simp
    | cons f r ih =>
      intro a ha
      rw [List.map_cons] at ha
      have hn : f.path ∉ a := fun hm => (List.nodup_append.1 ha).2.2 f.path hm f.path (List.mem_cons_self ..) rfl
      rw [List.foldl_cons, addU, if_neg hn, ih _ (by rw [List.append_assoc]; exact ha), List.map_cons, List.append_assoc]; rfl
  have := key l [] (by simpa using h)
  simpa [ksP] using this
def mcG (e n : Nat) (fs gs : List Fil) (m : Mc) (τ : Heap) : Heap :=
  (0, mapBx (fs.map Fil.path) (vaP fs)) :: (0, mapBx (ksP m.made) (vaP m.made)) :: (0, regX m) :: (0, some (.cells (mcC 0 0 0 n n m) ⟨false, some 54⟩)) :: (e, some (.cells (texts (gs.map Fil.path)) ⟨false, none⟩)) :: τ
theorem Run_ok (hSF : SortsF) {st fl st' fl' : Bool} (fs : List Fil) (com : List (List UInt8)) (fuel : Int) (hfs : FilsOk fs) (hcl : com.length ≤ 1000000000000) (hfu : -9223372036854775808 ≤ fuel ∧ fuel ≤ 9223372036854775807) :
    Calc cx 13 [.sl st fl 3 (fils fs), .sl st' fl' 1 (texts com), .int .i64 fuel] (runAV fs com fuel) :=
  pure_intro (fun a w => Tryz.call13 a w) Tryz.func13 rfl Tryz.ntmps13 rfl (runAV_free fs com fuel) fun B => by
    have hC := Check_ok (st := st) (fl := fl) fs hfs
    have hP := program_ok (st := st') (fl := fl') com hcl
    have hfr1 : ∀ σ : Heap, Frzs σ [.sl st fl 3 (fils fs)] [.sl st fl 3 (fils fs)] := fun σ => .cons (.refl (.sl (fun h => by cases h) (fils_free _))) (.nil _)
    have hfr2 : ∀ σ : Heap, Frzs σ [.sl st' fl' 1 (texts com)] [.sl st' fl' 1 (texts com)] := fun σ => .cons (.refl (.sl (fun h => by cases h) (texts_any _))) (.nil _)
    unfold runAV
    by_cases h0 : chkT fs = 0
    case neg =>
      have hb : boxE fs com fuel = chkT fs := by unfold boxE; rw [if_neg h0]
      rw [hb, if_neg h0, if_neg h0, if_neg h0]
      generalize chkT fs = k at *
      refine pa [.v (.int .i64 (k : Nat)), .b true] rfl ?_ ?_
      · (repeat' with_reducible apply AllP_cons) <;> try exact aC
        · exact ⟨_, hC, hfr1 _⟩
        · simpa using h0
      exact S_ret ⟨_, _, rfl, trivial, _, rfl, run_frz .nils rfl rfl rfl⟩
    rw [h0] at hC
    have hTr := TrOk.of h0
    unfold proAV at hP
    by_cases h1 : comE com = 0
    case neg =>
      have hb : boxE fs com fuel = comE com := by unfold boxE; rw [if_pos h0, if_neg h1]
      rw [hb, if_neg h1, if_neg h1, if_neg h1]
      rw [if_neg h1] at hP
      generalize comE com = k at *
      generalize comI com = k2 at *
      refine pa [.v (.int .i64 ((0 : Nat) : Int)), .b false, .v (.tup [.sl true false 3 (lns []), .int .i64 (k2 : Nat), .int .i64 (k : Nat)]), .b true] rfl ?_ ?_
      · (repeat' with_reducible apply AllP_cons) <;> try exact aC
        · exact ⟨_, hC, hfr1 _⟩
        · exact ⟨_, hP, hfr2 _⟩
        · simpa using h1
      exact S_ret ⟨_, _, rfl, trivial, _, rfl, run_frz .nils rfl rfl rfl⟩
    have hI0 : comI com = 0 := by unfold comI; rw [h1]; rfl
    obtain ⟨hc60, hcs, prog, hpr⟩ := comE_long h1
    obtain ⟨hpl, hpo⟩ := progT_ok hcs hpr
    rw [if_pos h1, h1, hI0, hpr] at hP
    have hP : Calc cx 22 [.sl st' fl' 1 (texts com)] (.tup [.sl true false 3 (lns prog), .int .i64 ((0 : Nat) : Int), .int .i64 ((0 : Nat) : Int)]) := hP
    have hrT : ∀ k, runT fs com k = runM fs prog (k + 1) (mc0 k) := fun k => by unfold runT; rw [hpr]; rfl
    by_cases hlo : fuel < 0
    · have hb : boxE fs com fuel = 3 := by unfold boxE; rw [if_pos h0, if_pos h1, if_pos (.inl hlo)]
      rw [hb, if_neg (by decide), if_neg (by decide), if_neg (by decide)]
      refine pa [.v (.int .i64 ((0 : Nat) : Int)), .b false, .v (.tup [.sl true false 3 (lns prog), .int .i64 ((0 : Nat) : Int), .int .i64 ((0 : Nat) : Int)]), .b false, .b true, .b true] rfl ?_ ?_
      · (repeat' with_reducible apply AllP_cons) <;> try exact aC
        · exact ⟨_, hC, hfr1 _⟩
        · exact ⟨_, hP, hfr2 _⟩
      exact S_ret ⟨_, _, rfl, trivial, _, rfl, run_frz .nils rfl rfl rfl⟩
    by_cases hhi : 100000 < fuel
    · have hb : boxE fs com fuel = 3 := by unfold boxE; rw [if_pos h0, if_pos h1, if_pos (.inr hhi)]
      rw [hb, if_neg (by decide), if_neg (by decide), if_neg (by decide)]
      refine pa [.v (.int .i64 ((0 : Nat) : Int)), .b false, .v (.tup [.sl true false 3 (lns prog), .int .i64 ((0 : Nat) : Int), .int .i64 ((0 : Nat) : Int)]), .b false, .b false, .b true] rfl ?_ ?_
      · (repeat' with_reducible apply AllP_cons) <;> try exact aC
        · exact ⟨_, hC, hfr1 _⟩
        · exact ⟨_, hP, hfr2 _⟩
      exact S_ret ⟨_, _, rfl, trivial, _, rfl, run_frz .nils rfl rfl rfl⟩
    have hb : boxE fs com fuel = 0 := by unfold boxE; rw [if_pos h0, if_pos h1, if_neg (by rintro (h | h) <;> omega)]
    rw [hb, if_pos rfl, if_pos rfl, if_pos rfl, hrT]
    obtain ⟨fu, rfl⟩ : ∃ fu : Nat, fuel = (fu : Int) := ⟨fuel.toNat, by omega⟩
    rw [Int.toNat_natCast]
    refine pa [.v (.int .i64 ((0 : Nat) : Int)), .b false, .v (.tup [.sl true false 3 (lns prog), .int .i64 ((0 : Nat) : Int), .int .i64 ((0 : Nat) : Int)]), .b false, .b false, .b false] rfl ?_ ?_
    · (repeat' with_reducible apply AllP_cons) <;> try exact aC
      · exact ⟨_, hC, hfr1 _⟩
      · exact ⟨_, hP, hfr2 _⟩
    have mE : (0, some (Box.map [] (some ([], 0)))) = ((0, some (.map [] (some ([], 0)))) : Nat × Option Box) := rfl
    refine pa [.f (.map 0 0) (fun _ => [(0, some (.map [] (some ([], 0))))]), .f (.map 1 0) (fun _ => [(0, some (.map [] (some ([], 0)))), (0, some (.map [] (some ([], 0))))]), .f (.map 2 0) (fun _ => [(0, some (.map [] (some ([], 0)))), (0, some (.map [] (some ([], 0)))), (0, some (.map [] (some ([], 0))))])] rfl ?_ ?_
    · (repeat' with_reducible apply AllP_cons) <;> try exact aC
      all_goals exact OpSpec.mapN (C := []) rfl trivial
    refine S_unstamp (id := 0) rfl ?_ ⟨_, _, .inl rfl⟩
    refine S_unstamp (id := 1) rfl ?_ ⟨_, _, .inl rfl⟩
    refine S_unstamp (id := 2) rfl ?_ ⟨_, _, .inl rfl⟩
    refine S_ghost (id := 3) (j := 1) (gid := 4) (gver := 0) 1 ⟨false, none⟩ rfl rfl rfl (by decide) ⟨_, _, .inl rfl⟩ ?_
    refine S_dead ?_ ⟨_, _, .inl rfl⟩
    have hfl := fils_len fs
    have htn := hTr.len
    refine S_while (α := Nat) (fun i => [(2, .int .i64 (fu : Nat)), (11, .sl true false 3 (lns prog)), (14, .ptr 3 0 0), (45, .sl st fl 3 (fils fs)), (46, .int .i64 (((fils fs).length : Nat) : Int)), (47, .int .i64 (i : Nat))])
      (fun i => mcH 0 0 0 0 i (fs.take i) (mc0 fu) [(i, none)]) (fun i => i ≤ fs.length) (fun i => fs.length - i) 0
      (Nat.zero_le _) (.cons rfl (.cons rfl (.cons rfl (.cons rfl (.cons rfl (.cons rfl (.nil _))))))) rfl ?_
    intro i hi
    have hi : i ≤ fs.length := hi
    by_cases hlt : i < fs.length
    · have e1 : decide ((i : Int) < (((fils fs).length : Nat) : Int)) = true := decide_eq_true (by omega)
      have g1 : (fils fs)[(i : Int).toNat]? = some (filA fs[i]) := fils_get hlt
      have htl : (fs.take i).length = i := by rw [List.length_take]; omega
      have htl2 : (fs.take (i + 1)).length = i + 1 := by rw [List.length_take]; omega
      have hnd : ∀ j, ((fs.take j).map Fil.path).Nodup := fun j => by rw [List.map_take]; exact (List.take_sublist ..).nodup hTr.nd
      have hmap : mapBx (addK ((fs.take i).map Fil.path) fs[i].path) (updF (vaP (fs.take i)) fs[i].path (filA fs[i])) = mapBx ((fs.take (i + 1)).map Fil.path) (vaP (fs.take (i + 1))) := by
        have := mapP_add (fs.take i) fs[i]
        rw [← List.take_succ_eq_append_getElem hlt, ksP_nd (hnd i), ksP_nd (hnd (i + 1))] at this
        exact this
      have htx : texts ((fs.take i).map Fil.path) ++ [.str fs[i].path] = texts ((fs.take (i + 1)).map Fil.path) := by
        rw [List.take_succ_eq_append_getElem hlt]; unfold texts; rw [List.map_append, List.map_append]; rfl
      refine S_heap (mcG i i (fs.take i) (fs.take i) (mc0 fu) [(i, none)]) (by unfold mcH mcG; rw [htl]) ?_
      refine pa [.b true, .v (filA fs[i]), .f (.tup []) (fun _ => mcG i i (fs.take (i + 1)) (fs.take i) (mc0 fu) [filBx (i + 1) fs[i]]), .d 8 9 [] (fun _ => mcG (i + 1) i (fs.take (i + 1)) (fs.take (i + 1)) (mc0 fu) [filBx (i + 1) fs[i]]) [.ms 4 (i + 1) 0 (i + 1) 1 false], .s] rfl ?_ ?_
      · (repeat' with_reducible apply AllP_cons) <;> try exact aC
        all_goals first | exact OpSpec.mput (kt := 9) (et := 38) (ks := (fs.take i).map Fil.path) (val := vaP (fs.take i)) (s := fs[i].path) (v := filA fs[i]) rfl (Tryz.underlying51) rfl rfl rfl rfl rfl (hnd i) (by rw [hmap]; rfl) | skip
        · show 0 + i * 1 = (texts ((fs.take i).map Fil.path)).length
          simp [texts]; omega
        · show (i + 1) * 16 ≤ 140737488355328; omega
        · rw [← htx]; rfl
      refine pan 3 [] rfl ?_ ?_
      · (repeat' with_reducible apply AllP_cons) <;> try exact aC
      refine S_drop (id := 5) rfl ?_ ⟨.skip, _, .inr ⟨_, _, _, rfl⟩⟩
      refine S_heap (mcH 0 0 0 0 (i + 1) (fs.take (i + 1)) (mc0 fu) [(i + 1, none)]) (by unfold mcH; rw [htl2]; rfl) ?_
      refine pB [] rfl ?_
      exact S_round (i + 1) (by show fs.length - (i + 1) < fs.length - i; omega) hlt (.cons rfl (.cons rfl (.cons rfl (.cons rfl (.cons rfl (.cons (nX (by omega)) (.nil _))))))) rfl
    · have e1 : decide ((i : Int) < (((fils fs).length : Nat) : Int)) = false := decide_eq_false (by omega)
      obtain rfl : i = fs.length := by omega
      rw [List.take_length]
      obtain ⟨e, he⟩ : ∃ e, e = fs.length := ⟨_, rfl⟩
      rw [← he]
      rw [← he] at e1
      refine pB [.b false] rfl ?_
      refine S_dead ?_ ⟨_, _, .inl rfl⟩
      have hlp := lns_len prog
      have hmc : McI (mc0 fu) := mc0_ok (by omega)
      refine S_while (α := Mc × Nat × Nat) (fun s => [(2, .int .i64 (fu : Nat)), (11, .sl true false 3 (lns prog)), (14, .ptr 3 0 0)])
        (fun s => mcH 0 0 0 0 e fs s.1 [(s.2.1, none), (s.2.2, none)]) (fun s => McI s.1 ∧ s.1.left ≤ fu ∧ runM fs prog (s.1.left + 1) s.1 = runM fs prog (fu + 1) (mc0 fu)) (fun s => if s.1.done then 0 else s.1.left + 1) (mc0 fu, e, 0)
        ⟨hmc, Nat.le_refl _, rfl⟩ (.cons rfl (.cons rfl (.cons rfl (.nil _)))) rfl ?_
      rintro ⟨m, x, y⟩ ⟨hI, hlf, hrun⟩
      have hlf : m.left ≤ fu := hlf
      have hI : McI m := hI
      have hmany := hI.many
      have hrun : runM fs prog (m.left + 1) m = runM fs prog (fu + 1) (mc0 fu) := hrun
      show S _ _ _ _ _ _ (mcH 0 0 0 0 e fs m [(x, none), (y, none)])
      cases hd : m.done with
      | true =>
        rw [← hrun, runM_done hd]
        refine pa [.b false, .b false, .f (.func (.func 65) [] [.ptr 5 (x + 1) 0]) (fun _ => mcH 0 0 0 0 e fs m [(x + 1, some (.cells [.map 1 0] ⟨false, none⟩)), (y, none)]), .k (.sl true false 3 (fils (ovT m.made)))] rfl ?_ ?_
        · (repeat' with_reducible apply AllP_cons) <;> try exact aC
          · rw [hd]; rfl
          · exact Values_ok 0 0 0 0 e fs m x y
          · exact hSF 0 0 0 0 e (x + 1) fs m ⟨false, none⟩ [(y, none)] (by omega)
        exact S_ret ⟨_, _, rfl, trivial, _, rfl, run_frz (.refl (.sl (fun _ => rfl) (fils_free _))) rfl (by
          show IntKind.i64.wrap ((fu : Int) - (m.left : Int)) = ((fu - m.left : Nat) : Int)
          have := hI.ok.left
          rw [IntWalk.i64_in _ ⟨by omega, by omega⟩]; omega) rfl⟩
      | false =>
        by_cases hpl : m.pc < prog.length
        · have e2 : decide ((m.pc : Int) < (((lns prog).length : Nat) : Int)) = true := decide_eq_true (by omega)
          have hxo := hpo _ (List.getElem_mem hpl)
          have g2 : (lns prog)[(m.pc : Int).toNat]? = some (lnA prog[m.pc]) := by rw [Int.toNat_natCast]; simp [lns, List.getElem?_eq_getElem hpl]
          obtain ⟨g, ix, hfk, hcall⟩ := call_step hTr hxo (by omega)
          have hstep : runM fs prog (m.left + 1) m = runM fs prog m.left (stepM fs prog[m.pc] { m with pc := m.pc + 1 }) := by
            rw [runM, hd, List.getElem?_eq_getElem hpl]; rfl
          have hIn := hI.next (by omega : m.pc + 1 ≤ 1000000)
          have hI2 := hIn.step (fs := fs) hxo (by omega)
          have hless := step_less (fs := fs) (m := { m with pc := m.pc + 1 }) hxo
          have hLe : (stepM fs prog[m.pc] { m with pc := m.pc + 1 }).left ≤ fu := Nat.le_trans hless.le hlf
          generalize prog[m.pc] = z at *
          refine pa [.b true, .b true, .v (lnA z)] rfl ?_ ?_
          · (repeat' with_reducible apply AllP_cons) <;> try exact aC
            · rw [hd]; rfl
          refine S_heap (mcH 0 0 0 0 e fs { m with pc := m.pc + 1 } [(x + 1, some (.cells (lnC z) ⟨false, some 57⟩)), (y, none)]) ?_ ?_
          · have hw : IntKind.i64.wrap ((m.pc : Int) + 1) = ((m.pc + 1 : Nat) : Int) := by rw [IntWalk.i64_in _ ⟨by omega, by omega⟩]; omega
            unfold mcH mcC
            show _ = [_, _, _, (0, some (Box.cells [_, _, _, _, .int .i64 ((m.pc + 1 : Nat) : Int), _, _, _] _)), _, _, _]
            rw [← hw]; rfl
          refine S_drawW (mcH 0 0 0 0 e fs { m with pc := m.pc + 1 } [(x + 1, some (.cells (lnC z) ⟨false, some 57⟩)), (y + 1, some (.map stKV none))]) 0 6 [] [.map 6 (y + 1), .func (.func g) [] []] rfl rfl rfl rfl rfl ?_ ?_
          · (repeat' with_reducible apply AllP_cons) <;> try exact aC
            all_goals first | exact steps_ok 0 0 0 0 e fs { m with pc := m.pc + 1 } (x + 1) (.cells (lnC z) ⟨false, some 57⟩) y | exact OpSpec.map (some (ix, .func (.func g) [] [])) (C := [y + 1 = y + 1, findK (.str z.op) stKV 0 = some (some (ix, .func (.func g) [] []))]) rfl ⟨rfl, hfk, trivial⟩
          refine pan 1 [.f (.tup []) (fun _ => mcH 0 0 0 0 e fs (stepM fs z { m with pc := m.pc + 1 }) [(x + 1, some (.cells (lnC z) ⟨false, some 57⟩)), (y + 1, some (.map stKV none))])] rfl ?_ ?_
          · (repeat' with_reducible apply AllP_cons) <;> try exact aC
            · exact hcall 0 0 0 0 e _ _ hIn
          refine S_drop (id := 5) rfl ?_ ⟨.skip, _, .inr ⟨_, _, _, rfl⟩⟩
          refine S_drop (id := 6) rfl ?_ ⟨.skip, _, .inr ⟨_, _, _, rfl⟩⟩
          refine pB [] rfl ?_
          refine S_round (stepM fs z { m with pc := m.pc + 1 }, x + 1, y + 1) ?_ ⟨hI2, hLe, ?_⟩ (.cons rfl (.cons rfl (.cons rfl (.nil _)))) rfl
          · show (if (stepM fs z { m with pc := m.pc + 1 }).done = true then 0 else (stepM fs z { m with pc := m.pc + 1 }).left + 1) < if m.done = true then 0 else m.left + 1
            rw [if_neg (show ¬ m.done = true by rw [hd]; decide)]
            rcases hless with ⟨h1, _⟩ | h1
            · rw [if_pos h1]; omega
            · have h1 : (stepM fs z { m with pc := m.pc + 1 }).left < m.left := h1
              split <;> omega
          · show runM fs prog ((stepM fs z { m with pc := m.pc + 1 }).left + 1) (stepM fs z { m with pc := m.pc + 1 }) = _
            rw [← hrun, hstep]
            rcases hless with ⟨h1, _⟩ | h1
            · rw [runM_done h1, runM_done h1]
            · exact (runM_fuel hpo _ _ h1).symm
        · have e2 : decide ((m.pc : Int) < (((lns prog).length : Nat) : Int)) = false := decide_eq_false (by omega)
          have hm : runM fs prog (m.left + 1) m = m := by rw [runM, hd, List.getElem?_eq_none (by omega)]; rfl
          rw [← hrun, hm]
          refine pa [.b true, .b false, .f (.func (.func 65) [] [.ptr 5 (x + 1) 0]) (fun _ => mcH 0 0 0 0 e fs m [(x + 1, some (.cells [.map 1 0] ⟨false, none⟩)), (y, none)]), .k (.sl true false 3 (fils (ovT m.made)))] rfl ?_ ?_
          · (repeat' with_reducible apply AllP_cons) <;> try exact aC
            · rw [hd]; rfl
            · exact Values_ok 0 0 0 0 e fs m x y
            · exact hSF 0 0 0 0 e (x + 1) fs m ⟨false, none⟩ [(y, none)] (by omega)
          exact S_ret ⟨_, _, rfl, trivial, _, rfl, run_frz (.refl (.sl (fun _ => rfl) (fils_free _))) rfl (by
            show IntKind.i64.wrap ((fu : Int) - (m.left : Int)) = ((fu - m.left : Nat) : Int)
            have := hI.ok.left
            rw [IntWalk.i64_in _ ⟨by omega, by omega⟩]; omega) rfl⟩
end Go.Proofs.YtgmakmfdjhgjlaaGreatDoor
end
section
set_option linter.unusedVariables false
set_option linter.unusedSimpArgs false
namespace Go.Ab
open Go
theorem wpListIn_spec {cx : Cx} {F : Fence} (hF : ∀ f, F.fn f) {nF n : Nat} {ops : Array Oper} {Q : Exit → Act → World → Prop} {rest : List Oper} {o : Oper} {fr : Fr} {σ σ' : Heap} {v : AV} {r : Rl} {a : Act} {w : World}
    (hg : o.guard = none) (hd : dstOk n o.dst = true) (hdf : ∀ c, o.op ≠ .defer c) (hs : OpSpec cx n fr σ o v σ') (hi : Inv cx r σ w) (hf : FRel r w n fr a)
    (hK : ∀ r' w' v', VRel r' w' v' v → Inv cx r' σ' w' → Ext r σ w r' σ' w' → FRel r' w' n (setA o.dst v fr) (a.put o.dst v') → wpListIn F nF cx.P ops Q rest (a.put o.dst v') w') : wpListIn F nF cx.P ops Q (o :: rest) a w := by
  refine wpListIn_plain hg fun K hK' => ⟨fun f _ => hF f, ?_⟩
  rw [Oper.semAt_eq _ _ _ hdf]
  obtain ⟨r', w', v', hrun, hv, hi', hx⟩ := hs r a w hi hf
  have hf' := (hf.mono (hx.grow hi)).setA hd hv
  rcases hrun with hrun | ⟨hrun, rfl⟩
  · rw [hrun]; exact hK' _ _ (hK r' w' v' hv hi' hx hf')
  · rw [hrun]; exact hK' _ _ (hK r' w' undef hv hi' hx hf')
theorem put_defers (a : Act) (d : Option Nat) (v : Value) : (a.put d v).defers = a.defers := by cases d <;> rfl
structure Off (r : Rl) (l : Nat) : Prop where
  ρ : ∀ id ver o, r.ρ id ver ≠ some (l, o)
  I : ¬ r.I l
theorem Off.live {r : Rl} {l : Nat} (h : Off r l) (σ : Heap) : ¬ Live r σ l := by
  rintro ⟨id, ver, x, o, _, h2⟩
  exact h.ρ id ver o h2
theorem Off.ext {r r' : Rl} {σ σ' : Heap} {w w' : World} {l : Nat} (h : Off r l) (hl : l < w.heap.size) (hx : Ext r σ w r' σ' w') : Off r' l := by
  refine ⟨fun id ver o hρ => ?_, fun hI => ?_⟩
  · rcases hx.blk id ver l o hρ with ⟨v, o', h'⟩ | h'
    · exact h.ρ _ _ _ h'
    · omega
  · rcases hx.If l hI with h' | h' | h'
    · exact h.I h'
    · exact h.live σ h'
    · omega
theorem Off.same {r r' : Rl} {σ σ' : Heap} {w w' : World} {l : Nat} (h : Off r l) (hl : l < w.heap.size) (hx : Ext r σ w r' σ' w') : w'.heap[l]? = w.heap[l]? := hx.same l hl (h.live σ)
theorem Off.new {cx : Cx} {r : Rl} {σ : Heap} {w : World} {l : Nat} (hi : Inv cx r σ w) (hl : w.heap.size ≤ l) : Off r l := by
  refine ⟨fun id ver o hρ => ?_, fun hI => ?_⟩
  · have := (hi.lt id ver l o hρ).2; omega
  · have := hi.Ilt l hI; omega
theorem putObj_other {w : World} {l k : Nat} {o : Obj} (h : k ≠ l) : (w.putObj l o).heap[k]? = w.heap[k]? := World.putObj_heap_other h
theorem putObj_size (w : World) (l : Nat) (o : Obj) : (w.putObj l o).heap.size = w.heap.size := by simp [World.putObj]
theorem Inv.poke {cx : Cx} {r : Rl} {σ : Heap} {w : World} {l : Nat} {o0 : Obj} (hi : Inv cx r σ w) (hl : w.heap[l]? = some o0) (hc : ∀ c t f, o0 ≠ .cells c t f) (ho : Off r l) (o : Obj) : Inv cx r σ (w.putObj l o) := by
  have g : Grow r w r (w.putObj l o) := by
    refine ⟨fun _ h => h, fun _ h => h, fun _ _ _ h => h, fun b hb => putObj_other (fun e => ho.I (e ▸ hb)), fun b c t f hb => ⟨c, f, ?_, rfl⟩⟩
    rw [putObj_other (fun e => by subst e; rw [hl] at hb; cases hb; exact hc _ _ _ rfl)]
    exact hb
  refine ⟨fun id ver x hx => ?_, fun id ver b o' hρ => ?_, hi.inj, hi.imm, fun b hb => by rw [putObj_size]; exact hi.Ilt b hb, hi.SI, hi.glob.mono g hi.SI⟩
  · rcases hi.box id ver x hx with ⟨b, o', hρ, hb⟩ | h
    · exact .inl ⟨b, o', hρ, hb.mono g (putObj_other (fun e => ho.ρ id ver o' (e ▸ hρ)))⟩
    · exact .inr h
  · obtain ⟨h1, h2⟩ := hi.lt id ver b o' hρ
    exact ⟨h1, by rw [putObj_size]; exact h2⟩
theorem FRel.poke {r : Rl} {w : World} {n : Nat} {fr : Fr} {a : Act} {l : Nat} {o0 : Obj} (hf : FRel r w n fr a) (hl : w.heap[l]? = some o0) (hc : ∀ c t f, o0 ≠ .cells c t f) (ho : Off r l) (o : Obj) : FRel r (w.putObj l o) n fr a := by
  refine hf.mono ⟨fun _ h => h, fun _ h => h, fun _ _ _ h => h, fun b hb => putObj_other (fun e => ho.I (e ▸ hb)), fun b c t f hb => ⟨c, f, ?_, rfl⟩⟩
  rw [putObj_other (fun e => by subst e; rw [hl] at hb; cases hb; exact hc _ _ _ rfl)]
  exact hb
theorem Ext.poke {r r' : Rl} {σ σ' : Heap} {w w' : World} {l : Nat} {o0 o1 : Obj} (hl : w.heap[l]? = some o0) (hc : ∀ c t f, o0 ≠ .cells c t f) (ho : Off r l) (hx : Ext r σ (w.putObj l o1) r' σ' w') : Ext r σ w r' σ' (w'.putObj l o0) := by
  have hsz := putObj_size w l o1
  have hll : l < w.heap.size := by
    rcases Nat.lt_or_ge l w.heap.size with h | h
    · exact h
    · rw [Array.getElem?_eq_none h] at hl; cases hl
  refine ⟨hx.S, hx.I, fun b h => by rw [← hsz]; exact hx.Sf b h, fun b h => by rw [← hsz]; exact hx.If b h, hx.ρ, by rw [putObj_size, ← hsz]; exact hx.hs, hx.σl, fun b hb hlv => ?_, fun b h => by rw [← hsz]; exact hx.liv b h, fun b c t f hb => ?_, hx.os, hx.output, hx.tape,
    fun id ver b o h => by rw [← hsz]; exact hx.blk id ver b o h⟩
  · by_cases hbl : b = l
    · subst hbl
      rw [hl]
      exact World.putObj_heap_same (by have := hx.hs; omega)
    · rw [putObj_other hbl, hx.same b (by omega) hlv, putObj_other hbl]
  · have hbl : b ≠ l := fun e => by subst e; rw [hl] at hb; cases hb; exact hc _ _ _ rfl
    obtain ⟨c', f', h1, h2⟩ := hx.size b c t f (by rw [putObj_other hbl]; exact hb)
    exact ⟨c', f', by rw [putObj_other hbl]; exact h1, h2⟩
theorem Ext.poke_new {r r' : Rl} {σ σ' : Heap} {w w' : World} {l : Nat} (hl : w.heap.size ≤ l) (hx : Ext r σ w r' σ' w') (o : Obj) : Ext r σ w r' σ' (w'.putObj l o) := by
  refine ⟨hx.S, hx.I, hx.Sf, hx.If, hx.ρ, by rw [putObj_size]; exact hx.hs, hx.σl, fun b hb hlv => ?_, hx.liv, fun b c t f hb => ?_, hx.os, hx.output, hx.tape, hx.blk⟩
  · rw [putObj_other (by omega)]; exact hx.same b hb hlv
  · have hbl : b < w.heap.size := by
      rcases Nat.lt_or_ge b w.heap.size with h | h
      · exact h
      · rw [Array.getElem?_eq_none h] at hb; cases hb
    obtain ⟨c', f', h1, h2⟩ := hx.size b c t f hb
    exact ⟨c', f', by rw [putObj_other (by omega)]; exact h1, h2⟩
theorem Inv.ghostAt {cx : Cx} {r : Rl} {σ σ' : Heap} {w : World} {id cur j gid gver : Nat} {cs : List AV} {g : Tag} (sz : Nat) (g' : Tag) (h : σ[id]? = some (cur, some (.cells cs g))) (hj : cs[j]? = some .nils) (ha : allocH σ (.cells [] g') = (gid, gver, σ')) (hne : id ≠ gid) (hi : Inv cx r σ w) :
    Inv cx r (σ'.set id (cur, some (.cells (cs.set j (.ms gid gver 0 0 sz false)) g))) w ∧ Ext r σ w r (σ'.set id (cur, some (.cells (cs.set j (.ms gid gver 0 0 sz false)) g))) w := by
  obtain ⟨ha1, ha2, ha3⟩ := allocH_spec ha
  obtain ⟨g1, g2⟩ := hi.ghost ha1 ha2 ha3
  obtain ⟨q1, q2⟩ := g1.recast (y := .cells (cs.set j (.ms gid gver 0 0 sz false)) g) (by rw [ha2 id hne]; exact h) (fun b o hb => nils_ms hj hb) (fun ro hro => by cases hro; simp at hj)
  exact ⟨q1, g2.trans q2⟩
def CallX (cx : Cx) (f : FuncId) (args : List AV) (σ : Heap) (X : Rl → World → Prop) (R : Out → Heap → Prop) : Prop :=
  ∀ r w vs, Inv cx r σ w → VRels r w vs args → X r w → Calls cx.P f vs w fun e w' => ∃ o σ' r', R o σ' ∧ ORel r' w' e o ∧ Inv cx r' σ' w' ∧ Ext r σ w r' σ' w'
theorem callX_intro {cx : Cx} {f : FuncId} {fn : Func} {c : Code} {n : Nat} {args : List AV} {σ : Heap} {X : Rl → World → Prop} {R : Out → Heap → Prop} (hf : cx.P.funcs[f]? = some fn) (hb : fn.body = some c) (hn : fn.ntmps = n) (ha : Nat.ble args.length n = true)
    (h : ∀ r w, Inv cx r σ w → X r w → S cx n ⟨r, σ, w, false⟩ [.code c] (retQ cx fn R) (enterFr 0 args) σ) : CallX cx f args σ X R := by
  intro r w vs hi hv hX
  subst hn
  refine calls_of_wp hf hb ?_
  have hwp := h r w hi hX r _ w hi (enter_rel hv (Nat.le_of_ble_eq_true ha)) (fun _ => rfl) (Ext.refl _ _ _)
  refine wp_mono hwp fun e a w' hq => ?_
  obtain ⟨ae, fr', σ', r', hq, he, hi', hf', hd', hx'⟩ := hq
  cases e <;> cases ae <;> first | exact he.elim | skip
  · obtain ⟨C, us, h1, h2, h3⟩ := hq
    obtain ⟨v', h4, h5⟩ := results_run (fn := fn) hi' hf' h1 h2
    exact ⟨hd' rfl, v', h4, _, σ', r', h3, h5, hi', hx'⟩
  · exact hq.elim
  · exact hq.elim
  · obtain ⟨C, us, h1, h2, h3⟩ := hq
    obtain ⟨v', h4, h5⟩ := results_run (fn := fn) hi' hf' h1 h2
    exact ⟨hd' rfl, v', h4, _, σ', r', h3, h5, hi', hx'⟩
  · exact ⟨hd' rfl, _, σ', r', hq, he, hi', hx'⟩
def YieldOk (cx : Cx) (B : Bs) (l : Nat) (cs : List AV) (σ σ' : Heap) : Prop := ∀ (m : Nat) r w v, Inv cx r σ w → Ext B.r B.σ B.w r σ w → VRel r w v (.agg cs) →
  YieldAt Fence.wide m cx.P l #[v] w (fun e w' => e = .returned (.bool true) ∧ ∃ r', Inv cx r' σ' w' ∧ Ext r σ w r' σ' w')
section
variable {cx : Cx} {n : Nat} {B : Bs} {k : List AI} {Q : Post} {fr : Fr} {σ : Heap}
theorem S_yieldR {id : Nat} {o0 o1 o2 o3 : Oper} {l : Nat} {cs : List AV} {σ' : Heap} {d0 d1 : Nat} {tys : Array TypeId} (hops : ∀ o ∈ [o0, o1, o2, o3], o.guard = none ∧ dstOk n o.dst = true) (hdf : ∀ o ∈ [o0, o1, o3], ∀ c, o.op ≠ .defer c)
    (h0 : OpSpec cx n fr σ o0 (.func (.yield l) [] []) σ) (h1 : OpSpec cx n (setA o0.dst (.func (.yield l) [] []) fr) σ o1 (.agg cs) σ) (h2 : o2.op = .call { callee := .value (.tmp d0), args := #[.tmp d1], argTypes := tys })
    (hd0 : (setA o1.dst (.agg cs) (setA o0.dst (.func (.yield l) [] []) fr)).get d0 = .func (.yield l) [] []) (hd1 : (setA o1.dst (.agg cs) (setA o0.dst (.func (.yield l) [] []) fr)).get d1 = .agg cs)
    (hY : YieldOk cx B l cs σ σ') (h3 : OpSpec cx n (setA o2.dst (.bool true) (setA o1.dst (.agg cs) (setA o0.dst (.func (.yield l) [] []) fr))) σ' o3 (.bool false) σ')
    (hk : S cx n B k Q (setA o3.dst (.bool false) (setA o2.dst (.bool true) (setA o1.dst (.agg cs) (setA o0.dst (.func (.yield l) [] []) fr)))) σ') :
    S cx n B (.code (.region id #[o0, o1, o2, o3] false) :: k) Q fr σ := by
  intro r a w hi hf hd hx
  have hw : ∀ f, Fence.wide.fn f := fun _ => trivial
  refine (wpIn_wide (n := 5)).1 (wpIn_region_list ?_)
  refine wpListIn_spec hw (hops o0 (by simp)).1 (hops o0 (by simp)).2 (hdf o0 (by simp)) h0 hi hf fun r1 w1 v1 hv1 hi1 hx1 hf1 => ?_
  refine wpListIn_spec hw (hops o1 (by simp)).1 (hops o1 (by simp)).2 (hdf o1 (by simp)) h1 hi1 hf1 fun r2 w2 v2 hv2 hi2 hx2 hf2 => ?_
  have hE := (hx.trans hx1).trans hx2
  have g0 := hf2.get d0
  have g1 := hf2.get d1
  rw [hd0] at g0
  rw [hd1] at g1
  have e0 : ((a.put o0.dst v1).put o1.dst v2).eval (.tmp d0) = .func (.yield l) #[] #[] := by
    show ((a.put o0.dst v1).put o1.dst v2).tmps.getD d0 undef = _
    generalize ((a.put o0.dst v1).put o1.dst v2).tmps.getD d0 undef = z at g0
    cases g0 with
    | func q1 _ q2 _ =>
      rw [Array.eq_empty_of_size_eq_zero q1, Array.eq_empty_of_size_eq_zero q2]
  have g1' : VRel r2 w2 (((a.put o0.dst v1).put o1.dst v2).eval (.tmp d1)) (.agg cs) := g1
  obtain ⟨fn, tmps, assign, body, hy, hR⟩ := hY (5 - 1) r2 w2 _ hi2 hE g1'
  refine wpListIn_plain (hops o2 (by simp)).1 fun K hK => ⟨fun f _ => trivial, ?_⟩
  rw [Oper.semAt_eq _ _ _ (by rw [h2]; intro c hc; cases hc)]
  have hrun : (execOp ((a.put o0.dst v1).put o1.dst v2).eval o2).run cx.P w2 = .ok (.round l fn tmps assign body) w2 := by
    simp only [execOp, h2, resolve, Sem.run_bind, e0, Deferred.ofValue, Sem.run_pure, Result.andThen_ok, invoke, callFunc, Array.map, Array.append_empty, Array.empty_append]
    first | exact hy | simpa using hy
  rw [hrun]
  refine ⟨(fun h => by cases h), hR.mono ?_⟩
  rintro e w3 ⟨rfl, r3, hi3, hx3⟩
  have hf3 := (hf2.mono (hx3.grow hi2)).setA (hops o2 (by simp)).2 (VRel.bool (b := true))
  refine hK _ _ ?_
  refine wpListIn_spec hw (hops o3 (by simp)).1 (hops o3 (by simp)).2 (hdf o3 (by simp)) h3 hi3 hf3 fun r4 w4 v4 hv4 hi4 hx4 hf4 => ?_
  refine wpListIn_nil (Lift.mk hk trivial hi4 hf4 (fun hb => ?_) ((hE.trans hx3).trans hx4))
  rw [put_defers, put_defers, put_defers, put_defers]
  exact hd hb
end
end Go.Ab
end
section
set_option linter.unusedVariables false
set_option linter.unusedSimpArgs false
set_option maxRecDepth 20000
set_option maxHeartbeats 4000000
namespace Go.Proofs.YtgmakmfdjhgjlaaGreatDoor
open Go Go.Ab
def HJ (a b c d e x : Nat) (fs : List Fil) (m : Mc) (g : Tag) (st : Option (List Nat × Nat)) (pre : List Fil) (τ : Heap) : Heap :=
  mcS a b c d e fs m st ((x, some (.cells [.map 1 b] g)) :: (0, some (.cells [.ms 7 pre.length 0 pre.length 3 false] ⟨false, none⟩)) :: (pre.length, some (.cells (celsF pre) ⟨false, none⟩)) :: τ)
def filC (f : Fil) : List AV := [.str f.path, .str f.text, .bool f.run]
def filD (v : Nat) (f : Fil) : Nat × Option Box := (v, some (.cells (filC f) ⟨false, some 38⟩))
def GathX (a b c d e x : Nat) (fs : List Fil) (m : Mc) (g : Tag) (l : Nat) : Rl → World → Prop := fun r w => ∀ (pre : List Fil) (f h : Fil) (st : Option (List Nat × Nat)) (c0 : Nat) (sn : List Nat) (vf : Nat), pre.length ≤ 1000 →
  YieldOk cx ⟨r, HJ a b c d e x fs m g none [] [], w, false⟩ l (filC f) (HJ a b c d e x fs m g st pre [(0, some (.miter 1 b c0 sn c0)), filD vf h]) (HJ a b c d e x fs m g st (pre ++ [f]) [(0, some (.miter 1 b c0 sn c0)), filD vf h])
theorem Values1_ok (a b c d e x : Nat) (fs : List Fil) (m : Mc) (g : Tag) (l : Nat) (hml : (ksP m.made).length ≤ 1000) :
    CallX cx 65 [.func (.yield l) [] [], .ptr 5 x 0] (HJ a b c d e x fs m g none [] []) (GathX a b c d e x fs m g l)
    (fun o s => o = .ret (.tup []) ∧ ∃ ps : List Fil, ps.Perm ((ksP m.made).map (lastF m.made)) ∧ ∃ u v : Nat, s = HJ a b c d e x fs m g none ps [(u, none), (v, none)]) :=
  callX_intro Tryz.func65 rfl Tryz.ntmps65 rfl fun r w hi hX => by
    refine pB [.s] rfl ?_
    refine S_stamp (id := 1) rfl (fun bs c0 hbl hbn hbc => ?_) ⟨.skip, _, .inr ⟨_, _, _, rfl⟩⟩
    have hbl : bs.length = (ksP m.made).length := by rw [hbl]; unfold mapF; rw [List.length_map]
    refine pa [.f (.ptr 8 0 0) (fun _ => HJ a b c d e x fs m g (some (bs, c0)) [] [(0, some (.miter 1 b c0 [] c0))])] rfl ?_ ?_
    · (repeat' with_reducible apply AllP_cons) <;> try exact aC
      · exact OpSpec.mapN (C := [b = b]) rfl ⟨rfl, trivial⟩
    refine S_dead ?_ ⟨_, _, .inl rfl⟩
    have hnat : ∀ sn : List Nat, sn.Nodup → (∀ x ∈ sn, x ∈ bs) → sn.length ≤ bs.length := fun sn h1 h2 => List.Nodup.length_le_of_subset h1 h2
    obtain ⟨fl, hfl⟩ : ∃ fl : Nat → Fil, ∀ bb, fl bb = lastF m.made ((ksP m.made).getD (bs.idxOf bb) []) := ⟨fun bb => lastF m.made ((ksP m.made).getD (bs.idxOf bb) []), fun _ => rfl⟩
    refine S_while (α := List Nat) (fun sn => [(0, .func (.yield l) [] []), (6, .ptr 8 0 0)]) (fun sn => HJ a b c d e x fs m g (some (bs, c0)) (sn.map fl) [(0, some (.miter 1 b c0 sn c0)), (sn.length, none)])
      (fun sn => sn.Nodup ∧ ∀ x ∈ sn, x ∈ bs) (fun sn => bs.length - sn.length) [] ⟨.nil, fun x h => by cases h⟩ (.cons rfl (.cons rfl (.nil _))) rfl ?_
    rintro sn ⟨hs1, hs2⟩
    refine pB [] rfl ?_
    refine S_mnext (id := 8) (ver := 0) (mid := 1) (mver := b) (since := c0) (last := c0) (c := c0) (seen := sn) (bs := bs) (kvs := mapF (ksP m.made) (vaP m.made)) rfl rfl rfl rfl (fun x hx => hbc x hx) (Nat.le_refl _) rfl rfl ?_ ?_
    · intro i bb hi2 hb hns
      have hi3 : i < (ksP m.made).length := by simpa [mapF] using hi2
      have hkv : (mapF (ksP m.made) (vaP m.made))[i]? = some (.str (ksP m.made)[i], vaP m.made (ksP m.made)[i]) := by simp [mapF, List.getElem?_eq_getElem hi3]
      have hbm : bb ∈ bs := List.mem_of_getElem? hb
      have hn2 : (sn ++ [bb]).Nodup := List.nodup_append.2 ⟨hs1, by simp, fun x hx y hy => by simp at hy; subst hy; exact fun e => hns (e ▸ hx)⟩
      have hm2 : ∀ x ∈ sn ++ [bb], x ∈ bs := fun x hx => by
        rcases List.mem_append.1 hx with hx | hx
        · exact hs2 x hx
        · simp at hx; subst hx; exact hbm
      have hlen2 := hnat _ hn2 hm2
      rw [List.length_append] at hlen2
      have hlen2 : sn.length + 1 ≤ bs.length := hlen2
      have hib : i < bs.length := by omega
      have hidx : bs.idxOf bb = i := by
        have h1 : bs.idxOf bb < bs.length := List.idxOf_lt_length_of_mem hbm
        have h2 : bs[bs.idxOf bb] = bb := List.getElem_idxOf h1
        rw [List.getElem?_eq_getElem hib] at hb
        exact (List.getElem_inj (h₀ := h1) (h₁ := hib) hbn).1 (h2.trans (Option.some.inj hb).symm)
      have hfb : lastF m.made (ksP m.made)[i] = fl bb := by rw [hfl, hidx]; simp [List.getD, List.getElem?_eq_getElem hi3]
      have hva : vaP m.made (ksP m.made)[i] = filA (fl bb) := by unfold vaP; rw [hfb]
      rw [hva] at hkv
      have hmap : (sn ++ [bb]).map fl = sn.map fl ++ [fl bb] := by rw [List.map_append]; rfl
      generalize hff : fl bb = f at *
      refine pa [.b true, .v (.tup [.str (ksP m.made)[i], filA f]), .s] rfl ?_ ?_
      · (repeat' with_reducible apply AllP_cons) <;> try exact aC
        · exact OpSpec.entryG (id := 8) (ver := 0) (mid := 1) (mver := b) (since := c0) (c := c0) (i := i) (b := bb) (seen := sn) (bs := bs) rfl rfl rfl rfl hb hkv
      refine pan 5 [] rfl ?_ ?_
      · (repeat' with_reducible apply AllP_cons) <;> try exact aC
      refine S_heap (HJ a b c d e x fs m g (some (bs, c0)) (sn.map fl) [(0, some (.miter 1 b c0 (sn ++ [bb]) c0)), filD (sn.length + 1) f]) rfl ?_
      refine S_yieldR (l := l) (cs := filC f) (σ' := HJ a b c d e x fs m g (some (bs, c0)) (sn.map fl ++ [f]) [(0, some (.miter 1 b c0 (sn ++ [bb]) c0)), filD (sn.length + 1) f]) (d0 := 11) (d1 := 12)
        (by intro o ho; simp only [List.mem_cons, List.not_mem_nil, or_false] at ho; rcases ho with rfl | rfl | rfl | rfl <;> exact ⟨rfl, rfl⟩) (by intro o ho c hc; simp only [List.mem_cons, List.not_mem_nil, or_false] at ho; rcases ho with rfl | rfl | rfl <;> cases hc)
        (OpSpec.aop rfl (by (repeat' with_reducible apply AllP_cons) <;> try exact aC)) (OpSpec.aop rfl (by (repeat' with_reducible apply AllP_cons) <;> try exact aC)) rfl rfl rfl (hX (sn.map fl) f f (some (bs, c0)) c0 (sn ++ [bb]) (sn.length + 1) (by rw [List.length_map]; omega)) (OpSpec.aop rfl (by (repeat' with_reducible apply AllP_cons) <;> try exact aC)) ?_
      refine S_drop (id := 9) rfl ?_ ⟨_, _, .inl rfl⟩
      refine S_heap (HJ a b c d e x fs m g (some (bs, c0)) ((sn ++ [bb]).map fl) [(0, some (.miter 1 b c0 (sn ++ [bb]) c0)), ((sn ++ [bb]).length, none)]) ?_ ?_
      · rw [hmap, List.length_append]; rfl
      refine pB [.b false] rfl ?_
      exact S_round (sn ++ [bb]) (by show bs.length - (sn ++ [bb]).length < bs.length - sn.length; rw [List.length_append]; show bs.length - (sn.length + 1) < _; omega) ⟨hn2, hm2⟩ (.cons rfl (.cons rfl (.nil _))) rfl
    · intro hall
      refine S_unstamp (id := 1) rfl ?_ ⟨.skip, _, .inr ⟨_, _, _, rfl⟩⟩
      refine S_drop (id := 8) rfl ?_ ⟨.skip, _, .inr ⟨_, _, _, rfl⟩⟩
      refine pB [.b false] rfl ?_
      refine S_nil ⟨_, _, rfl, trivial, rfl, sn.map fl, ?_, 0, sn.length, rfl⟩
      have h1 : sn.Perm bs := (List.perm_ext_iff_of_nodup hs1 hbn).2 fun z => ⟨fun h => hs2 z h, fun h => hall z h⟩
      refine (h1.map fl).trans ?_
      have h2 : bs.map fl = (ksP m.made).map (lastF m.made) := by
        refine List.ext_getElem (by simp [hbl]) fun j h3 h4 => ?_
        have hj : j < bs.length := by simpa using h3
        have hj2 : j < (ksP m.made).length := by omega
        rw [List.getElem_map, List.getElem_map, hfl]
        have : bs.idxOf bs[j] = j := (List.getElem_inj (h₀ := List.idxOf_lt_length_of_mem (List.getElem_mem hj)) (h₁ := hj) hbn).1 (List.getElem_idxOf (List.idxOf_lt_length_of_mem (List.getElem_mem hj)))
        rw [this]; simp [List.getD, List.getElem?_eq_getElem hj2]
      rw [h2]
end Go.Proofs.YtgmakmfdjhgjlaaGreatDoor
end
section
set_option linter.unusedVariables false
set_option linter.unusedSimpArgs false
set_option maxRecDepth 20000
set_option maxHeartbeats 1000000
namespace Go.Proofs.YtgmakmfdjhgjlaaGreatDoor
open Go Go.Ab
def apAssign : Code := (Code.region 2 #[{ dst := some 5, op := Op.alloc 38, type := 0, pos := "iter.go:51", after := #[], guard := none }, { dst := none, op := Op.store 38 (Operand.tmp 5) (Operand.tmp 7), type := 0, pos := "iter.go:51", after := #[{ on := 0, ground := Ground.data }, { on := 0, ground := Ground.phase }], guard := none }] false)
def apBody : Code := (Code.block 1 (Code.region 3 #[{ dst := some 8, op := Op.load 28 (Operand.tmp 2), type := 28, pos := "iter.go:52", after := #[], guard := none }, { dst := some 9, op := Op.load 38 (Operand.tmp 5), type := 38, pos := "iter.go:52", after := #[], guard := none },
  { dst := some 10, op := Op.buildSlice 28 1 #[(0, Operand.tmp 9)], type := 28, pos := "iter.go:52", after := #[{ on := 1, ground := Ground.data }], guard := none },
  { dst := some 11, op := Op.call { callee := Callee.builtin Builtin.append, args := #[Operand.tmp 8, Operand.tmp 10], argTypes := #[28, 28] }, type := 28, pos := "iter.go:52", after := #[{ on := 0, ground := Ground.data }, { on := 2, ground := Ground.data }], guard := none },
  { dst := none, op := Op.store 28 (Operand.tmp 2) (Operand.tmp 11), type := 0, pos := "iter.go:52", after := #[{ on := 3, ground := Ground.data }, { on := 3, ground := Ground.chain }, { on := 0, ground := Ground.phase }, { on := 1, ground := Ground.phase }, { on := 2, ground := Ground.phase }, { on := 3, ground := Ground.phase }], guard := none }] false))
def apRec (fn : FuncId) (tmps : Array Value) (D : Nat) : Loop := { state := .ready, pending := none, fn, tmps, params := #[7], assign := apAssign, body := apBody, defers := D }
theorem HJ_low8 (k : Nat) (hk : 8 ≤ k) (a b c d e x : Nat) (fs : List Fil) (m : Mc) (g : Tag) (st : Option (List Nat × Nat)) (pre : List Fil) (τ : Heap) (id ver : Nat) (y : Box) (hid : id < 8) (hx : (HJ a b c d e x fs m g st pre τ)[id]? = some (ver, some y)) : LowBox k y := by
  match id, hid with
  | 0, _ => exact mapX_low (vaP_free _) (by cases hx; rfl)
  | 1, _ =>
    cases hx
    refine .map fun p hp => ?_
    unfold mapF at hp
    obtain ⟨t, _, rfl⟩ := List.mem_map.1 hp
    exact ⟨.str, Low.free (st := false) (vaP_free _ _)⟩
  | 2, _ => exact mapX_low (ks := m.ks) (f := fun k => .str (m.regs k)) (fun _ => .str) (by cases hx; rfl)
  | 3, _ =>
    cases hx
    refine .cells fun y hy => ?_
    simp only [mcC, List.mem_cons, List.not_mem_nil, or_false] at hy
    rcases hy with rfl | rfl | rfl | rfl | rfl | rfl | rfl | rfl
    · exact .map (by omega)
    · exact .ms (by omega)
    · exact .map (by omega)
    · exact .map (by omega)
    · exact .int
    · exact .int
    · exact .int
    · exact .bool
  | 4, _ =>
    cases hx
    exact .cells fun y hy => Low.free (st := false) (texts_any _ y hy)
  | 5, _ =>
    cases hx
    exact .cells fun y hy => by simp at hy; subst hy; exact .map (by omega)
  | 6, _ =>
    cases hx
    exact .cells fun y hy => by simp at hy; subst hy; exact .ms (by omega)
  | 7, _ =>
    cases hx
    exact .cells fun y hy => Low.free (st := false) (cels_free pre y hy)
theorem HJ_low (a b c d e x : Nat) (fs : List Fil) (m : Mc) (g : Tag) (st : Option (List Nat × Nat)) (pre : List Fil) (c0 : Nat) (sn : List Nat) (vf : Nat) (h : Fil) (τ : Heap) : LowH 10 (HJ a b c d e x fs m g st pre ((0, some (.miter 1 b c0 sn c0)) :: filD vf h :: τ)) := by
  intro id ver y hid hx
  by_cases h8 : id < 8
  · exact HJ_low8 10 (by omega) a b c d e x fs m g st pre _ id ver y h8 hx
  by_cases h9 : id = 8
  · subst h9
    cases hx
    exact .miter (by decide)
  · obtain rfl : id = 9 := by omega
    cases hx
    exact .cells fun y hy => by simp only [filC, List.mem_cons, List.not_mem_nil, or_false] at hy; rcases hy with rfl | rfl | rfl; exact .str; exact .str; exact .bool
theorem gath_ok (a b c d e x : Nat) (fs : List Fil) (m : Mc) (g : Tag) (l D : Nat) (fn : FuncId) (tmps : Array Value) {r : Rl} {w : World} (hL : w.heap[l]? = some (.loop (apRec fn tmps D))) (ho : Off r l) (hf : FRel r w 13 [(2, .ptr 6 0 0)] { tmps := tmps, defers := [] })
    (hi : Inv cx r (HJ a b c d e x fs m g none [] []) w) : GathX a b c d e x fs m g l r w := by
  intro pre f h st c0 sn vf hpl k r1 w1 v hi1 hx1 hv
  have hll : l < w.heap.size := by
    rcases Nat.lt_or_ge l w.heap.size with h | h
    · exact h
    · rw [Array.getElem?_eq_none h] at hL; cases hL
  have hL1 : w1.heap[l]? = some (.loop (apRec fn tmps D)) := (ho.same hll hx1).trans hL
  have ho1 := ho.ext hll hx1
  have hf1 := hf.mono (hx1.grow hi)
  have hw : ∀ f, (Fence.wide.inRound l).fn f := fun _ => trivial
  refine ⟨fn, tmps.setIfInBounds 7 v, apAssign, apBody, ?_, roundIn_of_wpIn trivial ?_⟩
  · have := run_yield (P := cx.P) (args := #[v]) hL1 rfl
    simpa [apRec] using this
  have hf2 := hf1.set (d := 7) (by decide) hv
  have hf2 : FRel r1 w1 13 [(7, .agg (filC f)), (2, .ptr 6 0 0)] { tmps := tmps.setIfInBounds 7 v, defers := [] } := hf2
  unfold apAssign
  refine wpIn_region_list ?_
  refine wpListIn_spec (n := 13) (v := .ptr 10 0 0) (σ' := HJ a b c d e x fs m g st pre [(0, some (.miter 1 b c0 sn c0)), filD vf h, filD 0 ⟨[], [], false⟩]) hw rfl rfl (by intro c hc; cases hc) (OpSpec.aop rfl (by (repeat' with_reducible apply AllP_cons) <;> try exact aC)) hi1 hf2 fun r2 w2 v2 hv2 hi2 hx2 hf3 => ?_
  refine wpListIn_spec (n := 13) (v := .tup []) (σ' := HJ a b c d e x fs m g st pre [(0, some (.miter 1 b c0 sn c0)), filD vf h, filD 0 f]) hw rfl rfl (by intro c hc; cases hc) (OpSpec.aop rfl (by (repeat' with_reducible apply AllP_cons) <;> try exact aC)) hi2 hf3 fun r3 w3 v3 hv3 hi3 hx3 hf4 => ?_
  refine wpListIn_nil ?_
  have hsz1 : w.heap.size ≤ w1.heap.size := hx1.hs
  have hx13 := hx2.trans hx3
  have ho3 := ho1.ext (by omega) hx13
  have hL3 : w3.heap[l]? = some (.loop (apRec fn tmps D)) := (ho1.same (by omega) hx13).trans hL1
  have hnc : ∀ (q : Loop) (cs : Array Value) (t : TypeId) (fz : Nat × Nat), Obj.loop q ≠ .cells cs t fz := fun q cs t fz h => by cases h
  refine ⟨_, run_beginRound hL3 rfl, ?_⟩
  have hi3' := hi3.poke hL3 (hnc _) ho3 (.loop { apRec fn tmps D with state := .busy })
  have hf4' := hf4.poke hL3 (hnc _) ho3 (.loop { apRec fn tmps D with state := .busy })
  have hll3 : l < w3.heap.size := by have := hx13.hs; omega
  have hLb : (w3.putObj l (.loop { apRec fn tmps D with state := .busy })).heap[l]? = some (.loop { apRec fn tmps D with state := .busy }) := World.putObj_heap_same hll3
  generalize hW : w3.putObj l (.loop { apRec fn tmps D with state := .busy }) = wb at *
  have hcl := cels_len pre
  unfold apBody
  refine wpIn_block (wpIn_region_list ?_)
  refine wpListIn_spec (n := 13) (v := .ms 7 pre.length 0 pre.length 3 false) (σ' := HJ a b c d e x fs m g st pre [(0, some (.miter 1 b c0 sn c0)), filD vf h, filD 0 f]) hw rfl rfl (by intro c hc; cases hc) (OpSpec.aop rfl (by (repeat' with_reducible apply AllP_cons) <;> try exact aC)) hi3' hf4' fun r4 w4 v4 hv4 hi4 hx4 hf5 => ?_
  refine wpListIn_spec (n := 13) (v := .agg (filC f)) (σ' := HJ a b c d e x fs m g st pre [(0, some (.miter 1 b c0 sn c0)), filD vf h, filD 0 f]) hw rfl rfl (by intro c hc; cases hc) (OpSpec.aop rfl (by (repeat' with_reducible apply AllP_cons) <;> try exact aC)) hi4 hf5 fun r5 w5 v5 hv5 hi5 hx5 hf6 => ?_
  refine wpListIn_spec (n := 13) (v := .sl true true 3 [.agg (filC f)]) (σ' := HJ a b c d e x fs m g st pre [(0, some (.miter 1 b c0 sn c0)), filD vf h, filD 0 f]) hw rfl rfl (by intro c hc; cases hc) (OpSpec.aop rfl (by (repeat' with_reducible apply AllP_cons) <;> try exact aC)) hi5 hf6 fun r6 w6 v6 hv6 hi6 hx6 hf7 => ?_
  refine wpListIn_spec (n := 13) (v := .ms 7 (pre.length + 1) 0 (pre.length + 1) 3 false) (σ' := (HJ a b c d e x fs m g st pre [(0, some (.miter 1 b c0 sn c0)), filD vf h, filD 0 f]).set 7 (pre.length + 1, some (.cells (celsF (pre ++ [f])) ⟨false, none⟩))) hw rfl rfl (by intro c hc; cases hc) ?_ hi6 hf7 fun r7 w7 v7 hv7 hi7 hx7 hf8 => ?_
  · have hap : celsF (pre ++ [f]) = celsF pre ++ filC f := by rw [celsF_app]; simp [celsF, fils, filA, AV.cells, filC]
    rw [hap]
    exact OpSpec.aop rfl ⟨rfl, allOne_mem rfl, allOne_mem rfl, rfl, rfl, (by show 0 + pre.length * 3 = (celsF pre).length; rw [hcl]; omega), (by show (pre.length + 1) * 40 ≤ 140737488355328; omega), (by show pre.length + 1 ≤ 9223372036854775807; omega), trivial⟩
  have hl1 : (pre ++ [f]).length = pre.length + 1 := by rw [List.length_append]; rfl
  refine wpListIn_spec (n := 13) (v := .tup []) (σ' := HJ a b c d e x fs m g st (pre ++ [f]) [(0, some (.miter 1 b c0 sn c0)), filD vf h, filD 0 f]) hw rfl rfl (by intro c hc; cases hc) ?_ hi7 hf8 fun r8 w8 v8 hv8 hi8 hx8 hf9 => ?_
  · unfold HJ
    rw [hl1]
    exact OpSpec.aop rfl (by (repeat' with_reducible apply AllP_cons) <;> try exact aC)
  refine wpListIn_nil ?_
  have hxb := (((hx4.trans hx5).trans hx6).trans hx7).trans hx8
  have hob : Off r3 l := ho3
  have hllb : l < wb.heap.size := by rw [← hW, putObj_size]; exact hll3
  have ho8 := hob.ext hllb hxb
  have hL8 : w8.heap[l]? = some (.loop { apRec fn tmps D with state := .busy }) := (hob.same hllb hxb).trans hLb
  refine ⟨_, _, run_endRound none hL8, rfl, ?_⟩
  have hi9 := hi8.poke hL8 (hnc _) ho8 (.loop (apRec fn tmps D))
  have hx9 : Ext r3 _ w3 r8 _ (w8.putObj l (.loop (apRec fn tmps D))) := Ext.poke hL3 (hnc _) ho3 (hW ▸ hxb)
  obtain ⟨r9, k1, k2, _⟩ := trunc (k := 10) hi1 hi9 (hx13.trans hx9) (Nat.le_refl 10) (HJ_low a b c d e x fs m g st (pre ++ [f]) c0 sn vf h [filD 0 f])
  exact ⟨r9, k1, k2⟩
theorem AppendSeq_ok (a b c d e x : Nat) (fs : List Fil) (m : Mc) (g : Tag) (hml : (ksP m.made).length ≤ 1000) : CallOk cx 88 [.nils, .func (.func 65) [] [.ptr 5 x 0]] (mcH a b c d e fs m [(x, some (.cells [.map 1 b] g))])
    (fun o s => ∃ ps : List Fil, ps.Perm ((ksP m.made).map (lastF m.made)) ∧ o = .ret (.ms 7 ps.length 0 ps.length 3 false) ∧ s = HJ a b c d e x fs m g none ps []) := by
  refine ⟨fun a w => Tryz.call88 a w, fun r w vs hi hv => ?_⟩
  refine callsIn_wide.1 (callsIn_of_wp_marks (n := 9) Tryz.func88 rfl trivial ?_ rfl)
  rw [Tryz.ntmps88]
  have hw : ∀ f, Fence.wide.fn f := fun _ => trivial
  have hf := enter_rel (n := 13) hv (by show 2 ≤ 13; omega)
  refine wpIn_seq (wpIn_region_list ?_)
  refine wpListIn_spec (n := 13) (v := .ptr 6 0 0) (σ' := mcH a b c d e fs m [(x, some (.cells [.map 1 b] g)), (0, some (.cells [.nils] ⟨false, none⟩))]) hw rfl rfl (by intro c hc; cases hc) (OpSpec.aop rfl (by (repeat' with_reducible apply AllP_cons) <;> try exact aC)) hi hf fun r1 w1 v1 hv1 hi1 hx1 hf1 => ?_
  refine wpListIn_spec (n := 13) (v := .nils) (σ' := mcH a b c d e fs m [(x, some (.cells [.map 1 b] g)), (0, some (.cells [.nils] ⟨false, none⟩))]) hw rfl rfl (by intro c hc; cases hc) (OpSpec.aop rfl (by (repeat' with_reducible apply AllP_cons) <;> try exact aC)) hi1 hf1 fun r2 w2 v2 hv2 hi2 hx2 hf2 => ?_
  refine wpListIn_nil ?_
  refine wpIn_seq (wpIn_seq (wpIn_region_list ?_))
  refine wpListIn_spec (n := 13) (v := .func (.func 65) [] [.ptr 5 x 0]) (σ' := mcH a b c d e fs m [(x, some (.cells [.map 1 b] g)), (0, some (.cells [.nils] ⟨false, none⟩))]) hw rfl rfl (by intro c hc; cases hc) (OpSpec.aop rfl (by (repeat' with_reducible apply AllP_cons) <;> try exact aC)) hi2 hf2 fun r3 w3 v3 hv3 hi3 hx3 hf3 => ?_
  refine wpListIn_nil ?_
  refine wpIn_block (wpIn_rangeFunc fun fn _ => ?_)
  obtain ⟨hi4, hx4⟩ := hi3.ghostAt (id := 6) (j := 0) (gid := 7) (gver := 0) 3 ⟨false, none⟩ rfl rfl rfl (by decide)
  have hi4 : Ab.Inv cx r3 (HJ a b c d e x fs m g none [] []) w3 := hi4
  have hx4 : Ext r3 _ w3 r3 (HJ a b c d e x fs m g none [] []) w3 := hx4
  have hx04 := ((hx1.trans hx2).trans hx3).trans hx4
  obtain ⟨A, hAe, hfA, hdA⟩ : ∃ A, _ = A ∧ FRel r3 w3 13 _ A ∧ A.defers = [] := ⟨_, rfl, hf3, by rw [put_defers, put_defers, put_defers]⟩
  rw [hAe]
  obtain ⟨wL, hwL⟩ : ∃ wL, (w3.alloc (.deferred (some []))).alloc (.loop (apRec fn A.tmps w3.heap.size)) = wL := ⟨_, rfl⟩
  have hold : ∀ k, k < w3.heap.size → wL.heap[k]? = w3.heap[k]? := fun k hk => by
    rw [← hwL]; exact (Go.RowKit.Below.heap_alloc _ _ k (by simp; omega)).trans (Go.RowKit.Below.heap_alloc _ _ k hk)
  have hsL : wL.heap.size = w3.heap.size + 2 := by rw [← hwL]; simp
  obtain ⟨hiL, hxL⟩ := hi4.grown (w' := wL) hold (by omega) (by rw [← hwL]; rfl) (by rw [← hwL]; rfl) (by rw [← hwL]; rfl)
  have hLl : wL.heap[w3.heap.size + 1]? = some (.loop (apRec fn A.tmps w3.heap.size)) := by
    rw [← hwL]; have := World.alloc_heap_new (w3.alloc (.deferred (some []))) (.loop (apRec fn A.tmps w3.heap.size)); rwa [World.size_alloc] at this
  have hLD : wL.heap[w3.heap.size]? = some (.deferred (some [])) := by
    rw [← hwL]; exact (Go.RowKit.Below.heap_alloc _ _ _ (by simp)).trans (World.alloc_heap_new w3 _)
  have hol : Off r3 (w3.heap.size + 1) := Off.new hi4 (by omega)
  have hoD : Off r3 w3.heap.size := Off.new hi4 (Nat.le_refl _)
  have hfL := hfA.mono ((hx4.trans hxL).grow hi3)
  have g6 := hfA.get 6
  have g6 : VRel r3 w3 (A.tmps.getD 6 undef) (.func (.func 65) [] [.ptr 5 x 0]) := g6
  obtain ⟨pv, e6, hpv⟩ : ∃ pv, A.eval (.tmp 6) = .func (.func 65) #[] #[pv] ∧ VRel r3 w3 pv (.ptr 5 x 0) := by
    show ∃ pv, A.tmps.getD 6 undef = _ ∧ _
    generalize A.tmps.getD 6 undef = z at g6
    cases g6 with
    | func q1 q0 q2 q3 =>
      rename_i first captured
      refine ⟨captured.getD 0 undef, ?_, q3 0 (by simp)⟩
      rw [Array.eq_empty_of_size_eq_zero q1]
      congr 1
      have q2 : captured.size = 1 := q2
      refine Array.ext (by simp [q2]) fun j h1 h2 => ?_
      match j, h1 with
      | 0, h1 => simp [Array.getD, h1]
      | j + 1, h1 => omega
  refine ⟨w3.heap.size + 1, [{ target := .collected w3.heap.size, args := #[] }], wL, { target := .fn (.func 65) #[pv], args := #[.func (.yield (w3.heap.size + 1)) #[] #[]] }, wL, 65,
    #[.func (.yield (w3.heap.size + 1)) #[] #[]] ++ #[pv], wL, ?_, ?_, fun _ _ => trivial, ?_, (fun h => by cases h), ?_⟩
  · rw [← hwL]; exact run_enterLoop_outer _ _ _ _ _
  · have e6' : A.tmps[6]?.getD undef = .func (.func 65) #[] #[pv] := by rw [← Array.getD_eq_getD_getElem?]; exact e6
    simp [resolve, rangeCall, go_sem, e6', Deferred.ofValue]
  · have eg := fun args w => Tryz.call65 args w
    show (invoke _ _).run Tryz.prog wL = _
    simp [invoke, go_sem, eg]
  refine callsIn_wide.2 ((Values1_ok a b c d e x fs m g (w3.heap.size + 1) hml r3 wL _ hiL ?_ ?_).mono ?_)
  · refine ⟨rfl, fun i h => ?_⟩
    match i, h with
    | 0, _ => exact .func rfl (fun i h => absurd h (by simp)) rfl (fun i h => absurd h (by simp))
    | 1, _ => exact hpv.mono ((hx4.trans hxL).grow hi3)
    | k + 2, h => exact absurd h (by simp)
  · refine gath_ok a b c d e x fs m g (w3.heap.size + 1) w3.heap.size fn A.tmps hLl hol ⟨hfL.size, fun t => ?_, fun vs h => by cases h⟩ hiL
    have := hfL.get t
    by_cases ht : t = 2
    · subst ht; exact this
    · rw [Fr.get_cons, if_neg (fun e => ht e.symm)]; exact .top
  rintro en w5 ⟨o, σ', r5, ⟨rfl, ps, hps, u, v, rfl⟩, hor, hi5, hx5⟩
  cases en with
  | outgrown => exact hor.elim
  | panicked chain => exact hor.elim
  | returned vr =>
    have hnc : ∀ (q : Loop) (cs : Array Value) (t : TypeId) (fz : Nat × Nat), Obj.loop q ≠ .cells cs t fz := fun q cs t fz h => by cases h
    have hL5 : w5.heap[w3.heap.size + 1]? = some (.loop (apRec fn A.tmps w3.heap.size)) := (hol.same (by omega) hx5).trans hLl
    have hD5 : w5.heap[w3.heap.size]? = some (.deferred (some [])) := (hoD.same (by omega) hx5).trans hLD
    have hol5 := hol.ext (by omega) hx5
    have hoD5 := hoD.ext (by omega) hx5
    refine ⟨none, _, run_endLoop hL5 (show LoopState.ready ≠ LoopState.busy by decide), ?_⟩
    have hi6 := hi5.poke hL5 (hnc _) hol5 (.loop { apRec fn A.tmps w3.heap.size with state := .exhausted })
    have hsw : w.heap.size ≤ w3.heap.size := ((hx1.trans hx2).trans hx3).hs
    have hx6 := Ext.poke_new (l := w3.heap.size + 1) (by omega) ((hx04.trans hxL).trans hx5) (.loop { apRec fn A.tmps w3.heap.size with state := .exhausted })
    have hf6 := (hfL.mono (hx5.grow hiL)).poke hL5 (hnc _) hol5 (.loop { apRec fn A.tmps w3.heap.size with state := .exhausted })
    have hD6 : (w5.putObj (w3.heap.size + 1) (.loop { apRec fn A.tmps w3.heap.size with state := .exhausted })).heap[w3.heap.size]? = some (.deferred (some [])) := (putObj_other (by omega)).trans hD5
    generalize hW6 : w5.putObj (w3.heap.size + 1) (.loop { apRec fn A.tmps w3.heap.size with state := .exhausted }) = w6 at *
    show (Code.seq _ _).wpIn _ _ _ _ _ _
    have hf7 : FRel r5 w6 13 [(2, .ptr 6 0 0)] { A with defers := [{ target := .collected w3.heap.size, args := #[] }] ++ A.defers } := ⟨hf6.size, fun t => by
      have := hf6.get t
      by_cases ht : t = 2
      · subst ht; exact this
      · rw [Fr.get_cons, if_neg (fun e => ht e.symm)]; exact .top, fun vs h => by cases h⟩
    refine wpIn_seq (wpIn_region_list ?_)
    refine wpListIn_spec (n := 13) (v := .ms 7 ps.length 0 ps.length 3 false) (σ' := HJ a b c d e x fs m g none ps [(u, none), (v, none)]) hw rfl rfl (by intro c hc; cases hc) (OpSpec.aop rfl (by (repeat' with_reducible apply AllP_cons) <;> try exact aC)) hi6 hf7 fun r7 w7 v7 hv7 hi7 hx7 hf8 => ?_
    refine wpListIn_spec (n := 13) (v := .ms 7 ps.length 0 ps.length 3 false) (σ' := HJ a b c d e x fs m g none ps [(u, none), (v, none)]) hw rfl rfl (by intro c hc; cases hc) (OpSpec.aop rfl (by (repeat' with_reducible apply AllP_cons) <;> try exact aC)) hi7 hf8 fun r8 w8 v8 hv8 hi8 hx8 hf9 => ?_
    refine wpListIn_nil (wpIn_ret ?_)
    have hx78 := hx7.trans hx8
    have hs6 : w3.heap.size + 2 ≤ w6.heap.size := by rw [← hW6, putObj_size]; have := hx5.hs; omega
    have hoD6 : Off r5 w3.heap.size := hoD5
    have hoD8 := hoD6.ext (by omega) hx78
    have hD8 : w8.heap[w3.heap.size]? = some (.deferred (some [])) := (hoD6.same (by omega) hx78).trans hD6
    have hndf : ∀ (ds : Option (List Deferred)) (cs : Array Value) (t : TypeId) (fz : Nat × Nat), Obj.deferred ds ≠ .cells cs t fz := fun q cs t fz h => by cases h
    have hi9 := hi8.poke hD8 (hndf _) hoD8 (.deferred none)
    have hx9 := Ext.poke_new (l := w3.heap.size) hsw (hx6.trans hx78) (.deferred none)
    have hf10 := hf9.poke hD8 (hndf _) hoD8 (.deferred none)
    have g4 := hf10.get 4
    show LeavesInM _ _ _ _ _ _ (Act.defers _) _ _
    rw [put_defers, put_defers, hdA]
    refine ⟨by simp, .inl ⟨w3.heap.size, _, rfl, run_takeDeferred hD8, ?_⟩⟩
    refine ⟨_, results_tmp rfl _ _ _, ?_⟩
    obtain ⟨r10, k1, k2, k3, _⟩ := trunc (k := 8) hi hi9 hx9 (by show 6 ≤ 8; omega) (fun id ver y hid hx => HJ_low8 8 (Nat.le_refl _) a b c d e x fs m g none ps _ id ver y hid hx)
    exact ⟨_, _, r10, ⟨ps, hps, rfl, rfl⟩, k3 _ _ (.ms (by decide)) g4, k1, k2⟩
end Go.Proofs.YtgmakmfdjhgjlaaGreatDoor
end
section
set_option linter.unusedVariables false
set_option linter.unusedSimpArgs false
set_option maxRecDepth 20000
set_option maxHeartbeats 4000000
namespace Go.Proofs.YtgmakmfdjhgjlaaGreatDoor
open Go Go.Ab Go.Shelf Go.RowKit Go.Lib Go.Sort
theorem clos_cR (f g : Fil) (W : World) : Calls Tryz.prog 28 #[.agg (encF f).toArray, .agg (encF g).toArray] W fun e w' => e = .returned (.int .i64 (cmpF f g)) ∧ ∃ q os', w' = grow (W.drewN q) os' := by
  have hcon := fun W' => compare_c ⟨f.path.toArray⟩ ⟨g.path.toArray⟩ W'
  unfold cmpF
  generalize hr : cmpT f.path g.path = r
  have hcon : ∀ W', Calls Tryz.prog 29 #[.string ⟨f.path.toArray⟩, .string ⟨g.path.toArray⟩] W' fun e w' => e = .returned (.int .i64 r) ∧ w' = W' := by
    intro W'
    have := hcon W'
    simp only [List.toList_toArray, hr] at this
    exact this
  unfold encF
  go_enter Tryz.func28, Tryz.ntmps28
  go_wp2_with (go_at_call 29; refine (hcon _).mono ?_; rintro e w' ⟨rfl, rfl⟩)
  go_ret
  exact ⟨rfl, 0, _, by rw [alloc_eq_grow, alloc_eq_grow, grow_grow]; rfl⟩
theorem cmpLaysR (blk off size : Nat) (w : World) : CmpLays Tryz.prog 28 #[] encF 3 cmpF blk off size w :=
  fun _ _ _ _ f g => clos_cR f g _
theorem sort_cR (blk off cap : Nat) (d : Array Fil) (w : World) (hH : HoldsK encF 3 w blk off d) (hblk : blk < w.heap.size) (hsz : d.size < 4611686018427387904) :
    Calls Tryz.prog 64 #[.slice (some ⟨blk, off, none⟩) d.size cap, .func (.func 28) #[] #[]] w fun e w' =>
      e = .returned (.tuple #[]) ∧ ∃ d' n os, PermIn 0 d.size d d' ∧ SortedIn (ltOf cmpF) 0 d.size d' ∧ w' = sortWorldK encF 3 w blk off n d' os :=
  AnyQ.slices_SortFunc lay_sortf 3 Tryz.isAgg38 Tryz.sizeOf38 encF (fun _ => rfl) (fun x v hv => by simp [encF] at hv; rcases hv with rfl | rfl | rfl <;> rfl) cmpF swoF 28 #[] blk off cap d w (fun a w => Tryz.call28 a w) (cmpLaysR blk off d.size w) hH hblk hsz
theorem Sort_okR (o : List Fil) (hne : 0 < o.length) (hlen : o.length ≤ 1000000) (hnd : (o.map Fil.path).Nodup) {σ : Heap} {id ver : Nat} (hσ : σ[id]? = some (ver, some (.cells (celsF o) ⟨false, none⟩))) :
    CallOk cx 64 [.ms id ver 0 o.length 3 false, .func (.func 28) [] []] σ (fun e s => e = .ret (.tup []) ∧ s = σ.set id (ver, some (.cells (celsF (sortFl o)) ⟨false, none⟩))) := by
  refine ⟨fun a w => Tryz.call64 a w, fun r w vs hi hv => ?_⟩
  obtain ⟨hs, hv⟩ := hv
  have g0 := hv 0 (by simp)
  have g1 := hv 1 (by simp)
  have hvs : vs = #[vs.getD 0 undef, vs.getD 1 undef] := by
    have hs : vs.size = 2 := hs
    refine Array.ext (by simp [hs]) fun j h1 h2 => ?_
    match j, h1 with
    | 0, h1 => simp [Array.getD, h1]
    | 1, h1 => simp [Array.getD, h1]
    | j + 2, h1 => omega
  rw [hvs]
  generalize vs.getD 0 undef = a at g0
  generalize vs.getD 1 undef = b at g1
  have g0 : VRel r w a (.ms id ver 0 o.length 3 false) := g0
  have g1 : VRel r w b (.func (.func 28) [] []) := g1
  cases g1 with
  | func f1 hfx f2 hbx0 =>
  rename_i first captured
  have hf1 : first = #[] := Array.eq_empty_of_size_eq_zero f1
  have hf2 : captured = #[] := Array.eq_empty_of_size_eq_zero f2
  subst hf1; subst hf2
  generalize hn : o.length = n at g0
  cases g0 with
  | ms0 => omega
  | ms hρ hcap hle hff =>
  rename_i blk off cap
  rcases hi.box id ver _ hσ with ⟨blk', off', hρ', hbx⟩ | ⟨_, ro, h⟩
  case inr =>
    have h := Box.cells.inj h
    have := cels_len o
    rw [h.1] at this; simp at this; omega
  rw [hρ] at hρ'
  obtain ⟨rfl, rfl⟩ : blk = blk' ∧ off = off' := by cases hρ'; exact ⟨rfl, rfl⟩
  obtain ⟨c, t, lo, hi0, q1, q2, q3, q4, q5⟩ := hbx
  have hcl := cels_len o
  have hbs : blk < w.heap.size := (hi.lt _ _ _ _ hρ).2
  have hcell : ∀ j, j < o.length * 3 → c[off + j]? = some (flatK encF 3 o.toArray)[j]! := by
    intro j hj
    obtain ⟨v, k1, k2⟩ := q2 j (by omega)
    have hg := cel_get hj
    rw [List.getElem?_eq_getElem (by omega)] at hg
    rw [Option.some.inj hg] at k2
    rw [k1, flat_get hj, enc_eq (Nat.mod_lt _ (by decide)) k2]
  have hH : HoldsK encF 3 w blk off o.toArray := by
    intro j hj
    have hj : j < o.length * 3 := by simpa using hj
    refine ⟨by simp only [World.cell?, q1]; exact hcell j hj, ?_⟩
    have hjc : off + j < c.size := by
      rcases Nat.lt_or_ge (off + j) c.size with h | h
      · exact h
      · have := hcell j hj
        rw [Array.getElem?_eq_none h] at this; cases this
    simp only [World.frozen?, q1]
    cases hz : (decide (lo ≤ off + j) && decide (off + j < hi0)) with
    | false => rfl
    | true =>
      simp only [Bool.and_eq_true, decide_eq_true_eq] at hz
      have := (q4 _ hz.1 hz.2 hjc).1
      cases this
  have hc := sort_cR blk off cap o.toArray w hH hbs (by simp; omega)
  rw [show o.toArray.size = n by simpa using hn] at hc
  refine hc.mono ?_
  rintro e w' ⟨rfl, d', m, os, hp, hsd, rfl⟩
  obtain ⟨hd1, _, hd3⟩ := hp
  have hd1 : d'.size = n := by rw [hd1]; simpa using hn
  have hperm : d'.toList.Perm o := by
    have e1 : d'.extract 0 n = d' := by rw [← hd1]; simp
    have e2 : o.toArray.extract 0 n = o.toArray := by rw [← hn]; simp
    rw [e1, e2] at hd3
    simpa using hd3
  have hpw : d'.toList.Pairwise fun f g => f.path ≤ g.path := by
    rw [List.pairwise_iff_getElem]
    intro i j h1 h2 hij
    rw [Array.length_toList] at h1 h2
    have h3 := hsd i j (Nat.zero_le _) hij (by omega)
    rw [ltF, getElem!_pos d' i h1, getElem!_pos d' j h2] at h3
    simp only [decide_eq_false_iff_not] at h3
    simpa using h3
  have hsl := sortFl_uniq hnd hperm hpw
  have hd' : d' = (sortFl o).toArray := by rw [← hsl]
  have hln : (sortFl o).length = n := by rw [(sortFl_perm o).length_eq]; exact hn
  have hF : (flatK encF 3 d').size = n * 3 := by rw [size_flatK, hd1]
  have hheap : ∀ k, k < w.heap.size → (sortWorldK encF 3 w blk off m d' os).heap[k]? = if blk = k then some (Obj.cells (putCells _root_.id off (flatK encF 3 d') c) t (lo, hi0)) else w.heap[k]? := by
    intro k hk
    show ((w.heap.modify blk (onCells (putCells _root_.id off (flatK encF 3 d')))) ++ os)[k]? = _
    rw [Array.getElem?_append_left (by simpa using hk), Array.getElem?_modify]
    by_cases e : blk = k
    · subst e
      rw [if_pos rfl, if_pos rfl, q1]; rfl
    · rw [if_neg e, if_neg e]
  have hupd := hi.update (σ' := σ.set id (ver, some (.cells (celsF (sortFl o)) ⟨false, none⟩))) (id := id) (ver := ver) (b := blk) (o := off) (x := .cells (celsF (sortFl o)) ⟨false, none⟩) (w' := sortWorldK encF 3 w blk off m d' os)
    (by
      have : id < σ.length := by
        rcases Nat.lt_or_ge id σ.length with h | h
        · exact h
        · rw [List.getElem?_eq_none h] at hσ; cases hσ
      simp [this]) (fun j hj => by rw [List.getElem?_set, if_neg (Ne.symm hj)]) (fun c2 y hy => by rw [hσ] at hy; cases hy; exact .inr ⟨rfl, hρ⟩) (.inr ⟨ver, _, off, hσ, hρ⟩)
    (fun k hk hkb => by rw [hheap k hk, if_neg (Ne.symm hkb)]) (by
      show w.heap.size ≤ ((w.heap.modify blk (onCells (putCells _root_.id off (flatK encF 3 d')))) ++ os).size
      simp) (fun c2 t2 f2 hc2 => by
        rw [q1] at hc2; cases hc2
        exact ⟨_, _, by rw [hheap blk hbs, if_pos rfl], by simp [putCells]⟩) rfl rfl rfl
    (fun g => by
      refine ⟨_, t, lo, hi0, by rw [hheap blk hbs, if_pos rfl], fun i hil => ?_, cels_one _, fun i h1 h2 h3 => ?_, fun T h => by cases h⟩
      · have hil' : i < (sortFl o).length * 3 := by rw [cels_len] at hil; exact hil
        have hg := cel_get hil'
        rw [List.getElem?_eq_getElem hil] at hg
        rw [Option.some.inj hg]
        refine ⟨(flatK encF 3 (sortFl o).toArray)[i]!, ?_, by rw [flat_get hil']; exact enc_rel _ _ _ _ (Nat.mod_lt _ (by decide))⟩
        have hci : off + i < c.size := by
          have := hcell i (by omega)
          rcases Nat.lt_or_ge (off + i) c.size with h | h
          · exact h
          · rw [Array.getElem?_eq_none h] at this; cases this
        rw [hd']
        unfold putCells
        rw [Array.getElem?_mapIdx, Array.getElem?_eq_getElem hci]
        show some (if off ≤ off + i ∧ off + i < off + (flatK encF 3 (sortFl o).toArray).size then _root_.id ((flatK encF 3 (sortFl o).toArray)[off + i - off]!) else _) = _
        rw [if_pos ⟨by omega, by rw [size_flatK]; simp; omega⟩, Nat.add_sub_cancel_left]; rfl
      · have h3 : i < c.size := by simpa [putCells] using h3
        have := (q4 i h1 h2 h3).1
        cases this)
  exact ⟨.ret (.tup []), _, _, ⟨rfl, rfl⟩, .tup rfl (fun i h => absurd h (by simp)), hupd.1, hupd.2⟩
theorem Ins0_okR (σ : Heap) (v : Nat) : CallOk cx 105 [.ms 7 v 0 0 3 false, .int .i64 0, .int .i64 0, .func (.func 28) [] []] σ (fun o s => o = .ret (.tup []) ∧ s = σ) :=
  callOk_intro (fun a w => Tryz.call105 a w) Tryz.func105 rfl Tryz.ntmps105 rfl fun B => by
    refine pas [] rfl ?_ ?_
    · (repeat' with_reducible apply AllP_cons) <;> try exact aC
    refine S_while (α := Unit) (fun _ => [(2, .int .i64 0), (8, .int .i64 1)]) (fun _ => σ) (fun _ => True) (fun _ => 0) () trivial (.cons rfl (.cons rfl (.nil _))) rfl ?_
    rintro ⟨⟩ _
    refine pas [.b false] rfl ?_ ?_
    · (repeat' with_reducible apply AllP_cons) <;> try exact aC
    exact S_nil ⟨_, _, rfl, trivial, rfl, rfl⟩
theorem Pdq0_okR (σ : Heap) (v : Nat) : CallOk cx 89 [.ms 7 v 0 0 3 false, .int .i64 0, .int .i64 0, .int .i64 0, .func (.func 28) [] []] σ (fun o s => o = .ret (.tup []) ∧ s = σ) :=
  callOk_intro (fun a w => Tryz.call89 a w) Tryz.func89 rfl Tryz.ntmps89 rfl fun B => by
    refine pas [] rfl ?_ ?_
    · (repeat' with_reducible apply AllP_cons) <;> try exact aC
    refine S_while (α := Unit) (fun _ => [(0, .ms 7 v 0 0 3 false), (1, .int .i64 0), (2, .int .i64 0), (4, .func (.func 28) [] [])]) (fun _ => σ) (fun _ => True) (fun _ => 0) () trivial (.cons rfl (.cons rfl (.cons rfl (.cons rfl (.nil _))))) rfl ?_
    rintro ⟨⟩ _
    refine pa [.b true, .k (.tup [])] rfl ?_ ?_
    · (repeat' with_reducible apply AllP_cons) <;> try exact aC
      · exact Ins0_okR σ v
    exact S_ret ⟨_, _, rfl, trivial, rfl, rfl⟩
theorem Sort_any (o : List Fil) (hlen : o.length ≤ 1000000) (hnd : (o.map Fil.path).Nodup) {σ : Heap} {v : Nat} (hσ : σ[7]? = some (v, some (.cells (celsF o) ⟨false, none⟩))) :
    CallOk cx 64 [.ms 7 v 0 o.length 3 false, .func (.func 28) [] []] σ (fun e s => e = .ret (.tup []) ∧ s = σ.set 7 (v, some (.cells (celsF (sortFl o)) ⟨false, none⟩))) := by
  by_cases h0 : o = []
  · subst h0
    have hs : sortFl [] = [] := List.length_eq_zero_iff.1 (by rw [(sortFl_perm []).length_eq]; rfl)
    rw [hs]
    have hset : σ.set 7 (v, some (.cells (celsF []) ⟨false, none⟩)) = σ := by
      refine List.ext_getElem? fun i => ?_
      rw [List.getElem?_set]
      split
      · rename_i h; subst h
        split
        · exact hσ.symm
        · rename_i h; rw [List.getElem?_eq_none (by omega)] at hσ; cases hσ
      · rfl
    rw [hset]
    exact callOk_intro (fun a w => Tryz.call64 a w) Tryz.func64 rfl Tryz.ntmps64 rfl fun B => by
      refine pas [.v (.int .i64 0), .k (.tup [])] rfl ?_ ?_
      · (repeat' with_reducible apply AllP_cons) <;> try exact aC
        · exact ⟨_, LenU0_ok, .cons (.refl .int) (.nil _)⟩
        · exact Pdq0_okR _ _
      exact S_nil ⟨_, _, rfl, trivial, rfl, rfl⟩
  · exact Sort_okR o (List.length_pos_iff.2 h0) hlen hnd hσ
theorem Collect_ok (a b c d e x : Nat) (fs : List Fil) (m : Mc) (g : Tag) (hml : (ksP m.made).length ≤ 1000) : CallOk cx 63 [.func (.func 65) [] [.ptr 5 x 0]] (mcH a b c d e fs m [(x, some (.cells [.map 1 b] g))])
    (fun o s => ∃ ps : List Fil, ps.Perm ((ksP m.made).map (lastF m.made)) ∧ o = .ret (.ms 7 ps.length 0 ps.length 3 false) ∧ s = HJ a b c d e x fs m g none ps []) :=
  callOk_intro (fun a w => Tryz.call63 a w) Tryz.func63 rfl Tryz.ntmps63 rfl fun B => by
    refine pB [] rfl ?_
    refine S_call rfl rfl rfl (AppendSeq_ok a b c d e x fs m g hml) ?_ ?_
    · rintro v s ⟨ps, h1, h2, rfl⟩
      cases h2
      refine pB [] rfl ?_
      exact S_ret ⟨_, _, rfl, trivial, ps, h1, rfl, rfl⟩
    · rintro v s ⟨ps, h1, h2, rfl⟩
      cases h2
theorem gathered {c ps : List Fil} (h : ps.Perm ((ksP c).map (lastF c))) : (ps.map Fil.path).Nodup ∧ sortFl ps = ovT c := by
  have hp : ((ksP c).map (lastF c)).map Fil.path = ksP c := by
    rw [List.map_map]
    conv => rhs; rw [← List.map_id (ksP c)]
    exact List.map_congr_left fun p hp => (lastF_mem hp).2
  have hnd : (ps.map Fil.path).Nodup := (h.map Fil.path).nodup_iff.2 (by rw [hp]; exact ksP_nodup c)
  refine ⟨hnd, ?_⟩
  refine (sortFl_uniq hnd ?_ ?_).symm
  · unfold ovT
    exact (((sortT_perm (ksP c)).map (lastF c)).trans h.symm)
  · refine List.pairwise_map.1 ?_
    rw [ov_paths]
    exact sortT_pw _
theorem mcH_low6 (a b c d e x : Nat) (fs : List Fil) (m : Mc) (g : Tag) (τ : Heap) : LowH 6 (mcH a b c d e fs m ((x, some (.cells [.map 1 b] g)) :: τ)) := by
  intro id ver y hid hx
  match id, hid with
  | 0, _ => exact mapX_low (vaP_free _) (by cases hx; rfl)
  | 1, _ => exact mapX_low (vaP_free _) (by cases hx; rfl)
  | 2, _ => exact mapX_low (ks := m.ks) (f := fun k => .str (m.regs k)) (fun _ => .str) (by cases hx; rfl)
  | 3, _ =>
    cases hx
    refine .cells fun y hy => ?_
    simp only [mcC, List.mem_cons, List.not_mem_nil, or_false] at hy
    rcases hy with rfl | rfl | rfl | rfl | rfl | rfl | rfl | rfl
    · exact .map (by decide)
    · exact .ms (by decide)
    · exact .map (by decide)
    · exact .map (by decide)
    · exact .int
    · exact .int
    · exact .int
    · exact .bool
  | 4, _ =>
    cases hx
    exact .cells fun y hy => Low.free (st := false) (texts_any _ y hy)
  | 5, _ =>
    cases hx
    exact .cells fun y hy => by simp at hy; subst hy; exact .map (by decide)
theorem mcH_rn6 (a b c d e x : Nat) (fs : List Fil) (m : Mc) (g : Tag) : RnH (List.range 6) (mcH a b c d e fs m [(x, some (.cells [.map 1 b] g))]) (mcH a b c d e fs m [(x, some (.cells [.map 1 b] g))]) :=
  .cons (mapX_rn _ _ _ (vaP_free _) _) (.cons (mapX_rn _ _ _ (vaP_free _) _) (.cons (mapX_rn _ _ _ (fun _ => .str) _)
    (.cons (.live (.cells (.cons (.map rfl) (.cons (.ms rfl) (.cons (.map rfl) (.cons (.map rfl) (.free (by intro x hx; simp at hx; rcases hx with rfl | rfl | rfl | rfl; exact .int; exact .int; exact .int; exact .bool))))))))
      (.cons (.live (.cells (.free (texts_any _)))) (.cons (.live (.cells (.cons (.map rfl) (.nil _)))) (.nil _))))))
theorem SortedFunc_ok (a b c d e x : Nat) (fs : List Fil) (m : Mc) (g : Tag) (hml : (ksP m.made).length ≤ 1000) : CallOk cx 26 [.func (.func 65) [] [.ptr 5 x 0], .func (.func 28) [] []] (mcH a b c d e fs m [(x, some (.cells [.map 1 b] g))])
    (fun o s => o = .ret (.sl true false 3 (fils (ovT m.made))) ∧ s = mcH a b c d e fs m [(x, some (.cells [.map 1 b] g))]) :=
  callOk_introT (fun a w => Tryz.call26 a w) Tryz.func26 rfl Tryz.ntmps26 rfl fun B => by
    refine pB [] rfl ?_
    refine S_call rfl rfl rfl (Collect_ok a b c d e x fs m g hml) ?_ ?_
    · rintro v s ⟨ps, h1, h2, rfl⟩
      cases h2
      obtain ⟨hnd, hsf⟩ := gathered h1
      have hpl : ps.length ≤ 1000000 := by have := h1.length_eq; rw [List.length_map] at this; omega
      have hS := Sort_any ps hpl hnd (σ := HJ a b c d e x fs m g none ps []) (v := ps.length) rfl
      rw [hsf] at hS
      refine pB [.f (.tup []) (fun _ => (HJ a b c d e x fs m g none ps []).set 7 (ps.length, some (.cells (celsF (ovT m.made)) ⟨false, none⟩)))] rfl ?_
      have hol : (ovT m.made).length = ps.length := by rw [← hsf, (sortFl_perm ps).length_eq]
      refine S_ret ⟨_, _, rfl, trivial, 6, Nat.le_refl _, mcH_low6 a b c d e x fs m g _, _, ?_, rfl, rfl⟩
      rw [← hol]
      exact .ms (ys := celsF (ovT m.made)) (by decide) rfl (by rw [cels_len]; omega) (by rw [List.drop_zero, List.take_of_length_le (by rw [cels_len]; omega)]) (fil_size _) (fils_len _) rfl (fun i h h' => .low (Low.free (st := false) (cels_free _ _ (List.getElem_mem _))))
    · rintro v s ⟨ps, h1, h2, rfl⟩
      cases h2
theorem sortsF : SortsF := fun a b c d e x fs m g τ hml =>
  (SortedFunc_ok a b c d e x fs m g hml).pre1 6 τ rfl rfl
    (.cons (.func rfl (fun i h => absurd h (by simp)) rfl (fun i h h' => by match i, h with | 0, _ => exact .ptr rfl | k + 1, h => exact absurd h (by simp))) (.cons (.free (.func (fun x h => by cases h) (fun x h => by cases h))) (.nil _)))
    (mcH_rn6 a b c d e x fs m g) (mcH_rn6 a b c d e x fs m g) (.free (.sl (fun h => by cases h) (fils_free _)))
theorem Run_any {st fl st' fl' : Bool} (fs : List Fil) (com : List (List UInt8)) (fuel : Int) (hfs : FilsOk fs) (hcl : com.length ≤ 1000000000000) (hfu : -9223372036854775808 ≤ fuel ∧ fuel ≤ 9223372036854775807) :
    Calc cx 13 [.sl st fl 3 (fils fs), .sl st' fl' 1 (texts com), .int .i64 fuel] (runAV fs com fuel) := Run_ok sortsF fs com fuel hfs hcl hfu
end Go.Proofs.YtgmakmfdjhgjlaaGreatDoor
end
section
set_option linter.unusedVariables false
set_option linter.unusedSimpArgs false
set_option maxRecDepth 20000
set_option maxHeartbeats 4000000
namespace Go.Proofs.YtgmakmfdjhgjlaaGreatDoor
open Go Go.Ab
theorem WordsOf_ok (s : List UInt8) (hs : s.length ≤ 1099511627776) : Calc cx 20 [.str s] (.sl true false 1 (texts (splitB 32 s))) :=
  pure_intro (fun a w => Tryz.call20 a w) Tryz.func20 rfl Tryz.ntmps20 rfl (.sl (fun _ => rfl) (texts_any _)) fun B => by
    refine go (M := [5]) 1000 rfl trivial ?_
    refine S_unfull (t := 3) rfl ⟨_, _, .inl rfl⟩ ?_
    refine S_while (α := Nat × List (List UInt8) × List UInt8 × Nat) (fun (i, pre, last, u) => [(0, .str s), (3, .ms 0 u 0 (pre.length + 1) 1 false), (4, .int .i64 (i : Nat))])
      (fun (i, pre, last, u) => [(u, some (.cells (texts (pre ++ [last])) ⟨false, none⟩))])
      (fun (i, pre, last, u) => i ≤ s.length ∧ pre.length ≤ i ∧ last.length ≤ i ∧ pre ++ glue last (splitB 32 (s.drop i)) = splitB 32 s) (fun (i, pre, last, u) => s.length - i) (0, [], [], 0)
      ⟨Nat.zero_le _, Nat.le_refl _, Nat.le_refl _, by simp [glue_nil _ (splitB_ne 32 s)]⟩ (.cons rfl (.cons rfl (.cons rfl (.nil _)))) rfl ?_
    rintro ⟨i, pre, last, u⟩ ⟨h1, h2, h3, h4⟩
    have h1 : i ≤ s.length := h1
    have h2 : pre.length ≤ i := h2
    have h3 : last.length ≤ i := h3
    have hpl : (texts (pre ++ [last])).length = pre.length + 1 := by simp [texts]
    refine ab 1000 rfl trivial ?_
    refine S_dec rfl (fun hil => ?_) (fun hil => ?_)
    · have hil : i < s.length := by omega
      have hd : s.drop i = s[i] :: s.drop (i + 1) := List.drop_eq_getElem_cons hil
      have hgd : s.getD i 0 = s[i] := by simp [List.getD, hil]
      refine ab 1000 rfl ⟨by omega, by omega, trivial⟩ ?_
      refine S_beq rfl (fun hc => ?_) (fun hc => ?_)
      · have hc : s[i] = 32 := by
          have h' : (((s.getD (i : Int).toNat 0).toNat : Nat) : Int) = 32 := hc
          rw [Int.toNat_natCast, hgd] at h'
          exact UInt8.toNat_inj.1 (by have : s[i].toNat = 32 := by omega
                                      rw [this]; rfl)
        refine ab 1000 rfl ⟨?_, ?_, ?_, rfl, rfl, allOne_mem (cs := [.str []]) rfl, allOne_mem (cs := [.str []]) rfl, rfl, trivial⟩ ?_
        · show pre.length + 1 + 1 ≤ 9223372036854775807; omega
        · show (pre.length + 1 + 1) * 16 ≤ 140737488355328; omega
        · show 0 + (pre.length + 1) * 1 = (texts (pre ++ [last])).length; omega
        refine S_round (i + 1, pre ++ [last], [], u + 1) (by show s.length - (i + 1) < s.length - i; omega) ⟨hil, by simp; omega, Nat.zero_le _, ?_⟩ (.cons rfl (.cons ?_ (.cons (ai64 rfl (by omega)) (.nil _)))) ?_
        · rw [← h4, hd, hc]
          show (pre ++ [last]) ++ glue [] (splitB 32 (s.drop (i + 1))) = pre ++ glue last (splitB 32 (32 :: s.drop (i + 1)))
          rw [glue_nil _ (splitB_ne _ _), splitB, if_pos rfl]
          simp [glue]
        · show AV.ms 0 (u + 1) 0 (pre.length + 1 + 1) 1 false = .ms 0 (u + 1) 0 ((pre ++ [last]).length + 1) 1 false
          simp
        · show [(u + 1, some (Box.cells (texts (pre ++ [last]) ++ [.str []]) ⟨false, none⟩))] = [(u + 1, some (Box.cells (texts ((pre ++ [last]) ++ [[]])) ⟨false, none⟩))]
          simp [texts]
      · have hc : s[i] ≠ 32 := by
          intro e
          have h' : (((s.getD (i : Int).toNat 0).toNat : Nat) : Int) ≠ 32 := hc
          rw [Int.toNat_natCast, hgd, e] at h'
          exact h' rfl
        have hw1 : IntKind.i64.wrap (((pre.length + 1 : Nat) : Int) - 1) = (pre.length : Int) := w64 (by omega) (by omega)
        refine ab 1000 rfl trivial ?_
        have hw2 : IntKind.i64.wrap ((i : Int) + 1) = ((i + 1 : Nat) : Int) := w64 (by omega) (by omega)
        have hcut : cutL (some (i : Int)) (some (IntKind.i64.wrap ((i : Int) + 1))) s = [s[i]] := by
          rw [hw2]
          show (s.take ((i + 1 : Nat) : Int).toNat).drop (i : Int).toNat = _
          rw [Int.toNat_natCast, Int.toNat_natCast, List.take_succ_eq_append_getElem hil, List.drop_left' (by simp; omega)]
        have hld : ((texts (pre ++ [last])).drop (offN 0 (mulN (IntKind.i64.wrap (((pre.length + 1 : Nat) : Int) - 1)).toNat 1)))[0]? = some (.str last) := by
          rw [offN_eq, mulN_eq, hw1, Int.toNat_natCast]
          simp [texts]
        refine S_draw 12 [] [.top, .str last] rfl rfl rfl rfl ⟨rfl, rfl, rfl, rfl, rfl, by rw [hw1]; omega, by rw [hw1]; omega, rfl, hld, rfl, rfl, rfl, rfl, rfl, by omega, by rw [hw2]; omega, by rw [hw2]; omega, rfl, by rw [hcut]; simp; omega, trivial⟩ ?_
        refine ab 1000 rfl trivial ?_
        refine S_index .top rfl rfl rfl ⟨rfl, by rw [hw1]; omega, by rw [hw1]; omega, trivial⟩ ?_
        refine S_store rfl rfl rfl ⟨rfl, rfl, rfl, ?_, trivial⟩ ?_
        · show offN 0 (mulN (IntKind.i64.wrap (((pre.length + 1 : Nat) : Int) - 1)).toNat 1) + 1 ≤ (texts (pre ++ [last])).length
          rw [offN_eq, mulN_eq, hw1, Int.toNat_natCast]; omega
        refine ab 1000 rfl trivial ?_
        refine S_round (i + 1, pre, last ++ [s[i]], u) (by show s.length - (i + 1) < s.length - i; omega) ⟨hil, by omega, by simp; omega, by rw [← h4, hd, glue_cons last hc]⟩ (.cons rfl (.cons rfl (.cons (ai64 rfl (by omega)) (.nil _)))) ?_
        show [(u, some (Box.cells (setRange (texts (pre ++ [last])) (offN 0 (mulN (IntKind.i64.wrap (((pre.length + 1 : Nat) : Int) - 1)).toNat 1)) [.str (last ++ cutL (some (i : Int)) (some (IntKind.i64.wrap ((i : Int) + 1))) s)]) ⟨false, none⟩))] = [(u, some (Box.cells (texts (pre ++ [last ++ [s[i]]])) ⟨false, none⟩))]
        rw [hcut, offN_eq, mulN_eq, hw1, Int.toNat_natCast, Nat.zero_add, Nat.mul_one]
        have := set_at (texts pre) (AV.str (last ++ [s[i]])) (.str last) []
        rw [show (texts pre).length = pre.length by simp [texts]] at this
        show [(u, some (Box.cells (List.set (texts (pre ++ [last])) pre.length (.str (last ++ [s[i]]))) _))] = _
        rw [show texts (pre ++ [last]) = texts pre ++ [.str last] by simp [texts], this]
        simp [texts]
    · have hil : i = s.length := by omega
      rw [hil, List.drop_length] at h4
      refine ab 1000 rfl trivial ?_
      refine S_ret ⟨_, _, rfl, trivial, _, rfl, ?_⟩
      rw [← h4]
      simp only [splitB, glue, List.append_nil]
      exact .ms1 rfl (texts_one _) (by simp [texts]) (texts_any _)
theorem SbCheck_ok {st fl : Bool} (com : List (List UInt8)) (hl : com.length ≤ 1000000000000) : Calc cx 10 [.sl st fl 1 (texts com)] (.tup [.int .i64 (comI com : Nat), .int .i64 (comE com : Nat)]) :=
  pure_intro (fun a w => Tryz.call10 a w) Tryz.func10 rfl Tryz.ntmps10 rfl (.tup (by intro x hx; simp at hx; rcases hx with rfl | rfl; exact .int; exact .int)) fun B => by
    have h := program_ok (st := st) (fl := fl) com hl
    refine pa [.v (proAV com)] rfl ?_ ?_
    · (repeat' with_reducible apply AllP_cons) <;> try exact aC
      · exact ⟨_, h, .cons (.refl (.sl (fun h => by cases h) (texts_any _))) (.nil _)⟩
    exact S_retc (.tup (by intro x hx; simp at hx; rcases hx with rfl | rfl; exact .int; exact .int)) rfl trivial rfl
def begC : List (List UInt8) := [[115, 101, 116, 32, 97, 32, 104, 105], [109, 97, 107, 101, 32, 111, 117, 116, 32, 97]]
def begG : List (List UInt8) := [[103, 111, 116, 111, 32, 53]]
def begF : Fil := ⟨[111, 117, 116], [104, 105], false⟩
theorem beg_box : boxE [] begC 100 = 0 := by kernel_rfl
theorem beg_made : (runT [] begC 100).made = [begF] := by kernel_rfl
theorem beg_code : (runT [] begC 100).code = 0 := by kernel_rfl
theorem beg_left : (runT [] begC 100).left = 98 := by kernel_rfl
theorem beg_goto : comI begG = 0 ∧ comE begG = 1 := ⟨by kernel_rfl, by kernel_rfl⟩
theorem ov_one (f : Fil) : ovT [f] = [f] := by
  have h1 := (sortT_perm (ksP [f])).length_eq
  have h2 : ksP [f] = [f.path] := rfl
  rw [h2] at h1
  unfold ovT
  rw [h2]
  have hp := sortT_perm [f.path]
  rw [List.perm_singleton.1 hp]
  show [lastF [f] f.path] = [f]
  unfold lastF
  simp
theorem sandboxBegun_ok : Calc cx 12 [] (.bool true) :=
  pure_intro (fun a w => Tryz.call12 a w) Tryz.func12 rfl Tryz.ntmps12 rfl .bool fun B => by
    have hR := Run_any (st := true) (fl := true) (st' := true) (fl' := true) [] begC 100 ⟨by simp, by simp, by simp⟩ (by simp [begC]) ⟨by omega, by omega⟩
    have hC := SbCheck_ok (st := true) (fl := true) begG (by simp [begG])
    rw [beg_goto.1, beg_goto.2] at hC
    unfold runAV at hR
    rw [beg_box, if_pos rfl, if_pos rfl, if_pos rfl, show (100 : Int).toNat = 100 from rfl, beg_made, beg_code, beg_left, ov_one] at hR
    refine pa [.v (.tup [.sl true false 3 (fils [begF]), .int .i64 ((0 : Nat) : Int), .int .i64 ((2 : Nat) : Int), .int .i64 ((0 : Nat) : Int)]), .v (.tup [.int .i64 ((0 : Nat) : Int), .int .i64 ((1 : Nat) : Int)]), .b true, .b true, .b true, .b true, .v (filA begF), .b true, .b true] rfl ?_ ?_
    · (repeat' with_reducible apply AllP_cons) <;> try exact aC
      · exact ⟨_, hR, .cons .nils (.cons (.refl (.sl (fun h => by cases h) (texts_any begC))) (.cons (.refl .int) (.nil _)))⟩
      · exact ⟨_, hC, .cons (.refl (.sl (fun h => by cases h) (texts_any begG))) (.nil _)⟩
    exact S_retc .bool rfl trivial rfl
end Go.Proofs.YtgmakmfdjhgjlaaGreatDoor
end
section
set_option linter.unusedVariables false
set_option linter.unusedSimpArgs false
set_option maxRecDepth 20000
set_option maxHeartbeats 4000000
namespace Go.Proofs.YtgmakmfdjhgjlaaGreatDoor
open Go Go.Ab
structure CdOk (m : Mc) : Prop where
  run : m.done = false → m.code = 0
  fuel : m.code = 104 → m.left = 0
theorem CdOk.end_ {m : Mc} {l k : Nat} (h : k = 104 → l = 0) : CdOk (endM k { m with left := l }) := ⟨fun h => (by cases h), h⟩
theorem trip_c (k : Nat) (m : Mc) (hk : k ≠ 104) : CdOk (tripM k m) := by
  unfold tripM
  split
  · exact .end_ fun _ => rfl
  · exact .end_ fun h => absurd h hk
theorem CdOk.set {m : Mc} (h : CdOk m) (hd : m.done = false) (r t : List UInt8) : CdOk (setM r t m) := by
  unfold setM keepM
  split
  · exact trip_c 102 _ (by decide)
  split
  · exact .end_ fun _ => rfl
  · exact ⟨fun _ => h.run hd, fun e => by have e : m.code = 104 := e; rw [h.run hd] at e; cases e⟩
theorem CdOk.make {m : Mc} (h : CdOk m) (hd : m.done = false) (p t : List UInt8) (run : Bool) : CdOk (makeM p t run m) := by
  unfold makeM
  split
  · exact trip_c 103 _ (by decide)
  unfold keepM
  split
  · exact trip_c 102 _ (by decide)
  split
  · exact .end_ fun _ => rfl
  · exact ⟨fun _ => h.run hd, fun e => by have e : m.code = 104 := e; rw [h.run hd] at e; cases e⟩
theorem CdOk.jump {m : Mc} (h : CdOk m) (hd : m.done = false) (b : Bool) (to : Nat) : CdOk (jumpM b to m) := by
  unfold jumpM
  split
  · exact .end_ fun _ => rfl
  split
  · exact ⟨fun _ => h.run hd, fun e => by have e : m.code = 104 := e; rw [h.run hd] at e; cases e⟩
  · exact ⟨fun _ => h.run hd, fun e => by have e : m.code = 104 := e; rw [h.run hd] at e; cases e⟩
theorem CdOk.step {L : Nat} {fs : List Fil} {x : Ln} {m : Mc} (h : CdOk m) (hd : m.done = false) (hx : LnOk L x) : CdOk (stepM fs x m) := by
  cases hx with
  | set => exact h.set hd _ _
  | @read c p =>
    show CdOk (match fs.find? (fun f => f.path == p) with | none => tripM 101 m | some f => setM [c] f.text m)
    split
    · exact trip_c 101 _ (by decide)
    · exact h.set hd _ _
  | list => exact h.set hd _ _
  | join => exact h.set hd _ _
  | cut => exact h.set hd _ _
  | size => exact h.set hd _ _
  | sum => exact h.set hd _ _
  | make => exact h.make hd _ _ _
  | run => exact h.make hd _ _ _
  | same => exact h.jump hd _ _
  | less => exact h.jump hd _ _
  | goto => exact h.jump hd _ _
  | @exit w j hw => exact trip_c j _ (by have := (numT_le hw).1; omega)
end Go.Proofs.YtgmakmfdjhgjlaaGreatDoor
end
section
set_option linter.unusedVariables false
set_option linter.unusedSimpArgs false
set_option maxRecDepth 20000
set_option maxHeartbeats 4000000
namespace Go.Proofs.YtgmakmfdjhgjlaaGreatDoor
open Go Go.Ab
theorem comR {st fl : Bool} (com : List (List UInt8)) {σ : Heap} : Frz false σ (.sl st fl 1 (texts com)) (.sl st fl 1 (texts com)) := .refl (.sl (fun h => by cases h) (texts_any _))
end Go.Proofs.YtgmakmfdjhgjlaaGreatDoor
end
section
set_option linter.unusedVariables false
set_option linter.unusedSimpArgs false
set_option maxRecDepth 20000
namespace Go.Proofs.YtgmakmfdjhgjlaaGreatDoor
open Go Go.Ab
def isDg (c : UInt8) : Bool := 48 ≤ c.toNat && c.toNat ≤ 57
end Go.Proofs.YtgmakmfdjhgjlaaGreatDoor
end
section
set_option linter.unusedVariables false
set_option linter.unusedSimpArgs false
set_option maxRecDepth 20000
namespace Go.Proofs.YtgmakmfdjhgjlaaGreatDoor
open Go Go.Ab
theorem IsDigitByte_ok (c : UInt8) : Calc cx 80 [.int .u8 (c.toNat : Nat)] (.bool (isDg c)) :=
  pure_intro (fun a w => Tryz.call80 a w) Tryz.func80 rfl Tryz.ntmps80 rfl .bool fun B => by
    refine ab 1000 rfl trivial ?_
    refine S_guard rfl rfl rfl rfl (fun h => ?_) (fun h => ?_)
    · have h : 48 ≤ c.toNat := by have : (48 : Int) ≤ (c.toNat : Int) := of_decide_eq_true h; omega
      refine ab 1000 rfl trivial ?_
      refine S_retc .bool rfl trivial ?_
      rw [isDg, decide_eq_true h, Bool.true_and]
      exact congrArg AV.bool (decide_eq_decide.2 (by omega))
    · have h : ¬ 48 ≤ c.toNat := by have : ¬ (48 : Int) ≤ (c.toNat : Int) := of_decide_eq_false h; omega
      refine ab 1000 rfl trivial ?_
      refine S_retc .bool rfl trivial ?_
      rw [isDg, decide_eq_false h, Bool.false_and]; rfl
end Go.Proofs.YtgmakmfdjhgjlaaGreatDoor
end
section
set_option linter.unusedVariables false
set_option linter.unusedSimpArgs false
set_option maxRecDepth 20000
set_option maxHeartbeats 4000000
namespace Go.Proofs.YtgmakmfdjhgjlaaGreatDoor
open Go Go.Ab
theorem IsRegister_ok (s : List UInt8) (hs : s.length ≤ 1000000000) : Calc cx 38 [.str s] (.bool (regB s)) :=
  pure_intro (fun a w => Tryz.call38 a w) Tryz.func38 rfl Tryz.ntmps38 rfl .bool fun B => by
    match s, hs with
    | [], _ =>
      refine pB [.b false, .b false] rfl ?_
      exact S_retc .bool rfl trivial rfl
    | c :: c2 :: r, _ =>
      have e1 : ((((c :: c2 :: r).length : Nat) : Int) == 1) = false := by simp; omega
      refine pB [.b false, .b false] rfl ?_
      exact S_retc .bool rfl trivial rfl
    | [c], _ =>
      rw [regB_c]
      by_cases h1 : 97 ≤ c.toNat
      · rw [decide_eq_true h1]
        by_cases h2 : c.toNat ≤ 104
        · rw [decide_eq_true h2]
          refine pa [.b true, .b true] rfl ?_ ?_
          · (repeat' with_reducible apply AllP_cons) <;> try exact aC
            exact decide_eq_true (show (c.toNat : Int) ≥ 97 by omega)
          refine S_retc .bool rfl trivial ?_
          show AV.bool (decide ((c.toNat : Int) ≤ 104)) = _
          rw [decide_eq_true (by omega)]; rfl
        · rw [decide_eq_false h2]
          refine pa [.b true, .b true] rfl ?_ ?_
          · (repeat' with_reducible apply AllP_cons) <;> try exact aC
            exact decide_eq_true (show (c.toNat : Int) ≥ 97 by omega)
          refine S_retc .bool rfl trivial ?_
          show AV.bool (decide ((c.toNat : Int) ≤ 104)) = _
          rw [decide_eq_false (by omega)]; rfl
      · rw [decide_eq_false h1]
        refine pa [.b true, .b false] rfl ?_ ?_
        · (repeat' with_reducible apply AllP_cons) <;> try exact aC
          exact decide_eq_false (show ¬ (c.toNat : Int) ≥ 97 by omega)
        exact S_retc .bool rfl trivial rfl
theorem isDg_dig (c : UInt8) : isDg c = digB c := by
  rw [Bool.eq_iff_iff, digB_iff]
  unfold isDg
  simp
def numI (s : List UInt8) (most : Nat) : Int := match numT s most with
  | some n => (n : Int)
  | none => -1
theorem numI_no {s : List UInt8} {most : Nat} (h : numB s = false) : numI s most = -1 := by
  unfold numI; rw [numT_eq, if_neg (by rw [h]; simp)]
theorem numI_yes {s : List UInt8} {most : Nat} (h : numB s = true) : numI s most = if valN s ≤ most then (valN s : Int) else -1 := by
  have hv : numV s = valN s := by unfold numV; rw [if_pos h]
  unfold numI
  rw [numT_eq, hv]
  by_cases hm : valN s ≤ most
  · rw [if_pos ⟨h, hm⟩, if_pos hm]
  · rw [if_neg (fun x => hm x.2), if_neg hm]
theorem numI_some (s : List UInt8) (most : Nat) : decide (numI s most ≥ 0) = (numT s most).isSome := by
  unfold numI
  cases numT s most with
  | none => rfl
  | some n => exact decide_eq_true (by show (n : Int) ≥ 0; omega)
theorem NumberOf_ok (s : List UInt8) (most : Nat) (hs : s.length ≤ 1000000000) (hm : most ≤ 1000000000) : Calc cx 40 [.str s, .int .i64 (most : Nat)] (.int .i64 (numI s most)) :=
  pure_intro (fun a w => Tryz.call40 a w) Tryz.func40 rfl Tryz.ntmps40 rfl .int fun B => by
    refine pB [] rfl ?_
    refine S_while (α := Nat) (fun i => [(0, .str s), (1, .int .i64 (most : Nat)), (5, .int .i64 (valN (s.take i) : Nat)), (6, .int .i64 (i : Nat))]) (fun _ => []) (fun i => i ≤ s.length ∧ i ≤ 6 ∧ (s.take i).all digB = true) (fun i => s.length - i) 0
      ⟨Nat.zero_le _, Nat.zero_le _, rfl⟩ (.cons rfl (.cons rfl (.cons rfl (.cons rfl (.nil _))))) rfl ?_
    rintro i ⟨hi, hi6, hall⟩
    have hi : i ≤ s.length := hi
    have hvi : valN (s.take i) < 1000000 := valN_len hall (by rw [List.length_take]; omega)
    by_cases hlt : i < s.length
    · have e1 : decide ((i : Int) < (s.length : Int)) = true := decide_eq_true (by omega)
      have hgc : s.getD (i : Int).toNat 0 = s[i] := by rw [Int.toNat_natCast]; simp [List.getD, List.getElem?_eq_getElem hlt]
      have hD := IsDigitByte_ok s[i]
      rw [isDg_dig] at hD
      have hD' : ∀ σ, ∃ args', Calc cx 80 args' (.bool (digB s[i])) ∧ Frzs σ [.int .u8 (((s.getD (i : Int).toNat 0).toNat : Nat) : Int)] args' := fun σ => by
        rw [hgc]; exact ⟨_, hD, .cons (.refl .int) (.nil _)⟩
      cases hd : digB s[i] with
      | false =>
        have hn : numB s = false := by
          cases h : numB s with
          | false => rfl
          | true =>
            have := List.all_eq_true.1 ((numB_iff s).1 h).1 _ (List.getElem_mem hlt)
            rw [hd] at this; cases this
        rw [numI_no hn]
        rw [hd] at hD'
        refine pa [.b true, .v (.bool false), .b true, .b true] rfl ?_ ?_
        · (repeat' with_reducible apply AllP_cons) <;> try exact aC
          · exact hD' _
        exact S_retc .int rfl trivial rfl
      | true =>
        rw [hd] at hD'
        by_cases h5 : i > 5
        · have hn : numB s = false := by
            cases h : numB s with
            | false => rfl
            | true => have := ((numB_iff s).1 h).2.2.1; omega
          rw [numI_no hn]
          have e2 : decide ((i : Int) > 5) = true := decide_eq_true (by omega)
          refine pa [.b true, .v (.bool true), .b false, .b true] rfl ?_ ?_
          · (repeat' with_reducible apply AllP_cons) <;> try exact aC
            · exact hD' _
          exact S_retc .int rfl trivial rfl
        · have e2 : decide ((i : Int) > 5) = false := decide_eq_false (by omega)
          have hci := (digB_iff s[i]).1 hd
          have hv : valN (s.take (i + 1)) = 10 * valN (s.take i) + (s[i].toNat - 48) := by rw [List.take_succ_eq_append_getElem hlt, valN_snoc]
          refine pa [.b true, .v (.bool true), .b false, .b false] rfl ?_ ?_
          · (repeat' with_reducible apply AllP_cons) <;> try exact aC
            · exact hD' _
          refine S_round (i + 1) (by show s.length - (i + 1) < s.length - i; omega) ⟨hlt, by omega, by rw [List.take_succ_eq_append_getElem hlt, List.all_append, hall]; simp [hd]⟩ (.cons rfl (.cons rfl (.cons ?_ (.cons (ai64 rfl (by omega)) (.nil _))))) rfl
          show AV.int .i64 (IntKind.i64.wrap (IntKind.i64.wrap (IntKind.i64.wrap (10 * ((valN (s.take i) : Nat) : Int)) + IntKind.i64.wrap (((s.getD (i : Int).toNat 0).toNat : Nat) : Int)) - 48)) = .int .i64 ((valN (s.take (i + 1)) : Nat) : Int)
          rw [hgc, hv, IntWalk.i64_in (10 * ((valN (s.take i) : Nat) : Int)) ⟨by omega, by omega⟩, IntWalk.i64_in ((s[i].toNat : Nat) : Int) ⟨by omega, by omega⟩, IntWalk.i64_in (10 * ((valN (s.take i) : Nat) : Int) + ((s[i].toNat : Nat) : Int)) ⟨by omega, by omega⟩, IntWalk.i64_in _ ⟨by omega, by omega⟩]
          congr 1; omega
    have hil : i = s.length := by omega
    subst hil
    rw [List.take_length] at hall hvi ⊢
    have e1 : decide ((s.length : Int) < (s.length : Int)) = false := decide_eq_false (by omega)
    match s, hi, hi6, hall, hvi, e1, hs with
    | [], _, _, _, _, e1, _ =>
      rw [numI_no rfl]
      refine pB [.b false, .b true, .b true, .b true] rfl ?_
      exact S_retc .int rfl trivial rfl
    | c :: r, _, hi6, hall, hvi, e1, _ =>
      have hi6 : (c :: r).length ≤ 6 := hi6
      have e2 : ((c :: r) == ([] : List UInt8)) = false := by simp
      by_cases hc : c = 48
      · subst hc
        by_cases hr : 1 < ((48 : UInt8) :: r).length
        · have hn : numB ((48 : UInt8) :: r) = false := by
            cases h : numB ((48 : UInt8) :: r) with
            | false => rfl
            | true => exact absurd ⟨hr, rfl⟩ ((numB_iff _).1 h).2.2.2
          rw [numI_no hn]
          have e3 : decide (((((48 : UInt8) :: r).length : Nat) : Int) > 1) = true := decide_eq_true (by omega)
          refine pB [.b false, .b false, .b true, .b true, .b true] rfl ?_
          exact S_retc .int rfl trivial rfl
        · have hn : numB ((48 : UInt8) :: r) = true := (numB_iff _).2 ⟨hall, by simp, hi6, fun h => hr h.1⟩
          rw [numI_yes hn]
          have e3 : decide (((((48 : UInt8) :: r).length : Nat) : Int) > 1) = false := decide_eq_false (by omega)
          generalize valN ((48 : UInt8) :: r) = v at *
          by_cases hv : v ≤ most
          · rw [if_pos hv]
            have e4 : decide ((v : Int) > (most : Int)) = false := decide_eq_false (by omega)
            refine pB [.b false, .b false, .b true, .b false, .b false] rfl ?_
            exact S_retc .int rfl trivial rfl
          · rw [if_neg hv]
            have e4 : decide ((v : Int) > (most : Int)) = true := decide_eq_true (by omega)
            refine pB [.b false, .b false, .b true, .b false, .b true] rfl ?_
            exact S_retc .int rfl trivial rfl
      · have hn : numB (c :: r) = true := (numB_iff _).2 ⟨hall, by simp, hi6, fun h => hc (by have := h.2; simpa using this)⟩
        rw [numI_yes hn]
        have e3 : ((c.toNat : Int) == 48) = false := by
          have : ¬ c.toNat = 48 := fun e => hc (UInt8.toNat_inj.1 e)
          simpa using (show ¬ (c.toNat : Int) = 48 by omega)
        generalize valN (c :: r) = v at *
        by_cases hv : v ≤ most
        · rw [if_pos hv]
          have e4 : decide ((v : Int) > (most : Int)) = false := decide_eq_false (by omega)
          refine pB [.b false, .b false, .b false, .b false, .b false] rfl ?_
          exact S_retc .int rfl trivial rfl
        · rw [if_neg hv]
          have e4 : decide ((v : Int) > (most : Int)) = true := decide_eq_true (by omega)
          refine pB [.b false, .b false, .b false, .b false, .b true] rfl ?_
          exact S_retc .int rfl trivial rfl
theorem reg_at {tg : Tag} (ws : List (List UInt8)) (i : Nat) (w : List UInt8) (hi : i < ws.length) (hw : ws[i] = w) (hl : w.length ≤ 1000000000) : CallOk cx 37 ([] ++ [.int .i64 (i : Int)] ++ [.ptr 0 0 0]) [(0, some (.cells [.sl true false 1 (texts ws)] tg))]
    (fun o σ => o = .ret (.bool (regB w)) ∧ σ = [(0, some (.cells [.sl true false 1 (texts ws)] tg))]) :=
  callOk_intro (fun a w => Tryz.call37 a w) Tryz.func37 rfl Tryz.ntmps37 rfl fun B => by
    subst hw
    have hR := IsRegister_ok ws[i] hl
    have hwl : (texts ws).length = ws.length := by simp [texts]
    have g1 : (texts ws)[(i : Int).toNat]? = some (.str ws[i]) := texts_get hi
    have e1 : decide ((i : Int) < (((texts ws).length : Nat) : Int)) = true := decide_eq_true (by omega)
    refine pa [.v (.str ws[i]), .v (.bool (regB ws[i]))] rfl ?_ ?_
    · (repeat' with_reducible apply AllP_cons) <;> try exact aC
      · exact ⟨_, hR, .cons (.refl .str) (.nil _)⟩
    exact S_ret ⟨_, _, rfl, trivial, rfl, rfl⟩
end Go.Proofs.YtgmakmfdjhgjlaaGreatDoor
end
section
set_option linter.unusedVariables false
set_option linter.unusedSimpArgs false
set_option maxRecDepth 20000
set_option maxHeartbeats 4000000
namespace Go.Proofs.YtgmakmfdjhgjlaaGreatDoor
open Go Go.Ab
theorem split_le (c : UInt8) : ∀ (s : List UInt8), ∀ x ∈ splitB c s, x.length ≤ s.length
  | [], x, hx => by
    have hx : x ∈ [[]] := hx
    rw [List.mem_singleton.1 hx]; exact Nat.le_refl _
  | a :: s, x, hx => by
    have ih := split_le c s
    rw [splitB] at hx
    split at hx
    · rcases List.mem_cons.1 hx with rfl | h
      · exact Nat.zero_le _
      · have := ih x h; simp; omega
    · cases hq : splitB c s with
      | nil => exact absurd hq (splitB_ne _ _)
      | cons h t =>
        rw [hq] at hx ih
        have hx : x ∈ (a :: h) :: t := hx
        rcases List.mem_cons.1 hx with rfl | hm
        · have := ih h (List.mem_cons_self ..); simp; omega
        · have := ih x (List.mem_cons_of_mem _ hm); simp; omega
def okW (c : UInt8) (a : List UInt8) (L : Nat) : Bool := (wordT c a L).isSome
def chkW (L : Nat) : List UInt8 → List (List UInt8) → Bool
  | [], [] => true
  | c :: f, a :: r => okW c a L && chkW L f r
  | _, _ => false
theorem words_chk (L : Nat) : ∀ (f : List UInt8) (r : List (List UInt8)), (wordsT L f r).isSome = chkW L f r
  | [], [] => rfl
  | [], _ :: _ => rfl
  | _ :: _, [] => rfl
  | c :: f, a :: r => by
    rw [wordsT, chkW, ← words_chk L f r, okW]
    cases wordT c a L with
    | none => rfl
    | some n => cases wordsT L f r <;> rfl
theorem chk_len {L : Nat} : ∀ {f : List UInt8} {r : List (List UInt8)}, r.length ≠ f.length → chkW L f r = false
  | [], [], h => absurd rfl h
  | [], _ :: _, _ => rfl
  | _ :: _, [], _ => rfl
  | c :: f, a :: r, h => by
    rw [chkW, chk_len (f := f) (r := r) (fun e => h (by simp [e]))]; simp
theorem right_chk {L : Nat} {w f : List UInt8} {r : List (List UInt8)} (h : formT' w = some f) (h1 : f ≠ [114, 116]) : rightW L w r = chkW L f r := by
  unfold rightW; rw [h]
  show (if f = [114, 116] then _ else _) = _
  rw [if_neg h1, words_chk]
theorem okW_r (a : List UInt8) (L : Nat) : okW 114 a L = regB a := by
  unfold okW wordT; rw [if_pos rfl]; cases regB a <;> rfl
theorem okW_p (a : List UInt8) (L : Nat) : okW 112 a L = isPathB a := by
  unfold okW wordT; rw [if_neg (by decide), if_pos rfl]; cases isPathB a <;> rfl
theorem okW_d (a : List UInt8) (L : Nat) : okW 100 a L = (a == [46] || isPathB a) := by
  unfold okW wordT; rw [if_neg (by decide), if_neg (by decide), if_pos rfl]; cases (a == [46] || isPathB a) <;> rfl
theorem okW_n (a : List UInt8) (L : Nat) : okW 110 a L = (numT a 999999).isSome := by
  unfold okW wordT; rw [if_neg (by decide), if_neg (by decide), if_neg (by decide), if_pos rfl]
theorem okW_l (a : List UInt8) (L : Nat) : okW 108 a L = (numT a L).isSome := by
  unfold okW wordT; rw [if_neg (by decide), if_neg (by decide), if_neg (by decide), if_neg (by decide), if_pos rfl]
theorem okW_e (a : List UInt8) (L : Nat) : okW 101 a L = (numT a 99).isSome := by
  unfold okW wordT; rw [if_neg (by decide), if_neg (by decide), if_neg (by decide), if_neg (by decide), if_neg (by decide), if_pos rfl]
theorem RightLine_ok (L : Nat) (s : List UInt8) (hs : s.length ≤ 1000000) (hL : L ≤ 1000000) : Calc cx 24 [.str s, .int .i64 (L : Nat)] (.bool (lnOf L s).isSome) :=
  pure_intro (fun a w => Tryz.call24 a w) Tryz.func24 rfl Tryz.ntmps24 rfl .bool fun B => by
    rw [right_ln]
    have hW := WordsOf_ok s (by omega)
    have hle := split_le 32 s
    have hcl := split_len 32 s
    obtain ⟨r, hr⟩ : ∃ r, splitB 32 s = fst32 s :: r := ⟨_, split_fst32 s⟩
    have e0 : rightW L (fst32 s) (splitB 32 s).tail = rightW L (fst32 s) r := by rw [hr]; rfl
    rw [e0]
    rw [hr] at hW hle hcl
    clear e0 hr
    generalize fst32 s = w at *
    have hrl : r.length ≤ 1000000 := by have : s.count 32 ≤ s.length := List.count_le_length; simp at hcl; omega
    have htl : (texts (w :: r)).length = r.length + 1 := by simp [texts]
    have hn : IntKind.i64.wrap ((((texts (w :: r)).length : Nat) : Int) - 1) = (r.length : Int) := by rw [htl]; exact w64 (by omega) (by omega)
    have hlr : ∀ x ∈ r, x.length ≤ 1000000 := fun x hx => by have := hle x (List.mem_cons_of_mem _ hx); omega
    clear hle
    have kR : ∀ (q : List (List UInt8)) (i : Nat) (x : List UInt8) (h : i < (w :: q).length) (hx : (w :: q)[i] = x) (hm : x ∈ r) (tg : Tag), CallOk cx 37 ([] ++ [.int .i64 (i : Int)] ++ [.ptr 0 0 0]) [(0, some (.cells [.sl true false 1 (texts (w :: q))] tg))]
      (fun o σ => o = .ret (.bool (regB x)) ∧ σ = [(0, some (.cells [.sl true false 1 (texts (w :: q))] tg))]) := fun q i x h hx hm tg => reg_at (w :: q) i x h hx (by have := hlr x hm; omega)
    by_cases hkSet : w = kSet
    · subst hkSet
      by_cases hk : 2 ≤ r.length
      case neg =>
        have e1 : decide (IntKind.i64.wrap ((((texts (kSet :: r)).length : Nat) : Int) - 1) ≥ 2) = false := by rw [hn]; exact decide_eq_false (by omega)
        have ev : rightW L kSet r = false := by match r, hk with | [], _ => rfl | [_], _ => rfl | _ :: _ :: _, h => exact absurd (by simp) h
        refine pa [.v (.sl true false 1 (texts (kSet :: r))), .v (.str kSet), .b true, .b false] rfl ?_ ?_
        · (repeat' with_reducible apply AllP_cons) <;> try exact aC
          · exact ⟨_, hW, .cons (.refl .str) (.nil _)⟩
        exact S_retc .bool rfl trivial (by show AV.bool false = _; rw [ev])
      match r, hk, hn, htl, hW, hlr, kR with
      | a :: b :: q, _, hn, htl, hW, hlr, kR =>
        have e1 : decide (IntKind.i64.wrap ((((texts (kSet :: a :: b :: q)).length : Nat) : Int) - 1) ≥ 2) = true := by rw [hn]; exact decide_eq_true (by simp; omega)
        have q1 := fun tg => kR (a :: b :: q) 1 a (by simp) rfl (by simp) tg
        refine pa [.v (.sl true false 1 (texts (kSet :: a :: b :: q))), .v (.str kSet), .b true, .b true, .k (.bool (regB a))] rfl ?_ ?_
        · (repeat' with_reducible apply AllP_cons) <;> try exact aC
          all_goals first | exact ⟨_, hW, .cons (.refl .str) (.nil _)⟩ | exact q1 _ | skip
        exact S_retc .bool rfl trivial rfl
    by_cases hkRead : w = kRead
    · subst hkRead
      have ev : ∀ q, rightW L kRead q = chkW L [114, 112] q := fun q => right_chk rfl (by decide)
      by_cases hk : r.length = 2
      case neg =>
        have e1 : (IntKind.i64.wrap ((((texts (kRead :: r)).length : Nat) : Int) - 1) == 2) = false := by rw [hn]; simpa using fun h => hk (by omega)
        have ev : rightW L kRead r = false := by rw [ev]; exact chk_len hk
        refine pa [.v (.sl true false 1 (texts (kRead :: r))), .v (.str kRead), .b false, .b true, .b false, .b false] rfl ?_ ?_
        · (repeat' with_reducible apply AllP_cons) <;> try exact aC
          · exact ⟨_, hW, .cons (.refl .str) (.nil _)⟩
        exact S_retc .bool rfl trivial (by show AV.bool false = _; rw [ev])
      match r, hk, hn, htl, hW, hlr, kR with
      | [a, b], _, hn, htl, hW, hlr, kR =>
        have e1 : (IntKind.i64.wrap ((((texts (kRead :: [a, b])).length : Nat) : Int) - 1) == 2) = true := by rw [hn]; rfl
        have ev := ev [a, b]
        have x0 := fun (x : List UInt8) (hx : x ∈ [a, b]) => hlr x hx
        have q0 := fun tg => kR [a, b] 1 a (by simp) rfl (by simp) tg
        have q1 := IsPath_ok b (by have := x0 b (by simp); omega)
        cases hv0 : regB a with
        | false =>
          simp only [hv0] at q0
          refine pa [.v (.sl true false 1 (texts (kRead :: [a, b]))), .v (.str kRead), .b false, .b true, .b true, .k (.bool false), .b false] rfl ?_ ?_
          · (repeat' with_reducible apply AllP_cons) <;> try exact aC
            all_goals first | exact ⟨_, hW, .cons (.refl .str) (.nil _)⟩ | exact q0 _ | exact ⟨_, q1, .cons (.refl .str) (.nil _)⟩ | skip
          exact S_retc .bool rfl trivial (by show AV.bool false = _; rw [ev]; simp [chkW, okW_r, okW_p, okW_d, okW_n, okW_l, okW_e, hv0])
        | true =>
          simp only [hv0] at q0
          refine pa [.v (.sl true false 1 (texts (kRead :: [a, b]))), .v (.str kRead), .b false, .b true, .b true, .k (.bool true), .b true, .v (.str b), .v (.bool (isPathB b))] rfl ?_ ?_
          · (repeat' with_reducible apply AllP_cons) <;> try exact aC
            all_goals first | exact ⟨_, hW, .cons (.refl .str) (.nil _)⟩ | exact q0 _ | exact ⟨_, q1, .cons (.refl .str) (.nil _)⟩ | skip
          exact S_retc .bool rfl trivial (by show AV.bool (isPathB b) = _; rw [ev]; simp [chkW, okW_r, okW_p, okW_d, okW_n, okW_l, okW_e, hv0])
    by_cases hkList : w = kList
    · subst hkList
      have ev : ∀ q, rightW L kList q = chkW L [114, 100] q := fun q => right_chk rfl (by decide)
      by_cases hk : r.length = 2
      case neg =>
        have e1 : (IntKind.i64.wrap ((((texts (kList :: r)).length : Nat) : Int) - 1) == 2) = false := by rw [hn]; simpa using fun h => hk (by omega)
        have ev : rightW L kList r = false := by rw [ev]; exact chk_len hk
        refine pa [.v (.sl true false 1 (texts (kList :: r))), .v (.str kList), .b false, .b false, .b true, .b false, .b false] rfl ?_ ?_
        · (repeat' with_reducible apply AllP_cons) <;> try exact aC
          · exact ⟨_, hW, .cons (.refl .str) (.nil _)⟩
        exact S_retc .bool rfl trivial (by show AV.bool false = _; rw [ev])
      match r, hk, hn, htl, hW, hlr, kR with
      | [a, b], _, hn, htl, hW, hlr, kR =>
        have e1 : (IntKind.i64.wrap ((((texts (kList :: [a, b])).length : Nat) : Int) - 1) == 2) = true := by rw [hn]; rfl
        have ev := ev [a, b]
        have x0 := fun (x : List UInt8) (hx : x ∈ [a, b]) => hlr x hx
        have q0 := fun tg => kR [a, b] 1 a (by simp) rfl (by simp) tg
        have q1 := IsPath_ok b (by have := x0 b (by simp); omega)
        cases hv0 : regB a with
        | false =>
          simp only [hv0] at q0
          refine pa [.v (.sl true false 1 (texts (kList :: [a, b]))), .v (.str kList), .b false, .b false, .b true, .b true, .k (.bool false), .b false] rfl ?_ ?_
          · (repeat' with_reducible apply AllP_cons) <;> try exact aC
            all_goals first | exact ⟨_, hW, .cons (.refl .str) (.nil _)⟩ | exact q0 _ | exact ⟨_, q1, .cons (.refl .str) (.nil _)⟩ | skip
          exact S_retc .bool rfl trivial (by show AV.bool false = _; rw [ev]; simp [chkW, okW_r, okW_p, okW_d, okW_n, okW_l, okW_e, hv0])
        | true =>
          simp only [hv0] at q0
          by_cases hdot : b = [46]
          · have hd1 : (b == [46]) = true := by simpa using hdot
            refine pa [.v (.sl true false 1 (texts (kList :: [a, b]))), .v (.str kList), .b false, .b false, .b true, .b true, .k (.bool true), .b true, .v (.str b), .b true] rfl ?_ ?_
            · (repeat' with_reducible apply AllP_cons) <;> try exact aC
              all_goals first | exact ⟨_, hW, .cons (.refl .str) (.nil _)⟩ | exact q0 _ | exact ⟨_, q1, .cons (.refl .str) (.nil _)⟩ | skip
            exact S_retc .bool rfl trivial (by show AV.bool true = _; rw [ev]; simp [chkW, okW_r, okW_p, okW_d, okW_n, okW_l, okW_e, hv0, hdot])
          · have hd0 : (b == [46]) = false := by simpa using hdot
            refine pa [.v (.sl true false 1 (texts (kList :: [a, b]))), .v (.str kList), .b false, .b false, .b true, .b true, .k (.bool true), .b true, .v (.str b), .b false, .v (.str b), .v (.bool (isPathB b))] rfl ?_ ?_
            · (repeat' with_reducible apply AllP_cons) <;> try exact aC
              all_goals first | exact ⟨_, hW, .cons (.refl .str) (.nil _)⟩ | exact q0 _ | exact ⟨_, q1, .cons (.refl .str) (.nil _)⟩ | skip
            exact S_retc .bool rfl trivial (by show AV.bool (isPathB b) = _; rw [ev]; simp [chkW, okW_r, okW_p, okW_d, okW_n, okW_l, okW_e, hv0, hdot])
    by_cases hkJoin : w = kJoin
    · subst hkJoin
      have ev : ∀ q, rightW L kJoin q = chkW L [114, 114] q := fun q => right_chk rfl (by decide)
      by_cases hk : r.length = 2
      case neg =>
        have e1 : (IntKind.i64.wrap ((((texts (kJoin :: r)).length : Nat) : Int) - 1) == 2) = false := by rw [hn]; simpa using fun h => hk (by omega)
        have ev : rightW L kJoin r = false := by rw [ev]; exact chk_len hk
        refine pa [.v (.sl true false 1 (texts (kJoin :: r))), .v (.str kJoin), .b false, .b false, .b false, .b true, .b true, .b false, .b false] rfl ?_ ?_
        · (repeat' with_reducible apply AllP_cons) <;> try exact aC
          · exact ⟨_, hW, .cons (.refl .str) (.nil _)⟩
        exact S_retc .bool rfl trivial (by show AV.bool false = _; rw [ev])
      match r, hk, hn, htl, hW, hlr, kR with
      | [a, b], _, hn, htl, hW, hlr, kR =>
        have e1 : (IntKind.i64.wrap ((((texts (kJoin :: [a, b])).length : Nat) : Int) - 1) == 2) = true := by rw [hn]; rfl
        have ev := ev [a, b]
        have x0 := fun (x : List UInt8) (hx : x ∈ [a, b]) => hlr x hx
        have q0 := fun tg => kR [a, b] 1 a (by simp) rfl (by simp) tg
        have q1 := fun tg => kR [a, b] 2 b (by simp) rfl (by simp) tg
        cases hv0 : regB a with
        | false =>
          simp only [hv0] at q0
          refine pa [.v (.sl true false 1 (texts (kJoin :: [a, b]))), .v (.str kJoin), .b false, .b false, .b false, .b true, .b true, .b true, .k (.bool false), .b false] rfl ?_ ?_
          · (repeat' with_reducible apply AllP_cons) <;> try exact aC
            all_goals first | exact ⟨_, hW, .cons (.refl .str) (.nil _)⟩ | exact q0 _ | exact q1 _ | skip
          exact S_retc .bool rfl trivial (by show AV.bool false = _; rw [ev]; simp [chkW, okW_r, okW_p, okW_d, okW_n, okW_l, okW_e, hv0])
        | true =>
          simp only [hv0] at q0
          refine pa [.v (.sl true false 1 (texts (kJoin :: [a, b]))), .v (.str kJoin), .b false, .b false, .b false, .b true, .b true, .b true, .k (.bool true), .b true, .k (.bool (regB b))] rfl ?_ ?_
          · (repeat' with_reducible apply AllP_cons) <;> try exact aC
            all_goals first | exact ⟨_, hW, .cons (.refl .str) (.nil _)⟩ | exact q0 _ | exact q1 _ | skip
          exact S_retc .bool rfl trivial (by show AV.bool (regB b) = _; rw [ev]; simp [chkW, okW_r, okW_p, okW_d, okW_n, okW_l, okW_e, hv0])
    by_cases hkSize : w = kSize
    · subst hkSize
      have ev : ∀ q, rightW L kSize q = chkW L [114, 114] q := fun q => right_chk rfl (by decide)
      by_cases hk : r.length = 2
      case neg =>
        have e1 : (IntKind.i64.wrap ((((texts (kSize :: r)).length : Nat) : Int) - 1) == 2) = false := by rw [hn]; simpa using fun h => hk (by omega)
        have ev : rightW L kSize r = false := by rw [ev]; exact chk_len hk
        refine pa [.v (.sl true false 1 (texts (kSize :: r))), .v (.str kSize), .b false, .b false, .b false, .b false, .b true, .b false, .b false] rfl ?_ ?_
        · (repeat' with_reducible apply AllP_cons) <;> try exact aC
          · exact ⟨_, hW, .cons (.refl .str) (.nil _)⟩
        exact S_retc .bool rfl trivial (by show AV.bool false = _; rw [ev])
      match r, hk, hn, htl, hW, hlr, kR with
      | [a, b], _, hn, htl, hW, hlr, kR =>
        have e1 : (IntKind.i64.wrap ((((texts (kSize :: [a, b])).length : Nat) : Int) - 1) == 2) = true := by rw [hn]; rfl
        have ev := ev [a, b]
        have x0 := fun (x : List UInt8) (hx : x ∈ [a, b]) => hlr x hx
        have q0 := fun tg => kR [a, b] 1 a (by simp) rfl (by simp) tg
        have q1 := fun tg => kR [a, b] 2 b (by simp) rfl (by simp) tg
        cases hv0 : regB a with
        | false =>
          simp only [hv0] at q0
          refine pa [.v (.sl true false 1 (texts (kSize :: [a, b]))), .v (.str kSize), .b false, .b false, .b false, .b false, .b true, .b true, .k (.bool false), .b false] rfl ?_ ?_
          · (repeat' with_reducible apply AllP_cons) <;> try exact aC
            all_goals first | exact ⟨_, hW, .cons (.refl .str) (.nil _)⟩ | exact q0 _ | exact q1 _ | skip
          exact S_retc .bool rfl trivial (by show AV.bool false = _; rw [ev]; simp [chkW, okW_r, okW_p, okW_d, okW_n, okW_l, okW_e, hv0])
        | true =>
          simp only [hv0] at q0
          refine pa [.v (.sl true false 1 (texts (kSize :: [a, b]))), .v (.str kSize), .b false, .b false, .b false, .b false, .b true, .b true, .k (.bool true), .b true, .k (.bool (regB b))] rfl ?_ ?_
          · (repeat' with_reducible apply AllP_cons) <;> try exact aC
            all_goals first | exact ⟨_, hW, .cons (.refl .str) (.nil _)⟩ | exact q0 _ | exact q1 _ | skip
          exact S_retc .bool rfl trivial (by show AV.bool (regB b) = _; rw [ev]; simp [chkW, okW_r, okW_p, okW_d, okW_n, okW_l, okW_e, hv0])
    by_cases hkCut : w = kCut
    · subst hkCut
      have ev : ∀ q, rightW L kCut q = chkW L [114, 110, 110] q := fun q => right_chk rfl (by decide)
      by_cases hk : r.length = 3
      case neg =>
        have e1 : (IntKind.i64.wrap ((((texts (kCut :: r)).length : Nat) : Int) - 1) == 3) = false := by rw [hn]; simpa using fun h => hk (by omega)
        have ev : rightW L kCut r = false := by rw [ev]; exact chk_len hk
        refine pa [.v (.sl true false 1 (texts (kCut :: r))), .v (.str kCut), .b false, .b false, .b false, .b false, .b false, .b true, .b false, .b false, .b false] rfl ?_ ?_
        · (repeat' with_reducible apply AllP_cons) <;> try exact aC
          · exact ⟨_, hW, .cons (.refl .str) (.nil _)⟩
        exact S_retc .bool rfl trivial (by show AV.bool false = _; rw [ev])
      match r, hk, hn, htl, hW, hlr, kR with
      | [a, b, c], _, hn, htl, hW, hlr, kR =>
        have e1 : (IntKind.i64.wrap ((((texts (kCut :: [a, b, c])).length : Nat) : Int) - 1) == 3) = true := by rw [hn]; rfl
        have ev := ev [a, b, c]
        have x0 := fun (x : List UInt8) (hx : x ∈ [a, b, c]) => hlr x hx
        have q0 := fun tg => kR [a, b, c] 1 a (by simp) rfl (by simp) tg
        have q1 := NumberOf_ok b 999999 (by have := x0 b (by simp); omega) (by omega)
        have s1 := numI_some b 999999
        have q2 := NumberOf_ok c 999999 (by have := x0 c (by simp); omega) (by omega)
        have s2 := numI_some c 999999
        cases hv0 : regB a with
        | false =>
          simp only [hv0] at q0
          refine pa [.v (.sl true false 1 (texts (kCut :: [a, b, c]))), .v (.str kCut), .b false, .b false, .b false, .b false, .b false, .b true, .b true, .k (.bool false), .b false, .b false] rfl ?_ ?_
          · (repeat' with_reducible apply AllP_cons) <;> try exact aC
            all_goals first | exact ⟨_, hW, .cons (.refl .str) (.nil _)⟩ | exact q0 _ | exact ⟨_, q1, .cons (.refl .str) (.cons (.refl .int) (.nil _))⟩ | exact ⟨_, q2, .cons (.refl .str) (.cons (.refl .int) (.nil _))⟩ | skip
          exact S_retc .bool rfl trivial (by show AV.bool false = _; rw [ev]; simp [chkW, okW_r, okW_p, okW_d, okW_n, okW_l, okW_e, hv0])
        | true =>
          simp only [hv0] at q0
          cases hv1 : (numT b 999999).isSome with
          | false =>
            rw [hv1] at s1
            refine pa [.v (.sl true false 1 (texts (kCut :: [a, b, c]))), .v (.str kCut), .b false, .b false, .b false, .b false, .b false, .b true, .b true, .k (.bool true), .b true, .v (.str b), .v (.int .i64 (numI b 999999)), .b false] rfl ?_ ?_
            · (repeat' with_reducible apply AllP_cons) <;> try exact aC
              all_goals first | exact ⟨_, hW, .cons (.refl .str) (.nil _)⟩ | exact q0 _ | exact ⟨_, q1, .cons (.refl .str) (.cons (.refl .int) (.nil _))⟩ | exact ⟨_, q2, .cons (.refl .str) (.cons (.refl .int) (.nil _))⟩ | skip
            exact S_retc .bool rfl trivial (by show AV.bool false = _; rw [ev]; simp [chkW, okW_r, okW_p, okW_d, okW_n, okW_l, okW_e, hv0, hv1])
          | true =>
            rw [hv1] at s1
            refine pa [.v (.sl true false 1 (texts (kCut :: [a, b, c]))), .v (.str kCut), .b false, .b false, .b false, .b false, .b false, .b true, .b true, .k (.bool true), .b true, .v (.str b), .v (.int .i64 (numI b 999999)), .b true, .v (.str c), .v (.int .i64 (numI c 999999))] rfl ?_ ?_
            · (repeat' with_reducible apply AllP_cons) <;> try exact aC
              all_goals first | exact ⟨_, hW, .cons (.refl .str) (.nil _)⟩ | exact q0 _ | exact ⟨_, q1, .cons (.refl .str) (.cons (.refl .int) (.nil _))⟩ | exact ⟨_, q2, .cons (.refl .str) (.cons (.refl .int) (.nil _))⟩ | skip
            exact S_retc .bool rfl trivial (by show AV.bool (decide (numI c 999999 ≥ 0)) = _; rw [s2, ev]; simp [chkW, okW_r, okW_p, okW_d, okW_n, okW_l, okW_e, hv0, hv1])
    by_cases hkSum : w = kSum
    · subst hkSum
      have ev : ∀ q, rightW L kSum q = chkW L [114] q := fun q => right_chk rfl (by decide)
      by_cases hk : r.length = 1
      case neg =>
        have e1 : (IntKind.i64.wrap ((((texts (kSum :: r)).length : Nat) : Int) - 1) == 1) = false := by rw [hn]; simpa using fun h => hk (by omega)
        have ev : rightW L kSum r = false := by rw [ev]; exact chk_len hk
        refine pa [.v (.sl true false 1 (texts (kSum :: r))), .v (.str kSum), .b false, .b false, .b false, .b false, .b false, .b false, .b true, .b false] rfl ?_ ?_
        · (repeat' with_reducible apply AllP_cons) <;> try exact aC
          · exact ⟨_, hW, .cons (.refl .str) (.nil _)⟩
        exact S_retc .bool rfl trivial (by show AV.bool false = _; rw [ev])
      match r, hk, hn, htl, hW, hlr, kR with
      | [a], _, hn, htl, hW, hlr, kR =>
        have e1 : (IntKind.i64.wrap ((((texts (kSum :: [a])).length : Nat) : Int) - 1) == 1) = true := by rw [hn]; rfl
        have ev := ev [a]
        have x0 := fun (x : List UInt8) (hx : x ∈ [a]) => hlr x hx
        have q0 := fun tg => kR [a] 1 a (by simp) rfl (by simp) tg
        refine pa [.v (.sl true false 1 (texts (kSum :: [a]))), .v (.str kSum), .b false, .b false, .b false, .b false, .b false, .b false, .b true, .b true, .k (.bool (regB a))] rfl ?_ ?_
        · (repeat' with_reducible apply AllP_cons) <;> try exact aC
          all_goals first | exact ⟨_, hW, .cons (.refl .str) (.nil _)⟩ | exact q0 _ | skip
        exact S_retc .bool rfl trivial (by show AV.bool (regB a) = _; rw [ev]; simp [chkW, okW_r, okW_p, okW_d, okW_n, okW_l, okW_e])
    by_cases hkMake : w = kMake
    · subst hkMake
      have ev : ∀ q, rightW L kMake q = chkW L [112, 114] q := fun q => right_chk rfl (by decide)
      by_cases hk : r.length = 2
      case neg =>
        have e1 : (IntKind.i64.wrap ((((texts (kMake :: r)).length : Nat) : Int) - 1) == 2) = false := by rw [hn]; simpa using fun h => hk (by omega)
        have ev : rightW L kMake r = false := by rw [ev]; exact chk_len hk
        refine pa [.v (.sl true false 1 (texts (kMake :: r))), .v (.str kMake), .b false, .b false, .b false, .b false, .b false, .b false, .b false, .b true, .b true, .b false, .b false] rfl ?_ ?_
        · (repeat' with_reducible apply AllP_cons) <;> try exact aC
          · exact ⟨_, hW, .cons (.refl .str) (.nil _)⟩
        exact S_retc .bool rfl trivial (by show AV.bool false = _; rw [ev])
      match r, hk, hn, htl, hW, hlr, kR with
      | [a, b], _, hn, htl, hW, hlr, kR =>
        have e1 : (IntKind.i64.wrap ((((texts (kMake :: [a, b])).length : Nat) : Int) - 1) == 2) = true := by rw [hn]; rfl
        have ev := ev [a, b]
        have x0 := fun (x : List UInt8) (hx : x ∈ [a, b]) => hlr x hx
        have q0 := IsPath_ok a (by have := x0 a (by simp); omega)
        have q1 := fun tg => kR [a, b] 2 b (by simp) rfl (by simp) tg
        cases hv0 : isPathB a with
        | false =>
          rw [hv0] at q0
          refine pa [.v (.sl true false 1 (texts (kMake :: [a, b]))), .v (.str kMake), .b false, .b false, .b false, .b false, .b false, .b false, .b false, .b true, .b true, .b true, .v (.str a), .v (.bool false), .b false] rfl ?_ ?_
          · (repeat' with_reducible apply AllP_cons) <;> try exact aC
            all_goals first | exact ⟨_, hW, .cons (.refl .str) (.nil _)⟩ | exact ⟨_, q0, .cons (.refl .str) (.nil _)⟩ | exact q1 _ | skip
          exact S_retc .bool rfl trivial (by show AV.bool false = _; rw [ev]; simp [chkW, okW_r, okW_p, okW_d, okW_n, okW_l, okW_e, hv0])
        | true =>
          rw [hv0] at q0
          refine pa [.v (.sl true false 1 (texts (kMake :: [a, b]))), .v (.str kMake), .b false, .b false, .b false, .b false, .b false, .b false, .b false, .b true, .b true, .b true, .v (.str a), .v (.bool true), .b true, .k (.bool (regB b))] rfl ?_ ?_
          · (repeat' with_reducible apply AllP_cons) <;> try exact aC
            all_goals first | exact ⟨_, hW, .cons (.refl .str) (.nil _)⟩ | exact ⟨_, q0, .cons (.refl .str) (.nil _)⟩ | exact q1 _ | skip
          exact S_retc .bool rfl trivial (by show AV.bool (regB b) = _; rw [ev]; simp [chkW, okW_r, okW_p, okW_d, okW_n, okW_l, okW_e, hv0])
    by_cases hkRun : w = kRun
    · subst hkRun
      have ev : ∀ q, rightW L kRun q = chkW L [112, 114] q := fun q => right_chk rfl (by decide)
      by_cases hk : r.length = 2
      case neg =>
        have e1 : (IntKind.i64.wrap ((((texts (kRun :: r)).length : Nat) : Int) - 1) == 2) = false := by rw [hn]; simpa using fun h => hk (by omega)
        have ev : rightW L kRun r = false := by rw [ev]; exact chk_len hk
        refine pa [.v (.sl true false 1 (texts (kRun :: r))), .v (.str kRun), .b false, .b false, .b false, .b false, .b false, .b false, .b false, .b false, .b true, .b false, .b false] rfl ?_ ?_
        · (repeat' with_reducible apply AllP_cons) <;> try exact aC
          · exact ⟨_, hW, .cons (.refl .str) (.nil _)⟩
        exact S_retc .bool rfl trivial (by show AV.bool false = _; rw [ev])
      match r, hk, hn, htl, hW, hlr, kR with
      | [a, b], _, hn, htl, hW, hlr, kR =>
        have e1 : (IntKind.i64.wrap ((((texts (kRun :: [a, b])).length : Nat) : Int) - 1) == 2) = true := by rw [hn]; rfl
        have ev := ev [a, b]
        have x0 := fun (x : List UInt8) (hx : x ∈ [a, b]) => hlr x hx
        have q0 := IsPath_ok a (by have := x0 a (by simp); omega)
        have q1 := fun tg => kR [a, b] 2 b (by simp) rfl (by simp) tg
        cases hv0 : isPathB a with
        | false =>
          rw [hv0] at q0
          refine pa [.v (.sl true false 1 (texts (kRun :: [a, b]))), .v (.str kRun), .b false, .b false, .b false, .b false, .b false, .b false, .b false, .b false, .b true, .b true, .v (.str a), .v (.bool false), .b false] rfl ?_ ?_
          · (repeat' with_reducible apply AllP_cons) <;> try exact aC
            all_goals first | exact ⟨_, hW, .cons (.refl .str) (.nil _)⟩ | exact ⟨_, q0, .cons (.refl .str) (.nil _)⟩ | exact q1 _ | skip
          exact S_retc .bool rfl trivial (by show AV.bool false = _; rw [ev]; simp [chkW, okW_r, okW_p, okW_d, okW_n, okW_l, okW_e, hv0])
        | true =>
          rw [hv0] at q0
          refine pa [.v (.sl true false 1 (texts (kRun :: [a, b]))), .v (.str kRun), .b false, .b false, .b false, .b false, .b false, .b false, .b false, .b false, .b true, .b true, .v (.str a), .v (.bool true), .b true, .k (.bool (regB b))] rfl ?_ ?_
          · (repeat' with_reducible apply AllP_cons) <;> try exact aC
            all_goals first | exact ⟨_, hW, .cons (.refl .str) (.nil _)⟩ | exact ⟨_, q0, .cons (.refl .str) (.nil _)⟩ | exact q1 _ | skip
          exact S_retc .bool rfl trivial (by show AV.bool (regB b) = _; rw [ev]; simp [chkW, okW_r, okW_p, okW_d, okW_n, okW_l, okW_e, hv0])
    by_cases hkSame : w = kSame
    · subst hkSame
      have ev : ∀ q, rightW L kSame q = chkW L [114, 114, 108] q := fun q => right_chk rfl (by decide)
      by_cases hk : r.length = 3
      case neg =>
        have e1 : (IntKind.i64.wrap ((((texts (kSame :: r)).length : Nat) : Int) - 1) == 3) = false := by rw [hn]; simpa using fun h => hk (by omega)
        have ev : rightW L kSame r = false := by rw [ev]; exact chk_len hk
        refine pa [.v (.sl true false 1 (texts (kSame :: r))), .v (.str kSame), .b false, .b false, .b false, .b false, .b false, .b false, .b false, .b false, .b false, .b true, .b true, .b false, .b false, .b false] rfl ?_ ?_
        · (repeat' with_reducible apply AllP_cons) <;> try exact aC
          · exact ⟨_, hW, .cons (.refl .str) (.nil _)⟩
        exact S_retc .bool rfl trivial (by show AV.bool false = _; rw [ev])
      match r, hk, hn, htl, hW, hlr, kR with
      | [a, b, c], _, hn, htl, hW, hlr, kR =>
        have e1 : (IntKind.i64.wrap ((((texts (kSame :: [a, b, c])).length : Nat) : Int) - 1) == 3) = true := by rw [hn]; rfl
        have ev := ev [a, b, c]
        have x0 := fun (x : List UInt8) (hx : x ∈ [a, b, c]) => hlr x hx
        have q0 := fun tg => kR [a, b, c] 1 a (by simp) rfl (by simp) tg
        have q1 := fun tg => kR [a, b, c] 2 b (by simp) rfl (by simp) tg
        have q2 := NumberOf_ok c L (by have := x0 c (by simp); omega) (by omega)
        have s2 := numI_some c L
        cases hv0 : regB a with
        | false =>
          simp only [hv0] at q0
          refine pa [.v (.sl true false 1 (texts (kSame :: [a, b, c]))), .v (.str kSame), .b false, .b false, .b false, .b false, .b false, .b false, .b false, .b false, .b false, .b true, .b true, .b true, .k (.bool false), .b false, .b false] rfl ?_ ?_
          · (repeat' with_reducible apply AllP_cons) <;> try exact aC
            all_goals first | exact ⟨_, hW, .cons (.refl .str) (.nil _)⟩ | exact q0 _ | exact q1 _ | exact ⟨_, q2, .cons (.refl .str) (.cons (.refl .int) (.nil _))⟩ | skip
          exact S_retc .bool rfl trivial (by show AV.bool false = _; rw [ev]; simp [chkW, okW_r, okW_p, okW_d, okW_n, okW_l, okW_e, hv0])
        | true =>
          simp only [hv0] at q0
          cases hv1 : regB b with
          | false =>
            simp only [hv1] at q1
            refine pa [.v (.sl true false 1 (texts (kSame :: [a, b, c]))), .v (.str kSame), .b false, .b false, .b false, .b false, .b false, .b false, .b false, .b false, .b false, .b true, .b true, .b true, .k (.bool true), .b true, .k (.bool false), .b false] rfl ?_ ?_
            · (repeat' with_reducible apply AllP_cons) <;> try exact aC
              all_goals first | exact ⟨_, hW, .cons (.refl .str) (.nil _)⟩ | exact q0 _ | exact q1 _ | exact ⟨_, q2, .cons (.refl .str) (.cons (.refl .int) (.nil _))⟩ | skip
            exact S_retc .bool rfl trivial (by show AV.bool false = _; rw [ev]; simp [chkW, okW_r, okW_p, okW_d, okW_n, okW_l, okW_e, hv0, hv1])
          | true =>
            simp only [hv1] at q1
            refine pa [.v (.sl true false 1 (texts (kSame :: [a, b, c]))), .v (.str kSame), .b false, .b false, .b false, .b false, .b false, .b false, .b false, .b false, .b false, .b true, .b true, .b true, .k (.bool true), .b true, .k (.bool true), .b true, .v (.str c), .v (.int .i64 (numI c L))] rfl ?_ ?_
            · (repeat' with_reducible apply AllP_cons) <;> try exact aC
              all_goals first | exact ⟨_, hW, .cons (.refl .str) (.nil _)⟩ | exact q0 _ | exact q1 _ | exact ⟨_, q2, .cons (.refl .str) (.cons (.refl .int) (.nil _))⟩ | skip
            exact S_retc .bool rfl trivial (by show AV.bool (decide (numI c L ≥ 0)) = _; rw [s2, ev]; simp [chkW, okW_r, okW_p, okW_d, okW_n, okW_l, okW_e, hv0, hv1])
    by_cases hkLess : w = kLess
    · subst hkLess
      have ev : ∀ q, rightW L kLess q = chkW L [114, 114, 108] q := fun q => right_chk rfl (by decide)
      by_cases hk : r.length = 3
      case neg =>
        have e1 : (IntKind.i64.wrap ((((texts (kLess :: r)).length : Nat) : Int) - 1) == 3) = false := by rw [hn]; simpa using fun h => hk (by omega)
        have ev : rightW L kLess r = false := by rw [ev]; exact chk_len hk
        refine pa [.v (.sl true false 1 (texts (kLess :: r))), .v (.str kLess), .b false, .b false, .b false, .b false, .b false, .b false, .b false, .b false, .b false, .b false, .b true, .b false, .b false, .b false] rfl ?_ ?_
        · (repeat' with_reducible apply AllP_cons) <;> try exact aC
          · exact ⟨_, hW, .cons (.refl .str) (.nil _)⟩
        exact S_retc .bool rfl trivial (by show AV.bool false = _; rw [ev])
      match r, hk, hn, htl, hW, hlr, kR with
      | [a, b, c], _, hn, htl, hW, hlr, kR =>
        have e1 : (IntKind.i64.wrap ((((texts (kLess :: [a, b, c])).length : Nat) : Int) - 1) == 3) = true := by rw [hn]; rfl
        have ev := ev [a, b, c]
        have x0 := fun (x : List UInt8) (hx : x ∈ [a, b, c]) => hlr x hx
        have q0 := fun tg => kR [a, b, c] 1 a (by simp) rfl (by simp) tg
        have q1 := fun tg => kR [a, b, c] 2 b (by simp) rfl (by simp) tg
        have q2 := NumberOf_ok c L (by have := x0 c (by simp); omega) (by omega)
        have s2 := numI_some c L
        cases hv0 : regB a with
        | false =>
          simp only [hv0] at q0
          refine pa [.v (.sl true false 1 (texts (kLess :: [a, b, c]))), .v (.str kLess), .b false, .b false, .b false, .b false, .b false, .b false, .b false, .b false, .b false, .b false, .b true, .b true, .k (.bool false), .b false, .b false] rfl ?_ ?_
          · (repeat' with_reducible apply AllP_cons) <;> try exact aC
            all_goals first | exact ⟨_, hW, .cons (.refl .str) (.nil _)⟩ | exact q0 _ | exact q1 _ | exact ⟨_, q2, .cons (.refl .str) (.cons (.refl .int) (.nil _))⟩ | skip
          exact S_retc .bool rfl trivial (by show AV.bool false = _; rw [ev]; simp [chkW, okW_r, okW_p, okW_d, okW_n, okW_l, okW_e, hv0])
        | true =>
          simp only [hv0] at q0
          cases hv1 : regB b with
          | false =>
            simp only [hv1] at q1
            refine pa [.v (.sl true false 1 (texts (kLess :: [a, b, c]))), .v (.str kLess), .b false, .b false, .b false, .b false, .b false, .b false, .b false, .b false, .b false, .b false, .b true, .b true, .k (.bool true), .b true, .k (.bool false), .b false] rfl ?_ ?_
            · (repeat' with_reducible apply AllP_cons) <;> try exact aC
              all_goals first | exact ⟨_, hW, .cons (.refl .str) (.nil _)⟩ | exact q0 _ | exact q1 _ | exact ⟨_, q2, .cons (.refl .str) (.cons (.refl .int) (.nil _))⟩ | skip
            exact S_retc .bool rfl trivial (by show AV.bool false = _; rw [ev]; simp [chkW, okW_r, okW_p, okW_d, okW_n, okW_l, okW_e, hv0, hv1])
          | true =>
            simp only [hv1] at q1
            refine pa [.v (.sl true false 1 (texts (kLess :: [a, b, c]))), .v (.str kLess), .b false, .b false, .b false, .b false, .b false, .b false, .b false, .b false, .b false, .b false, .b true, .b true, .k (.bool true), .b true, .k (.bool true), .b true, .v (.str c), .v (.int .i64 (numI c L))] rfl ?_ ?_
            · (repeat' with_reducible apply AllP_cons) <;> try exact aC
              all_goals first | exact ⟨_, hW, .cons (.refl .str) (.nil _)⟩ | exact q0 _ | exact q1 _ | exact ⟨_, q2, .cons (.refl .str) (.cons (.refl .int) (.nil _))⟩ | skip
            exact S_retc .bool rfl trivial (by show AV.bool (decide (numI c L ≥ 0)) = _; rw [s2, ev]; simp [chkW, okW_r, okW_p, okW_d, okW_n, okW_l, okW_e, hv0, hv1])
    by_cases hkGoto : w = kGoto
    · subst hkGoto
      have ev : ∀ q, rightW L kGoto q = chkW L [108] q := fun q => right_chk rfl (by decide)
      by_cases hk : r.length = 1
      case neg =>
        have e1 : (IntKind.i64.wrap ((((texts (kGoto :: r)).length : Nat) : Int) - 1) == 1) = false := by rw [hn]; simpa using fun h => hk (by omega)
        have ev : rightW L kGoto r = false := by rw [ev]; exact chk_len hk
        refine pa [.v (.sl true false 1 (texts (kGoto :: r))), .v (.str kGoto), .b false, .b false, .b false, .b false, .b false, .b false, .b false, .b false, .b false, .b false, .b false, .b true, .b false] rfl ?_ ?_
        · (repeat' with_reducible apply AllP_cons) <;> try exact aC
          · exact ⟨_, hW, .cons (.refl .str) (.nil _)⟩
        exact S_retc .bool rfl trivial (by show AV.bool false = _; rw [ev])
      match r, hk, hn, htl, hW, hlr, kR with
      | [a], _, hn, htl, hW, hlr, kR =>
        have e1 : (IntKind.i64.wrap ((((texts (kGoto :: [a])).length : Nat) : Int) - 1) == 1) = true := by rw [hn]; rfl
        have ev := ev [a]
        have x0 := fun (x : List UInt8) (hx : x ∈ [a]) => hlr x hx
        have q0 := NumberOf_ok a L (by have := x0 a (by simp); omega) (by omega)
        have s0 := numI_some a L
        refine pa [.v (.sl true false 1 (texts (kGoto :: [a]))), .v (.str kGoto), .b false, .b false, .b false, .b false, .b false, .b false, .b false, .b false, .b false, .b false, .b false, .b true, .b true, .v (.str a), .v (.int .i64 (numI a L))] rfl ?_ ?_
        · (repeat' with_reducible apply AllP_cons) <;> try exact aC
          all_goals first | exact ⟨_, hW, .cons (.refl .str) (.nil _)⟩ | exact ⟨_, q0, .cons (.refl .str) (.cons (.refl .int) (.nil _))⟩ | skip
        exact S_retc .bool rfl trivial (by show AV.bool (decide (numI a L ≥ 0)) = _; rw [s0, ev]; simp [chkW, okW_r, okW_p, okW_d, okW_n, okW_l, okW_e])
    by_cases hkExit : w = kExit
    · subst hkExit
      have ev : ∀ q, rightW L kExit q = chkW L [101] q := fun q => right_chk rfl (by decide)
      by_cases hk : r.length = 1
      case neg =>
        have e1 : (IntKind.i64.wrap ((((texts (kExit :: r)).length : Nat) : Int) - 1) == 1) = false := by rw [hn]; simpa using fun h => hk (by omega)
        have ev : rightW L kExit r = false := by rw [ev]; exact chk_len hk
        refine pa [.v (.sl true false 1 (texts (kExit :: r))), .v (.str kExit), .b false, .b false, .b false, .b false, .b false, .b false, .b false, .b false, .b false, .b false, .b false, .b false, .b true, .b false] rfl ?_ ?_
        · (repeat' with_reducible apply AllP_cons) <;> try exact aC
          · exact ⟨_, hW, .cons (.refl .str) (.nil _)⟩
        exact S_retc .bool rfl trivial (by show AV.bool false = _; rw [ev])
      match r, hk, hn, htl, hW, hlr, kR with
      | [a], _, hn, htl, hW, hlr, kR =>
        have e1 : (IntKind.i64.wrap ((((texts (kExit :: [a])).length : Nat) : Int) - 1) == 1) = true := by rw [hn]; rfl
        have ev := ev [a]
        have x0 := fun (x : List UInt8) (hx : x ∈ [a]) => hlr x hx
        have q0 := NumberOf_ok a 99 (by have := x0 a (by simp); omega) (by omega)
        have s0 := numI_some a 99
        refine pa [.v (.sl true false 1 (texts (kExit :: [a]))), .v (.str kExit), .b false, .b false, .b false, .b false, .b false, .b false, .b false, .b false, .b false, .b false, .b false, .b false, .b true, .b true, .v (.str a), .v (.int .i64 (numI a 99))] rfl ?_ ?_
        · (repeat' with_reducible apply AllP_cons) <;> try exact aC
          all_goals first | exact ⟨_, hW, .cons (.refl .str) (.nil _)⟩ | exact ⟨_, q0, .cons (.refl .str) (.cons (.refl .int) (.nil _))⟩ | skip
        exact S_retc .bool rfl trivial (by show AV.bool (decide (numI a 99 ≥ 0)) = _; rw [s0, ev]; simp [chkW, okW_r, okW_p, okW_d, okW_n, okW_l, okW_e])
    have ev : rightW L w r = false := by
      have : formT' w = none := by
        unfold formT'
        have hf : formL.find? (fun p => p.1 == w) = none := by
          rw [List.find?_eq_none]
          intro p hp e
          have e : p.1 = w := by simpa using e
          simp only [formL, List.mem_cons, List.not_mem_nil, or_false] at hp
          rcases hp with rfl | rfl | rfl | rfl | rfl | rfl | rfl | rfl | rfl | rfl | rfl | rfl | rfl
          all_goals first | exact hkSet e.symm | exact hkRead e.symm | exact hkList e.symm | exact hkJoin e.symm | exact hkSize e.symm | exact hkCut e.symm | exact hkSum e.symm | exact hkMake e.symm | exact hkRun e.symm | exact hkSame e.symm | exact hkLess e.symm | exact hkGoto e.symm | exact hkExit e.symm
        rw [hf]; rfl
      unfold rightW; rw [this]
    have bkSet : (w == kSet) = false := by simpa using hkSet
    have bkRead : (w == kRead) = false := by simpa using hkRead
    have bkList : (w == kList) = false := by simpa using hkList
    have bkJoin : (w == kJoin) = false := by simpa using hkJoin
    have bkSize : (w == kSize) = false := by simpa using hkSize
    have bkCut : (w == kCut) = false := by simpa using hkCut
    have bkSum : (w == kSum) = false := by simpa using hkSum
    have bkMake : (w == kMake) = false := by simpa using hkMake
    have bkRun : (w == kRun) = false := by simpa using hkRun
    have bkSame : (w == kSame) = false := by simpa using hkSame
    have bkLess : (w == kLess) = false := by simpa using hkLess
    have bkGoto : (w == kGoto) = false := by simpa using hkGoto
    have bkExit : (w == kExit) = false := by simpa using hkExit
    refine pa [.v (.sl true false 1 (texts (w :: r))), .v (.str w), .b false, .b false, .b false, .b false, .b false, .b false, .b false, .b false, .b false, .b false, .b false, .b false, .b false] rfl ?_ ?_
    · (repeat' with_reducible apply AllP_cons) <;> try exact aC
      all_goals first | exact ⟨_, hW, .cons (.refl .str) (.nil _)⟩ | exact bkSet | exact bkRead | exact bkList | exact bkJoin | exact bkSize | exact bkCut | exact bkSum | exact bkMake | exact bkRun | exact bkSame | exact bkLess | exact bkGoto | exact bkExit | skip
    exact S_retc .bool rfl trivial (by show AV.bool false = _; rw [ev])
end Go.Proofs.YtgmakmfdjhgjlaaGreatDoor
end
section
set_option linter.unusedVariables false
set_option linter.unusedSimpArgs false
set_option maxRecDepth 20000
set_option maxHeartbeats 4000000
namespace Go.Proofs.YtgmakmfdjhgjlaaGreatDoor
open Go Go.Ab
theorem prog_iff (L : Nat) : ∀ (l : List (List UInt8)), (progT L l).isSome = l.all fun s => (lnOf L s).isSome
  | [] => rfl
  | s :: r => by
    rw [progT, List.all_cons]
    cases hq : lnOf L s with
    | none => rfl
    | some x =>
      show ((progT L r).map _).isSome = (true && _)
      rw [Option.isSome_map, prog_iff L r, Bool.true_and]
theorem bad_at {L : Nat} : ∀ {l : List (List UInt8)} {i : Nat} (h : i < l.length), (∀ s ∈ l.take i, (lnOf L s).isSome = true) → (lnOf L l[i]).isSome = false → badLn L l = i
  | [], _, h, _, _ => absurd h (by simp)
  | s :: r, 0, _, _, hb => by
    rw [badLn]
    have hb : (lnOf L s).isSome = false := hb
    cases hq : lnOf L s with
    | none => rfl
    | some x => rw [hq] at hb; cases hb
  | s :: r, i + 1, h, ha, hb => by
    have h1 := ha s (by simp)
    rw [badLn]
    cases hq : lnOf L s with
    | none => rw [hq] at h1; cases h1
    | some x =>
      show badLn L r + 1 = i + 1
      rw [bad_at (l := r) (i := i) (by simpa using h) (fun t ht => ha t (by simp; exact .inr ht)) hb]
theorem CheckCommand_ok {st fl : Bool} (l : List (List UInt8)) (hl : l.length ≤ 1048576) (hls : ∀ s ∈ l, s.length ≤ 1048576) : Calc cx 11 [.sl st fl 1 (texts l)] (.tup [.int .i64 (comI l : Nat), .int .i64 (comE l : Nat)]) :=
  pure_intro (fun a w => Tryz.call11 a w) Tryz.func11 rfl Tryz.ntmps11 rfl (.tup (by intro x hx; simp at hx; rcases hx with rfl | rfl; exact .int; exact .int)) fun B => by
    have hfree : ∀ i j : Int, Free true (.tup [.int .i64 i, .int .i64 j]) := fun i j => .tup (by intro x hx; simp at hx; rcases hx with rfl | rfl; exact .int; exact .int)
    have hC := CheckList_ok (st := st) (fl := fl) l 60 (by omega)
    have htl : (texts l).length = l.length := by simp [texts]
    have hfr : ∀ (σ : Heap) (k : Int), Frzs σ [.sl st fl 1 (texts l), .int .i64 k] [.sl st fl 1 (texts l), .int .i64 k] := fun σ k => .cons (comR l) (.cons (.refl .int) (.nil _))
    by_cases h0 : checkL l 60 = 0
    case neg =>
      have hE : comE l = 2 := by unfold comE; rw [if_neg h0]
      have hI : comI l = 0 := by unfold comI; rw [hE]; rfl
      have h2 : checkL l 60 = 2 := by
        unfold checkL at h0 ⊢
        split
        · rfl
        · rename_i h; rw [if_neg h] at h0
          split
          · rfl
          · rename_i h'; rw [if_neg h'] at h0; exact absurd rfl h0
      rw [h2] at hC
      rw [hE, hI]
      refine pa [.v (.int .i64 ((2 : Nat) : Int)), .b true] rfl ?_ ?_
      · (repeat' with_reducible apply AllP_cons) <;> try exact aC
        · exact ⟨_, hC, hfr _ _⟩
      exact S_retc (hfree _ _) rfl trivial rfl
    rw [h0] at hC
    have hcs : l.length ≤ 60 ∧ ∀ s ∈ l, s.length ≤ 100000 := by
      unfold checkL at h0
      by_cases h1 : 60 < l.length
      · rw [if_pos h1] at h0; cases h0
      · rw [if_neg h1] at h0
        cases hq : l.any (fun s => decide (100000 < s.length)) with
        | true => rw [hq] at h0; simp at h0
        | false => exact ⟨by omega, fun s hs => by have := List.any_eq_false.1 hq s hs; simpa using this⟩
    refine pa [.v (.int .i64 ((0 : Nat) : Int)), .b false] rfl ?_ ?_
    · (repeat' with_reducible apply AllP_cons) <;> try exact aC
      · exact ⟨_, hC, hfr _ _⟩
    refine S_while (α := Nat) (fun i => [(0, .sl st fl 1 (texts l)), (5, .int .i64 (i : Nat))]) (fun _ => []) (fun i => i ≤ l.length ∧ ∀ s ∈ l.take i, (lnOf l.length s).isSome = true) (fun i => l.length - i) 0
      ⟨Nat.zero_le _, fun s hs => by cases hs⟩ (.cons rfl (.cons rfl (.nil _))) rfl ?_
    rintro i ⟨hi, hst⟩
    have hi : i ≤ l.length := hi
    by_cases hlt : i < l.length
    · have e1 : decide ((i : Int) < (((texts l).length : Nat) : Int)) = true := decide_eq_true (by omega)
      have g1 : (texts l)[(i : Int).toNat]? = some (.str l[i]) := texts_get hlt
      have hR := RightLine_ok (texts l).length l[i] (by have := hcs.2 _ (List.getElem_mem hlt); omega) (by omega)
      rw [show lnOf (texts l).length l[i] = lnOf l.length l[i] by rw [htl]] at hR
      cases hb : (lnOf l.length l[i]).isSome with
      | false =>
        rw [hb] at hR
        have hE : comE l = 1 := by
          unfold comE; rw [if_pos h0, prog_iff]
          have : (l.all fun s => (lnOf l.length s).isSome) = false := by
            rw [List.all_eq_false]; exact ⟨_, List.getElem_mem hlt, by rw [hb]; simp⟩
          rw [this]; rfl
        have hI : comI l = i := by unfold comI; rw [if_pos hE]; exact bad_at hlt hst hb
        rw [hE, hI]
        refine pa [.b true, .v (.str l[i]), .v (.bool false), .b true] rfl ?_ ?_
        · (repeat' with_reducible apply AllP_cons) <;> try exact aC
          · exact ⟨_, hR, .cons (.refl .str) (.cons (.refl .int) (.nil _))⟩
        exact S_retc (hfree _ _) rfl trivial rfl
      | true =>
        rw [hb] at hR
        refine pa [.b true, .v (.str l[i]), .v (.bool true), .b false] rfl ?_ ?_
        · (repeat' with_reducible apply AllP_cons) <;> try exact aC
          · exact ⟨_, hR, .cons (.refl .str) (.cons (.refl .int) (.nil _))⟩
        refine S_round (i + 1) (by show l.length - (i + 1) < l.length - i; omega) ⟨hlt, fun s hs => ?_⟩ (.cons rfl (.cons (ai64 rfl (by omega)) (.nil _))) rfl
        rw [List.take_succ_eq_append_getElem hlt] at hs
        rcases List.mem_append.1 hs with h | h
        · exact hst s h
        · rw [List.mem_singleton.1 h]; exact hb
    have hil : i = l.length := by omega
    subst hil
    rw [List.take_length] at hst
    have e1 : decide ((l.length : Int) < (((texts l).length : Nat) : Int)) = false := decide_eq_false (by omega)
    have hE : comE l = 0 := by
      unfold comE; rw [if_pos h0, prog_iff, List.all_eq_true.2 hst]; rfl
    have hI : comI l = 0 := by unfold comI; rw [hE]; rfl
    rw [hE, hI]
    refine pB [.b false] rfl ?_
    exact S_retc (hfree _ _) rfl trivial rfl
theorem SandboxChecks_ok {st fl : Bool} (l : List (List UInt8)) (hl : l.length ≤ 1048576) (hls : ∀ s ∈ l, s.length ≤ 1048576) : Calc cx 3 [.sl st fl 1 (texts l)] (.bool true) :=
  pure_intro (fun a w => Tryz.call3 a w) Tryz.func3 rfl Tryz.ntmps3 rfl .bool fun B => by
    have h1 := SbCheck_ok (st := st) (fl := fl) l (by omega)
    have h2 := CheckCommand_ok (st := st) (fl := fl) l (by omega) hls
    have hfr : ∀ (σ : Heap), Frzs σ [.sl st fl 1 (texts l)] [.sl st fl 1 (texts l)] := fun σ => .cons (comR l) (.nil _)
    refine pa [.v (.tup [.int .i64 (comI l : Nat), .int .i64 (comE l : Nat)]), .v (.tup [.int .i64 (comI l : Nat), .int .i64 (comE l : Nat)]), .v (.bool true), .b true, .b true] rfl ?_ ?_
    · (repeat' with_reducible apply AllP_cons) <;> try exact aC
      · exact ⟨_, h1, hfr _⟩
      · exact ⟨_, h2, hfr _⟩
      · exact ⟨_, sandboxBegun_ok, .nil _⟩
      all_goals simp
    exact S_retc .bool rfl trivial (by show AV.bool (((comE l : Nat) : Int) == ((comE l : Nat) : Int)) = _; simp)
end Go.Proofs.YtgmakmfdjhgjlaaGreatDoor
end
