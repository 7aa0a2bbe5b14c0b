/-
  Texts of our own, in one file.
-/
import Derived.Test.YtmdegomejbpldaaGreatDoorGrpD
import Derived.Sort.Grow
import Derived.Deep.Draws
import Derived.Shelf.Strconv.Itoa3
import Derived.Shelf.LaysM
section
set_option linter.unusedVariables false
set_option linter.unusedSimpArgs false
set_option maxRecDepth 20000
namespace Go.Proofs.YtmdegomejbpldaaGreatDoor
open Go Go.Ab
def kidX (kd : Nat) (tx : List UInt8) (w : Nat) (ks : List Ex) : Nat × Option Box := (0, some (.cells [.int .i64 (kd : Nat), .int .i64 0, .str tx, .ms 3 w 0 ks.length 5 false, .nils] ⟨false, some 36⟩))
def kidI (kd : Int) (tx : List UInt8) (w m : Nat) : Nat × Option Box := (0, some (.cells [.int .i64 kd, .int .i64 0, .str tx, .ms 3 w 0 m 5 false, .nils] ⟨false, some 36⟩))
def kidBI (w : Nat) (ks : List Ex) (y : AV) : Nat × Option Box := (w, some (.cells (exF ks ++ y.cells) ⟨false, none⟩))
theorem kid_snoc (p : Nat × Option Box) (kd : Nat) (tx : List UInt8) (w : Nat) (ks : List Ex) (y : Ex) :
    [p, exO, kidI kd tx w (ks.length + 1), kidBI w ks (exA y)] = [p, exO, kidX kd tx w (ks ++ [y]), kidB w (ks ++ [y])] := by
  unfold kidX kidB kidI kidBI
  rw [exF_snoc, List.length_append]; rfl
structure ItemSt where
  F : Nat
  ks : List Ex
  r : List Tok
  w : Nat
theorem list_ok (F : Nat) (hF : F ≤ 10000000) (he : ∀ F', F' ≤ F → Cn 33 exprS F') : Cn 100 listS (F + 1) := fun v l e b d n r hr hl hn hne =>
  callOk_introT (fun a w => Tryz.call100 a w) Tryz.func100 rfl Tryz.ntmps100 rfl fun B => by
    obtain ⟨X, hX⟩ : ∃ X, X = listS (F + 1) n r := ⟨_, rfl⟩
    rw [← hX] at hne ⊢
    rw [listS] at hX
    by_cases c1 : isS [93] r = true
    · rw [if_pos c1] at hX
      have hm := fun τ => may_yes v l r e b d n [93] τ hr hl c1
      refine pa [.f (.bool true) (fun σ => psB v l r.tail e b d n :: σ.tail), .b true] rfl ?_ ?_
      · (repeat' with_reducible apply AllP_cons) <;> try exact aC
        exact hm _
      refine S_wkB 1 (exC (.mk 7 0 [] [] [])) rfl (.cons .refl (.cons .refl (.cons .refl (.cons .nils (.cons .nils .nil))))) ⟨_, _, .inl rfl⟩ ?_
      refine S_ret ⟨_, _, rfl, ⟨rfl, trivial⟩, ?_⟩
      exact PE.fin hX (exA_free (.mk 7 0 [] [] []))
    rw [if_neg c1] at hX
    have hm := fun τ => may_no v l r e b d n [93] τ hr hl c1
    refine pa [.k (.bool false), .b false] rfl ?_ ?_
    · (repeat' with_reducible apply AllP_cons) <;> try exact aC
      exact hm _
    refine S_ghost (id := 2) (j := 3) 5 ⟨false, none⟩ rfl rfl rfl (Nat.ne_of_lt (lble rfl)) ⟨_, _, .inl rfl⟩ ?_
    refine S_heap [psB v l r e b d n, exO, kidX 7 [] 0 [], kidB 0 []] rfl ?_
    clear hm
    have hE := he F (Nat.le_refl _)
    cases hy : exprS F n r with
    | out => rw [hy] at hX; exact absurd hX hne
    | bad j u =>
      have hS := hE.tail v l e b d n r [exO, kidX 7 [] 0 [], kidB 0 []] hr hl hn (by rw [hy]; nofun)
      rw [hy] at hX
      refine S_drawE 3 [] [] rfl rfl rfl rfl rfl rfl ?_ hS hy hX
      (repeat' with_reducible apply AllP_cons) <;> try exact aC
    | ok y r1 =>
    have hS := PE.ok (hE.tail v l e b d n r [exO, kidX 7 [] 0 [], kidB 0 []] hr hl hn (by rw [hy]; nofun)) hy
    rw [hy] at hX
    have hr1 := ((allS F).expr _ _ _ _ hy).trans hr
    obtain ⟨yk, yn, yt, ys, ym⟩ := y
    refine pa [.d 3 5 [] (fun σ => psB v l r1 e b d n :: σ.tail) [exA (.mk yk yn yt ys ym)]] rfl ?_ ?_
    · (repeat' with_reducible apply AllP_cons) <;> try exact aC
      exact ⟨_, hS, rfl⟩
    refine S_heap [psB v l r1 e b d n, exO, kidX 7 [] 1 [.mk yk yn yt ys ym], kidB 1 [.mk yk yn yt ys ym]] rfl ?_
    generalize Ex.mk yk yn yt ys ym = y at hX
    clear hS hy
    by_cases c2 : isS wFor r1 = true
    · have hX : X = if isS wFor r1 then (takeS 1 r1.tail).bind fun t r => (mustS wIn r).bind fun _ r => (exprS F n r).bind fun z r =>
          if isS wIf r then (exprS F n r.tail).bind fun z2 r => (mustS [93] r).bind fun _ r => .ok (.mk 9 0 t.text [y, z, z2] []) r
          else (mustS [93] r).bind fun _ r => .ok (.mk 9 0 t.text [y, z] []) r else _ := hX
      rw [if_pos c2] at hX
      have hm := may_yes v l r1 e b d n wFor [exO, kidX 7 [] 1 [y], kidB 1 [y]] hr1 hl c2
      have hr2 := isS_suf hr1
      refine pB [.f (.bool true) (fun σ => psB v l r1.tail e b d n :: σ.tail), .b true] rfl ?_
      clear hm
      cases ht : takeS 1 r1.tail with
      | out => rw [ht] at hX; exact absurd hX hne
      | bad j u =>
        rw [ht] at hX
        exact S_callE rfl rfl rfl (takeT v l r1.tail e b d n 1 _ hr2 hl (by decide)) ht hX
      | ok t r3 =>
      have hT := PE.ok (takeT v l r1.tail e b d n 1 [exO, kidX 7 [] 1 [y], kidB 1 [y]] hr2 hl (by decide)) ht
      rw [ht] at hX
      have hr3 := (takeS_s _ _ _ _ ht).trans hr2
      refine pB [.f (tokA t) (fun σ => psB v l r3 e b d n :: σ.tail)] rfl ?_
      refine S_heap [psB v l r3 e b d n, exO, kidX 9 t.text 1 [y], kidB 1 [y]] rfl ?_
      clear hT
      have hX : X = (mustS wIn r3).bind fun _ r => (exprS F n r).bind fun z r =>
          if isS wIf r then (exprS F n r.tail).bind fun z2 r => (mustS [93] r).bind fun _ r => .ok (.mk 9 0 t.text [y, z, z2] []) r
          else (mustS [93] r).bind fun _ r => .ok (.mk 9 0 t.text [y, z] []) r := hX
      cases hz : mustS wIn r3 with
      | out => rw [hz] at hX; exact absurd hX hne
      | bad j u =>
        rw [hz] at hX
        exact S_callE rfl rfl rfl (mustT v l r3 e b d n wIn _ hr3 hl) hz hX
      | ok _ r4 =>
      have hM := PE.ok (mustT v l r3 e b d n wIn [exO, kidX 9 t.text 1 [y], kidB 1 [y]] hr3 hl) hz
      rw [hz] at hX
      have hr4 := (mustS_s _ _ _ _ hz).trans hr3
      refine pB [.f (.tup []) (fun σ => psB v l r4 e b d n :: σ.tail)] rfl ?_
      clear hM
      have hX : X = (exprS F n r4).bind fun z r =>
          if isS wIf r then (exprS F n r.tail).bind fun z2 r => (mustS [93] r).bind fun _ r => .ok (.mk 9 0 t.text [y, z, z2] []) r
          else (mustS [93] r).bind fun _ r => .ok (.mk 9 0 t.text [y, z] []) r := hX
      cases hy : exprS F n r4 with
      | out => rw [hy] at hX; exact absurd hX hne
      | bad j u =>
        have hS := hE.tail v l e b d n r4 [exO, kidX 9 t.text 1 [y], kidB 1 [y]] hr4 hl hn (by rw [hy]; nofun)
        rw [hy] at hX
        refine S_drawE 3 [] [] rfl rfl rfl rfl rfl rfl ?_ hS hy hX
        (repeat' with_reducible apply AllP_cons) <;> try exact aC
      | ok z r5 =>
      have hS := PE.ok (hE.tail v l e b d n r4 [exO, kidX 9 t.text 1 [y], kidB 1 [y]] hr4 hl hn (by rw [hy]; nofun)) hy
      rw [hy] at hX
      have hr5 := ((allS F).expr _ _ _ _ hy).trans hr4
      have hbx : 0 + [y].length * 5 = (exF [y]).length := by rw [exF_len]; omega
      obtain ⟨yk, yn, yt, ys, ym⟩ := z
      refine pa [.d 3 5 [] (fun σ => psB v l r5 e b d n :: σ.tail) [exA (.mk yk yn yt ys ym)]] rfl ?_ ?_
      · (repeat' with_reducible apply AllP_cons) <;> try exact aC
        exact ⟨_, hS, rfl⟩
      refine S_heap [psB v l r5 e b d n, exO, kidX 9 t.text 2 [y, .mk yk yn yt ys ym], kidB 2 [y, .mk yk yn yt ys ym]] (kid_snoc _ 9 t.text 2 [y] (.mk yk yn yt ys ym)) ?_
      generalize Ex.mk yk yn yt ys ym = z at hX
      have hX : X = if isS wIf r5 then (exprS F n r5.tail).bind fun z2 r => (mustS [93] r).bind fun _ r => .ok (.mk 9 0 t.text [y, z, z2] []) r
          else (mustS [93] r5).bind fun _ r => .ok (.mk 9 0 t.text [y, z] []) r := hX
      clear hS hy hbx
      by_cases c3 : isS wIf r5 = true
      · rw [if_pos c3] at hX
        have hm := may_yes v l r5 e b d n wIf [exO, kidX 9 t.text 2 [y, z], kidB 2 [y, z]] hr5 hl c3
        have hr6 := isS_suf hr5
        refine pB [.f (.bool true) (fun σ => psB v l r5.tail e b d n :: σ.tail), .b true] rfl ?_
        clear hm
        cases hy : exprS F n r5.tail with
        | out => rw [hy] at hX; exact absurd hX hne
        | bad j u =>
          have hS := hE.tail v l e b d n r5.tail [exO, kidX 9 t.text 2 [y, z], kidB 2 [y, z]] hr6 hl hn (by rw [hy]; nofun)
          rw [hy] at hX
          refine S_drawE 3 [] [] rfl rfl rfl rfl rfl rfl ?_ hS hy hX
          (repeat' with_reducible apply AllP_cons) <;> try exact aC
        | ok z2 r7 =>
        have hS := PE.ok (hE.tail v l e b d n r5.tail [exO, kidX 9 t.text 2 [y, z], kidB 2 [y, z]] hr6 hl hn (by rw [hy]; nofun)) hy
        rw [hy] at hX
        have hr7 := ((allS F).expr _ _ _ _ hy).trans hr6
        have hbx : 0 + [y, z].length * 5 = (exF [y, z]).length := by rw [exF_len]; omega
        obtain ⟨yk, yn, yt, ys, ym⟩ := z2
        refine pa [.d 3 5 [] (fun σ => psB v l r7 e b d n :: σ.tail) [exA (.mk yk yn yt ys ym)]] rfl ?_ ?_
        · (repeat' with_reducible apply AllP_cons) <;> try exact aC
          exact ⟨_, hS, rfl⟩
        refine S_heap [psB v l r7 e b d n, exO, kidX 9 t.text 3 [y, z, .mk yk yn yt ys ym], kidB 3 [y, z, .mk yk yn yt ys ym]] (kid_snoc _ 9 t.text 3 [y, z] (.mk yk yn yt ys ym)) ?_
        generalize Ex.mk yk yn yt ys ym = z2 at hX
        have hX : X = (mustS [93] r7).bind fun _ r => .ok (.mk 9 0 t.text [y, z, z2] []) r := hX
        cases hz2 : mustS [93] r7 with
        | out => rw [hz2] at hX; exact absurd hX hne
        | bad j u =>
          rw [hz2] at hX
          exact S_callE rfl rfl rfl (mustT v l r7 e b d n [93] _ hr7 hl) hz2 hX
        | ok _ r9 =>
        have hM9 := PE.ok (mustT v l r7 e b d n [93] [exO, kidX 9 t.text 3 [y, z, z2], kidB 3 [y, z, z2]] hr7 hl) hz2
        rw [hz2] at hX
        refine pB [.f (.tup []) (fun σ => psB v l r9 e b d n :: σ.tail)] rfl ?_
        refine S_ret ⟨_, _, rfl, ⟨rfl, trivial⟩, ?_⟩
        exact PE.finZ hX (exFz (kidFz (by decide) rfl) .nils)
      · rw [if_neg c3] at hX
        have hm := may_no v l r5 e b d n wIf [exO, kidX 9 t.text 2 [y, z], kidB 2 [y, z]] hr5 hl c3
        refine pB [.k (.bool false), .b false] rfl ?_
        cases hz2 : mustS [93] r5 with
        | out => rw [hz2] at hX; exact absurd hX hne
        | bad j u =>
          rw [hz2] at hX
          exact S_callE rfl rfl rfl (mustT v l r5 e b d n [93] _ hr5 hl) hz2 hX
        | ok _ r9 =>
        have hM9 := PE.ok (mustT v l r5 e b d n [93] [exO, kidX 9 t.text 2 [y, z], kidB 2 [y, z]] hr5 hl) hz2
        rw [hz2] at hX
        refine pB [.f (.tup []) (fun σ => psB v l r9 e b d n :: σ.tail)] rfl ?_
        refine S_ret ⟨_, _, rfl, ⟨rfl, trivial⟩, ?_⟩
        exact PE.finZ hX (exFz (kidFz (by decide) rfl) .nils)
    have hX : X = if isS wFor r1 then _ else itemS F n [y] r1 := hX
    rw [if_neg c2] at hX
    have hm := may_no v l r1 e b d n wFor [exO, kidX 7 [] 1 [y], kidB 1 [y]] hr1 hl c2
    refine pB [.k (.bool false), .b false] rfl ?_
    refine S_while (α := ItemSt) (fun q => [(0, .ptr 0 v 0), (2, .ptr 1 0 0), (3, .ptr 2 0 0)]) (fun q => [psB v l q.r e b d n, exO, kidX 7 [] q.w q.ks, kidB q.w q.ks])
      (fun q => q.F ≤ F ∧ q.r <:+ l ∧ itemS q.F n q.ks q.r = X ∧ q.ks.length + q.F ≤ F + 1) (fun q => q.F) ⟨F, [y], r1, 1⟩ ⟨Nat.le_refl _, hr1, hX.symm, by show 1 + F ≤ F + 1; omega⟩ (.cons rfl (.cons rfl (.cons rfl (.nil _)))) rfl ?_
    clear hm hX
    rintro ⟨F1, ks, r2, w⟩ ⟨hF1, hr2, hX, hks⟩
    have hF1 : F1 ≤ F := hF1
    have hr2 : r2 <:+ l := hr2
    have hX : X = itemS F1 n ks r2 := hX.symm
    have hks : ks.length + F1 ≤ F + 1 := hks
    show S cx _ B _ _ [(0, .ptr 0 v 0), (2, .ptr 1 0 0), (3, .ptr 2 0 0)] [psB v l r2 e b d n, exO, kidX 7 [] w ks, kidB w ks]
    cases F1 with
    | zero => exact absurd hX hne
    | succ F1 =>
    rw [itemS] at hX
    by_cases c7 : isS [93] r2 = true
    · rw [if_pos c7] at hX
      have hm7 := may_yes v l r2 e b d n [93] [exO, kidX 7 [] w ks, kidB w ks] hr2 hl c7
      refine pB [.f (.bool true) (fun σ => psB v l r2.tail e b d n :: σ.tail), .b false] rfl ?_
      refine S_ret ⟨_, _, rfl, ⟨rfl, trivial⟩, ?_⟩
      exact PE.finZ hX (exFz (kidFz (by decide) rfl) .nils)
    rw [if_neg c7] at hX
    have hm7 := may_no v l r2 e b d n [93] [exO, kidX 7 [] w ks, kidB w ks] hr2 hl c7
    refine pB [.k (.bool false), .b true] rfl ?_
    cases hz : mustS [44] r2 with
    | out => rw [hz] at hX; exact absurd hX hne
    | bad j u =>
      rw [hz] at hX
      exact S_callE rfl rfl rfl (mustT v l r2 e b d n [44] _ hr2 hl) hz hX
    | ok _ r3 =>
    have hM := PE.ok (mustT v l r2 e b d n [44] [exO, kidX 7 [] w ks, kidB w ks] hr2 hl) hz
    rw [hz] at hX
    have hX : X = (exprS F1 n r3).bind fun y r => itemS F1 n (ks ++ [y]) r := hX
    have hr3 := (mustS_s _ _ _ _ hz).trans hr2
    refine pB [.f (.tup []) (fun σ => psB v l r3 e b d n :: σ.tail)] rfl ?_
    have hE := he F1 (by omega)
    cases hy : exprS F1 n r3 with
    | out => rw [hy] at hX; exact absurd hX hne
    | bad j u =>
      have hS := hE.tail v l e b d n r3 [exO, kidX 7 [] w ks, kidB w ks] hr3 hl hn (by rw [hy]; nofun)
      rw [hy] at hX
      refine S_drawE 3 [] [] rfl rfl rfl rfl rfl rfl ?_ hS hy hX
      (repeat' with_reducible apply AllP_cons) <;> try exact aC
    | ok z r4 =>
    have hS := PE.ok (hE.tail v l e b d n r3 [exO, kidX 7 [] w ks, kidB w ks] hr3 hl hn (by rw [hy]; nofun)) hy
    rw [hy] at hX
    have hX : X = itemS F1 n (ks ++ [z]) r4 := hX
    have hr4 := ((allS F1).expr _ _ _ _ hy).trans hr3
    have hbx : 0 + ks.length * 5 = (exF ks).length := by rw [exF_len]; omega
    obtain ⟨yk, yn, yt, ys, ym⟩ := z
    refine pa [.d 3 5 [] (fun σ => psB v l r4 e b d n :: σ.tail) [exA (.mk yk yn yt ys ym)]] rfl ?_ ?_
    · (repeat' with_reducible apply AllP_cons) <;> try exact aC
      · exact ⟨_, hS, rfl⟩
      · show (ks.length + 1) * 80 ≤ 140737488355328
        omega
    refine S_round ⟨F1, ks ++ [.mk yk yn yt ys ym], r4, w + 1⟩ (Nat.lt_succ_self _) ⟨by show F1 ≤ F; omega, hr4, hX.symm, by show (ks ++ [_]).length + F1 ≤ F + 1; rw [List.length_append, List.length_singleton]; omega⟩ (.cons rfl (.cons rfl (.cons rfl (.nil _)))) ?_
    exact kid_snoc _ 7 [] (w + 1) ks (.mk yk yn yt ys ym)
end Go.Proofs.YtmdegomejbpldaaGreatDoor
end
section
set_option linter.unusedVariables false
set_option linter.unusedSimpArgs false
set_option maxRecDepth 20000
set_option maxHeartbeats 4000000
namespace Go.Proofs.YtmdegomejbpldaaGreatDoor
open Go Go.Ab
def callX (w : Nat) (ks : List Ex) (u : Nat) (ns : List (List UInt8)) : Nat × Option Box := (0, some (.cells [.int .i64 10, .int .i64 0, .str [], .ms 3 w 0 ks.length 5 false, .ms 4 u 0 ns.length 1 false] ⟨false, some 36⟩))
def namB (u : Nat) (ns : List (List UInt8)) : Nat × Option Box := (u, some (.cells (texts ns) ⟨false, none⟩))
structure CallSt where
  F : Nat
  ks : List Ex
  ns : List (List UInt8)
  r : List Tok
  w : Nat
  u : Nat
theorem namFz {k : Nat} {σ : Heap} {id u : Nat} {ns : List (List UInt8)} (hk : k ≤ id) (hb : σ[id]? = some (namB u ns)) : FzT k σ (.ms id u 0 ns.length 1 false) (.sl true false 1 (texts ns)) :=
  .ms1 hk (by unfold boxAt; rw [hb]; rfl) (fun x hx => by obtain ⟨t, _, rfl⟩ := List.mem_map.1 hx; rfl) (by simp [texts]) (fun x hx => Low.free (textsF (st := false) ns x hx))
theorem call_ok (F : Nat) (hF : F ≤ 900000) (he : ∀ F', F' ≤ F → Cn 33 exprS F') : Cc (F + 1) := fun v l e b d n r x hr hl hn hne =>
  callOk_introT (fun a w => Tryz.call93 a w) Tryz.func93 rfl Tryz.ntmps93 rfl fun B => by
    obtain ⟨X, hX⟩ : ∃ X, X = callS (F + 1) n [x] [] r := ⟨_, rfl⟩
    rw [← hX] at hne ⊢
    obtain ⟨xk, xn, xt, xs, xm⟩ := x
    refine go (M := [7]) 9 rfl ⟨rfl, trivial⟩ ?_
    refine S_unfull (t := 7) rfl ⟨.skip, _, .inr ⟨_, _, _, rfl⟩⟩ ?_
    refine pB [] rfl ?_
    refine S_ghost (id := 1) (j := 4) 1 ⟨false, none⟩ rfl rfl rfl (Nat.ne_of_lt (lble rfl)) ⟨_, _, .inl rfl⟩ ?_
    refine S_while (α := CallSt) (fun q => [(0, .ptr 0 v 0), (3, .ptr 1 0 0), (4, .ptr 2 0 0)]) (fun q => [psB v l q.r e b d n, callX q.w q.ks q.u q.ns, exO, kidB q.w q.ks, namB q.u q.ns])
      (fun q => q.F ≤ F + 1 ∧ q.r <:+ l ∧ callS q.F n q.ks q.ns q.r = X ∧ q.ks.length + q.F ≤ F + 2 ∧ q.ns.length + q.F ≤ F + 2) (fun q => q.F) ⟨F + 1, [.mk xk xn xt xs xm], [], r, 0, 0⟩
      ⟨Nat.le_refl _, hr, hX.symm, by show 1 + (F + 1) ≤ F + 2; omega, by show 0 + (F + 1) ≤ F + 2; omega⟩ (.cons rfl (.cons rfl (.cons rfl (.nil _)))) rfl ?_
    clear hX hr
    rintro ⟨F1, ks, ns, r, w, u⟩ ⟨hF1, hr, hX, hks, hns⟩
    have hF1 : F1 ≤ F + 1 := hF1
    have hr : r <:+ l := hr
    have hX : X = callS F1 n ks ns r := hX.symm
    have hks : ks.length + F1 ≤ F + 2 := hks
    have hns : ns.length + F1 ≤ F + 2 := hns
    show S cx _ B _ _ [(0, .ptr 0 v 0), (3, .ptr 1 0 0), (4, .ptr 2 0 0)] [psB v l r e b d n, callX w ks u ns, exO, kidB w ks, namB u ns]
    cases F1 with
    | zero => exact absurd hX hne
    | succ F1 =>
    rw [callS] at hX
    by_cases c1 : isS [41] r = true
    · rw [if_pos c1] at hX
      have hm := may_yes v l r e b d n [41] [callX w ks u ns, exO, kidB w ks, namB u ns] hr hl c1
      refine pB [.f (.bool true) (fun σ => psB v l r.tail e b d n :: σ.tail), .b false] rfl ?_
      refine S_ret ⟨_, _, rfl, ⟨rfl, trivial⟩, ?_⟩
      exact PE.finZ hX (exFz (kidFz (by decide) rfl) (namFz (by decide) rfl))
    rw [if_neg c1] at hX
    have hm := may_no v l r e b d n [41] [callX w ks u ns, exO, kidB w ks, namB u ns] hr hl c1
    cases hmm : (if ks.length > 1 then mustS [44] r else (.ok () r : Pr Unit)) with
    | out => rw [hmm] at hX; exact absurd hX hne
    | bad j w2 =>
      rw [hmm] at hX
      have hk0 : ks.length > 1 := by
        by_cases h : ks.length > 1
        · exact h
        · rw [if_neg h] at hmm; cases hmm
      rw [if_pos hk0] at hmm
      refine pB [.k (.bool false), .b true, .b true] rfl ?_
      exact S_callE rfl rfl rfl (mustT v l r e b d n [44] _ hr hl) hmm hX
    | ok _ r3 =>
    rw [hmm] at hX
    have hX : X = if nameS r3 then (if ns.contains (hdT r3) then .bad 6 r3 else (exprS F1 n r3.tail.tail).bind fun y r' => callS F1 n (ks ++ [y]) (ns ++ [hdT r3]) r')
      else if ns.length > 0 then .bad 1 r3 else (exprS F1 n r3).bind fun y r => callS F1 n (ks ++ [y]) ns r := hX
    have hr3 : r3 <:+ l := by
      by_cases h : ks.length > 1
      · rw [if_pos h] at hmm; exact (mustS_s _ _ _ _ hmm).trans hr
      · rw [if_neg h] at hmm; cases hmm; exact hr
    refine' S_share [(0, .ptr 0 v 0), (3, .ptr 1 0 0), (4, .ptr 2 0 0)] [psB v l r3 e b d n, callX w ks u ns, exO, kidB w ks, namB u ns] (fun cont => ?main) ?rest
    case main =>
      by_cases h : ks.length > 1
      · rw [if_pos h] at hmm
        have hM := PE.ok (mustT v l r e b d n [44] [callX w ks u ns, exO, kidB w ks, namB u ns] hr hl) hmm
        refine pB [.k (.bool false), .b true, .b true, .f (.tup []) (fun σ => psB v l r3 e b d n :: σ.tail)] rfl ?_
        exact cont _ (.cons rfl (.cons rfl (.cons rfl (.nil _))))
      · rw [if_neg h] at hmm
        cases hmm
        refine pB [.k (.bool false), .b true, .b false] rfl ?_
        exact cont _ (.cons rfl (.cons rfl (.cons rfl (.nil _))))
    case rest =>
    clear hmm hm c1 hr
    have hk := kindT v l r3 e b d n [callX w ks u ns, exO, kidB w ks, namB u ns] hr3 hl
    have hml : (l.map tokA).length = l.length := by simp
    refine' S_shareG (ι := CallSt) [(0, .ptr 0 v 0), (3, .ptr 1 0 0), (4, .ptr 2 0 0)] (fun q => [psB v l q.r e b d n, callX w ks q.u q.ns, exO, kidB w ks, namB q.u q.ns])
      (fun q => q.r <:+ l ∧ q.ns.length + F1 ≤ F + 2 ∧ X = (exprS F1 n q.r).bind fun y r => callS F1 n (ks ++ [y]) q.ns r) (fun cont => ?main) ?rest
    case main =>
      by_cases c2 : nameS r3 = true
      · rw [if_pos c2] at hX
        obtain ⟨t, t2, u4, rfl⟩ : ∃ t t2 u4, r3 = t :: t2 :: u4 := by
          match r3, c2 with
          | [], h => simp [nameS, hdK] at h
          | [t], h => simp [nameS, hdK] at h
          | t :: t2 :: u4, _ => exact ⟨t, t2, u4, rfl⟩
        have c2' : ((t.kind == 1) && (t2.kind == 4) && (t2.text == [61])) = true := c2
        simp only [Bool.and_eq_true] at c2'
        obtain ⟨⟨k1, k4⟩, e5⟩ := c2'
        have k1 : t.kind = 1 := beq_iff_eq.1 k1
        have k4 : t2.kind = 4 := beq_iff_eq.1 k4
        have e1 : (((hdK (t :: t2 :: u4) : Nat) : Int) == 1) = true := by rw [show hdK (t :: t2 :: u4) = t.kind from rfl, k1]; rfl
        have hw := suf_next hr3 hl
        have hr4 := suf_tail hr3
        have hr5 := suf_tail hr4
        have hg1 := suf_get hr3
        have hg2 : (l.map tokA)[(IntKind.i64.wrap (((l.length - (t :: t2 :: u4).length : Nat) : Int) + 1)).toNat]? = some (tokA t2) := by
          rw [hw]; exact suf_get hr4
        have h0 : (0 : Int) ≤ IntKind.i64.wrap (((l.length - (t :: t2 :: u4).length : Nat) : Int) + 1) := by rw [hw]; omega
        have e2 : decide (IntKind.i64.wrap (((l.length - (t :: t2 :: u4).length : Nat) : Int) + 1) < (((l.map tokA).length : Nat) : Int)) = true := by
          have := suf_lt hr4
          rw [hw, hml]; exact decide_eq_true (by omega)
        have e4 : ((t2.kind : Int) == 4) = true := by rw [k4]; rfl
        have e6 : (!(t2.text == [61])) = false := by rw [e5]; rfl
        have hw2 : IntKind.i64.wrap (((l.length - (t :: t2 :: u4).length : Nat) : Int) + 2) = ((l.length - u4.length : Nat) : Int) := by
          have := hr3.length_le
          simp only [List.length_cons] at this ⊢
          rw [IntWalk.i64_in _ ⟨by omega, by omega⟩]; omega
        have hX : X = if ns.contains t.text then .bad 6 (t :: t2 :: u4) else (exprS F1 n u4).bind fun y r' => callS F1 n (ks ++ [y]) (ns ++ [t.text]) r' := hX
        have hCo := ContainsS_ok (st := false) (fl := false) ns t.text (by omega)
        have hFz : Frzs [psB v l (t :: t2 :: u4) e b d n, callX w ks u ns, exO, kidB w ks, namB u ns] [.ms 4 u 0 ns.length 1 false, .str t.text] [.sl false false 1 (texts ns), .str t.text] := .cons (.ms1 rfl (fun x hx => by obtain ⟨y, _, rfl⟩ := List.mem_map.1 hx; rfl) (texts_len ns) (textsF ns)) (.cons (.refl .str) (.nil _))
        by_cases c3 : t.text ∈ ns
        · rw [if_pos (by simpa using c3)] at hX
          rw [decide_eq_true c3] at hCo
          refine pa [.k (.int .i64 (hdK (t :: t2 :: u4) : Nat)), .b true, .b true, .v (tokA t2), .b true, .v (tokA t2), .b false, .b false, .b true, .v (tokA t), .v (.bool true), .b true] rfl ?_ ?_
          · (repeat' with_reducible apply AllP_cons) <;> try exact aC
            exact ⟨_, hCo, hFz⟩
          exact S_callE rfl rfl rfl (failT uA v l _ e b d n 6 _ hr3 hl) rfl hX
        · rw [if_neg (by simpa using c3)] at hX
          rw [decide_eq_false c3] at hCo
          have hbx : 0 + ns.length * 1 = (texts ns).length := by rw [texts_len]; omega
          refine pa [.k (.int .i64 (hdK (t :: t2 :: u4) : Nat)), .b true, .b true, .v (tokA t2), .b true, .v (tokA t2), .b false, .b false, .b true, .v (tokA t), .v (.bool false), .b false, .v (tokA t)] rfl ?_ ?_
          · (repeat' with_reducible apply AllP_cons) <;> try exact aC
            · exact ⟨_, hCo, hFz⟩
            · show (ns.length + 1) * 16 ≤ 140737488355328
              omega
          refine S_heap [psB v l u4 e b d n, callX w ks (u + 1) (ns ++ [t.text]), exO, kidB w ks, namB (u + 1) (ns ++ [t.text])] ?_ ?_
          · show [psI v l (IntKind.i64.wrap (((l.length - (t :: t2 :: u4).length : Nat) : Int) + 2)) e b d n, (0, some (.cells [.int .i64 10, .int .i64 0, .str [], .ms 3 w 0 ks.length 5 false, .ms 4 (u + 1) 0 (ns.length + 1) 1 false] ⟨false, some 36⟩)), exO, kidB w ks, (u + 1, some (.cells (texts ns ++ [.str t.text]) ⟨false, none⟩))] = _
            rw [hw2]
            unfold callX namB
            rw [List.length_append, show texts (ns ++ [t.text]) = texts ns ++ [.str t.text] by simp [texts]]; rfl
          exact cont ⟨0, [], ns ++ [t.text], u4, 0, u + 1⟩ _ ⟨hr5, by show (ns ++ [_]).length + F1 ≤ F + 2; rw [List.length_append, List.length_singleton]; omega, hX⟩ (.cons rfl (.cons rfl (.cons rfl (.nil _))))
      rw [if_neg c2] at hX
      refine' S_shareR [(0, .ptr 0 v 0), (3, .ptr 1 0 0), (4, .ptr 2 0 0), (5, .bool false), (66, .bool true)] [psB v l r3 e b d n, callX w ks u ns, exO, kidB w ks, namB u ns] (fun cont2 => ?main2) ?rest2
      case main2 =>
        by_cases k1 : hdK r3 = 1
        · obtain ⟨t, u3, rfl⟩ : ∃ t u3, r3 = t :: u3 := by
            cases r3 with
            | nil => cases k1
            | cons t u3 => exact ⟨t, u3, rfl⟩
          have e1 : (((hdK (t :: u3) : Nat) : Int) == 1) = true := by rw [k1]; rfl
          have hw := suf_next hr3 hl
          cases u3 with
          | nil =>
            have e2 : decide (IntKind.i64.wrap (((l.length - [t].length : Nat) : Int) + 1) < (((l.map tokA).length : Nat) : Int)) = false := by
              rw [hw, hml]; exact decide_eq_false (by simp)
            refine pB [.k (.int .i64 (hdK [t] : Nat)), .b true, .b false, .b false] rfl ?_
            exact cont2 _ (.cons rfl (.cons rfl (.cons rfl (.cons rfl (.cons rfl (.nil _))))))
          | cons t2 u4 =>
            have hr4 := suf_tail hr3
            have hg2 : (l.map tokA)[(IntKind.i64.wrap (((l.length - (t :: t2 :: u4).length : Nat) : Int) + 1)).toNat]? = some (tokA t2) := by
              rw [hw]; exact suf_get hr4
            have h0 : (0 : Int) ≤ IntKind.i64.wrap (((l.length - (t :: t2 :: u4).length : Nat) : Int) + 1) := by rw [hw]; omega
            have e2 : decide (IntKind.i64.wrap (((l.length - (t :: t2 :: u4).length : Nat) : Int) + 1) < (((l.map tokA).length : Nat) : Int)) = true := by
              have := suf_lt hr4
              rw [hw, hml]; exact decide_eq_true (by omega)
            by_cases k4 : t2.kind = 4
            · have e4 : ((t2.kind : Int) == 4) = true := by rw [k4]; rfl
              have e5 : (t2.text == [61]) = false := by
                cases hh : (t2.text == [61]) with
                | false => rfl
                | true => exact absurd (by unfold nameS; rw [k1]; show (true && (t2.kind == 4) && (t2.text == [61])) = true; rw [k4, hh]; rfl) c2
              refine pB [.k (.int .i64 (hdK (t :: t2 :: u4) : Nat)), .b true, .b true, .v (tokA t2), .b true, .v (tokA t2)] rfl ?_
              exact cont2 _ (.cons rfl (.cons rfl (.cons rfl (.cons (by show AV.bool (t2.text == [61]) = _; rw [e5]) (.cons (by show AV.bool (!(t2.text == [61])) = _; rw [e5]; rfl) (.nil _))))))
            · have e4 : ((t2.kind : Int) == 4) = false := beq_false_of_ne (by omega)
              refine pB [.k (.int .i64 (hdK (t :: t2 :: u4) : Nat)), .b true, .b true, .v (tokA t2), .b false] rfl ?_
              exact cont2 _ (.cons rfl (.cons rfl (.cons rfl (.cons rfl (.cons rfl (.nil _))))))
        · have e1 : (((hdK r3 : Nat) : Int) == 1) = false := beq_false_of_ne (by omega)
          refine pB [.k (.int .i64 (hdK r3 : Nat)), .b false, .b false, .b false] rfl ?_
          exact cont2 _ (.cons rfl (.cons rfl (.cons rfl (.cons rfl (.cons rfl (.nil _))))))
      case rest2 =>
        by_cases c3 : ns.length > 0
        · rw [if_pos c3] at hX
          refine pB [.b true, .b true] rfl ?_
          exact S_callE rfl rfl rfl (failT uA v l r3 e b d n 1 _ hr3 hl) rfl hX
        · rw [if_neg c3] at hX
          refine pB [.b true, .b false, .b false] rfl ?_
          exact cont ⟨0, [], ns, r3, 0, u⟩ _ ⟨hr3, by show ns.length + F1 ≤ F + 2; omega, hX⟩ (.cons rfl (.cons rfl (.cons rfl (.nil _))))
    case rest =>
      rintro ⟨_, _, ns2, r4, _, u2⟩ ⟨hr4, hns2, hX⟩
      have hr4 : r4 <:+ l := hr4
      have hns2 : ns2.length + F1 ≤ F + 2 := hns2
      have hX : X = (exprS F1 n r4).bind fun y r => callS F1 n (ks ++ [y]) ns2 r := hX
      show S cx _ B _ _ [(0, .ptr 0 v 0), (3, .ptr 1 0 0), (4, .ptr 2 0 0)] [psB v l r4 e b d n, callX w ks u2 ns2, exO, kidB w ks, namB u2 ns2]
      have hE := he F1 (by omega)
      cases hy : exprS F1 n r4 with
      | out => rw [hy] at hX; exact absurd hX hne
      | bad j w2 =>
        have hS := hE.tail v l e b d n r4 [callX w ks u2 ns2, exO, kidB w ks, namB u2 ns2] hr4 hl hn (by rw [hy]; nofun)
        rw [hy] at hX
        refine S_drawE 3 [] [] rfl rfl rfl rfl rfl rfl ?_ hS hy hX
        (repeat' with_reducible apply AllP_cons) <;> try exact aC
      | ok z r5 =>
        have hS := PE.ok (hE.tail v l e b d n r4 [callX w ks u2 ns2, exO, kidB w ks, namB u2 ns2] hr4 hl hn (by rw [hy]; nofun)) hy
        rw [hy] at hX
        have hX : X = callS F1 n (ks ++ [z]) ns2 r5 := hX
        have hr5 := ((allS F1).expr _ _ _ _ hy).trans hr4
        have hbx : 0 + ks.length * 5 = (exF ks).length := by rw [exF_len]; omega
        obtain ⟨yk, yn, yt, ys, ym⟩ := z
        refine pa [.d 3 5 [] (fun σ => psB v l r5 e b d n :: σ.tail) [exA (.mk yk yn yt ys ym)]] rfl ?_ ?_
        · (repeat' with_reducible apply AllP_cons) <;> try exact aC
          · exact ⟨_, hS, rfl⟩
          · show (ks.length + 1) * 80 ≤ 140737488355328
            omega
        refine S_round ⟨F1, ks ++ [.mk yk yn yt ys ym], ns2, r5, w + 1, u2⟩ (Nat.lt_succ_self _) ⟨by show F1 ≤ F + 1; omega, hr5, hX.symm, by show (ks ++ [_]).length + F1 ≤ F + 2; rw [List.length_append, List.length_singleton]; omega, hns2⟩ (.cons rfl (.cons rfl (.cons rfl (.nil _)))) ?_
        show _ = [psB v l r5 e b d n, callX (w + 1) (ks ++ [.mk yk yn yt ys ym]) u2 ns2, exO, kidB (w + 1) (ks ++ [.mk yk yn yt ys ym]), namB u2 ns2]
        unfold callX kidB
        rw [exF_snoc, List.length_append]; rfl
end Go.Proofs.YtmdegomejbpldaaGreatDoor
end
section
set_option linter.unusedVariables false
set_option linter.unusedSimpArgs false
set_option maxRecDepth 20000
namespace Go.Proofs.YtmdegomejbpldaaGreatDoor
open Go Go.Ab
structure AllC (F : Nat) : Prop where
  expr : Cn 33 exprS F
  e1 : Ccl 56 (fun F => levS F 0) F
  e11 : Ccl 58 (fun F => levS F 1) F
  not : Cn 59 (fun F => levS F 2) F
  sum : Cn 77 (fun F => levS F 3) F
  s1 : Ccl 84 (fun F => levS F 4) F
  unary : Cn 85 (fun F => levS F 5) F
  atom : Cn 92 atomS F
  list : Cn 100 listS F
  call : Cc F
theorem allC (F : Nat) : F ≤ 900000 → ∀ F', F' ≤ F → AllC F' := by
  induction F with
  | zero =>
    intro _ F' h
    obtain rfl : F' = 0 := by omega
    exact ⟨fun _ _ _ _ _ _ _ _ _ _ h => absurd rfl h, fun _ _ _ _ _ _ _ _ _ _ _ h => absurd rfl h, fun _ _ _ _ _ _ _ _ _ _ _ h => absurd rfl h, fun _ _ _ _ _ _ _ _ _ _ h => absurd rfl h, fun _ _ _ _ _ _ _ _ _ _ h => absurd rfl h,
      fun _ _ _ _ _ _ _ _ _ _ _ h => absurd rfl h, fun _ _ _ _ _ _ _ _ _ _ h => absurd rfl h, fun _ _ _ _ _ _ _ _ _ _ h => absurd rfl h, fun _ _ _ _ _ _ _ _ _ _ h => absurd rfl h, fun _ _ _ _ _ _ _ _ _ _ _ h => absurd rfl h⟩
  | succ F ih =>
    intro hF F' h
    rcases Nat.lt_or_ge F' (F + 1) with h' | h'
    · exact ih (by omega) F' (by omega)
    obtain rfl : F' = F + 1 := by omega
    have ih := ih (by omega)
    have hF : F ≤ 900000 := by omega
    have ihF := ih F (Nat.le_refl _)
    exact ⟨expr_ok F ihF.e1, expr1_ok F fun F' h => (ih F' h).e11, expr11_ok F fun F' h => (ih F' h).not, not_ok F ihF.not ihF.sum, sum_ok F fun F' h => (ih F' h).s1, sum1_ok F fun F' h => (ih F' h).unary,
      unary_ok F ihF.unary ihF.atom (fun F' h => (ih F' h).call) (fun F' h => (ih F' h).expr), atom_ok F (by omega) (fun F' h => (ih F' h).expr) ihF.list, list_ok F (by omega) (fun F' h => (ih F' h).expr), call_ok F hF (fun F' h => (ih F' h).expr)⟩
theorem exprT (F : Nat) (hF : F ≤ 900000) (v : Nat) (l : List Tok) (e b d n : Nat) (r : List Tok) (τ : Heap) (hr : r <:+ l) (hl : l.length ≤ 100000) (hn : n ≤ 30) (hne : exprS F n r ≠ .out) :
    CallOk cx 33 [.ptr 0 v 0] (psB v l r e b d n :: τ) (PE exA v l e b d n (exprS F n r) τ) :=
  (allC F hF F (Nat.le_refl _)).expr.tail v l e b d n r τ hr hl hn hne
end Go.Proofs.YtmdegomejbpldaaGreatDoor
end
section
set_option linter.unusedVariables false
set_option linter.unusedSimpArgs false
set_option maxRecDepth 20000
set_option maxHeartbeats 4000000
namespace Go.Proofs.YtmdegomejbpldaaGreatDoor
open Go Go.Ab
section
variable {N : Nat} {B : Bs} {k : List AI} {fr : Fr} {σ : Heap}
theorem S_callB {α β : Type} {A : α → AV} {A' : β → AV} {fn : Func} {all : Array Oper} {o : Oper} {L : List Oper} {K : List Nat} {f : FuncId} {args : List AV} {v : Nat} {l : List Tok} {e b d n b1 d1 n1 : Nat} {x : Pr α} {X : Pr β} {f0 : α → List Tok → Pr β} {τ : Heap}
    (hg : guardA all o K fr = some true) (hc : callA cx fr o.op = some (f, args)) (hd : dstOk N o.dst = true) (hcall : CallOk cx f args σ (PE A v l e b d n x τ)) (hX : X = x.bind f0) (hne : X ≠ .out)
    (hk : ∀ y u, x = .ok y u → X = f0 y u → S cx N B (.ops all L K :: k) (retQ cx fn (TR 1 (PE A' v l e b1 d1 n1 X []))) (setA o.dst (A y) fr) (psB v l u e b d n :: τ)) :
    S cx N B (.ops all (o :: L) K :: k) (retQ cx fn (TR 1 (PE A' v l e b1 d1 n1 X []))) fr σ := by
  cases hx : x with
  | out => rw [hx] at hX; exact absurd hX hne
  | bad j u => rw [hx] at hX; exact S_callE hg hc hd hcall hx hX
  | ok y u =>
    refine S_call hg hc hd (PE.ok hcall hx) (fun v s h => ?_) (fun w s h => by cases h.1)
    obtain ⟨h1, rfl⟩ := h
    cases h1
    exact hk y u hx (by rw [hX, hx]; rfl)
theorem S_callB2 {α β : Type} {A : α → AV} {A' : β → AV} {fn : Func} {all : Array Oper} {o : Oper} {L : List Oper} {K : List Nat} {f : FuncId} {args : List AV} {v : Nat} {l : List Tok} {e b d n b1 d1 n1 : Nat} {x : Pr α} {X : Pr β} {f0 : α → List Tok → Pr β} {y0 : Nat × Option Box} {τ : Heap} (hy : Yok y0)
    (hg : guardA all o K fr = some true) (hc : callA cx fr o.op = some (f, args)) (hd : dstOk N o.dst = true) (hcall : CallOk cx f args σ (PE A v l e b d n x (y0 :: τ))) (hX : X = x.bind f0) (hne : X ≠ .out)
    (hk : ∀ y u, x = .ok y u → X = f0 y u → S cx N B (.ops all L K :: k) (retQ cx fn (TR 2 (PE A' v l e b1 d1 n1 X [y0]))) (setA o.dst (A y) fr) (psB v l u e b d n :: y0 :: τ)) :
    S cx N B (.ops all (o :: L) K :: k) (retQ cx fn (TR 2 (PE A' v l e b1 d1 n1 X [y0]))) fr σ := by
  cases hx : x with
  | out => rw [hx] at hX; exact absurd hX hne
  | bad j u => rw [hx] at hX; exact S_callE2 hy hg hc hd hcall hx hX
  | ok y u =>
    refine S_call hg hc hd (PE.ok hcall hx) (fun v s h => ?_) (fun w s h => by cases h.1)
    obtain ⟨h1, rfl⟩ := h
    cases h1
    exact hk y u hx (by rw [hX, hx]; rfl)
end
theorem PE.finZ2 {α : Type} {A : α → AV} {v : Nat} {l r : List Tok} {e b d n : Nat} {X : Pr α} {x : α} {z : AV} {y : Nat × Option Box} {τ : Heap} (hy : Yok y) (hX : X = .ok x r) (hA : FzT 2 (psB v l r e b d n :: y :: τ) z (A x)) : TR 2 (PE A v l e b d n X [y]) (.ret z) (psB v l r e b d n :: y :: τ) := by
  subst hX
  exact ⟨2, Nat.le_refl _, psY_low _ _ _ _ _ _ _ hy _, A x, hA, rfl, rfl⟩
def stsA (l : List St) : AV := .sl true false 10 (stL l)
theorem stsA_free {st : Bool} (l : List St) : Free st (stsA l) := .sl (fun _ => rfl) (stL_free l)
def stF (l : List St) : List AV := (stL l).flatMap AV.cells
theorem stA_cells (x : St) : (stA x).cells.length = 10 := by
  obtain ⟨k, t, ns, x, b, e⟩ := x
  obtain ⟨_, _, _, _, _⟩ := x
  rfl
theorem stL_len (l : List St) : (stL l).length = l.length := by rw [stL_map]; simp
theorem stL_sz (l : List St) : ∀ x ∈ stL l, x.cells.length = 10 := by
  intro x hx; rw [stL_map] at hx; obtain ⟨y, _, rfl⟩ := List.mem_map.1 hx; exact stA_cells y
theorem stF_len (l : List St) : (stF l).length = l.length * 10 := by
  unfold stF
  induction l with
  | nil => rfl
  | cons x r ih => rw [stL, List.flatMap_cons, List.length_append, ih, stA_cells, List.length_cons]; omega
theorem stF_snoc (l : List St) (y : St) : stF (l ++ [y]) = stF l ++ (stA y).cells := by
  unfold stF; rw [stL_map, stL_map, List.map_append, List.flatMap_append]; simp
def stB (w : Nat) (l : List St) : Nat × Option Box := (w, some (.cells (stF l) ⟨false, none⟩))
theorem stFz {k : Nat} {σ : Heap} {id w : Nat} {l : List St} (hk : k ≤ id) (hb : σ[id]? = some (stB w l)) : FzT k σ (.ms id w 0 l.length 10 false) (stsA l) :=
  .msN hk (by unfold boxAt; rw [hb]; rfl) (stL_sz l) (stL_len l) (fun x hx => Low.free (stL_free (st := false) l x hx))
def Cs (f : FuncId) (x : Nat → Nat → Nat → List Tok → Pr St) (F : Nat) : Prop := ∀ (v : Nat) (l : List Tok) (e b d : Nat) (r : List Tok), r <:+ l → l.length ≤ 100000 → (∀ t ∈ l, t.text.length ≤ 6000) → b + F ≤ 2000000 → d + F ≤ 2000000 → x F b d r ≠ .out →
  CallOk cx f [.ptr 0 v 0] (psH v l r e b d 0) (PE stA v l e b d 0 (x F b d r) [])
def Cb (F : Nat) : Prop := ∀ (v : Nat) (l : List Tok) (e b d : Nat) (r : List Tok), r <:+ l → l.length ≤ 100000 → (∀ t ∈ l, t.text.length ≤ 6000) → b + F ≤ 2000000 → d + F ≤ 2000000 → blockS F b d r ≠ .out →
  CallOk cx 34 [.ptr 0 v 0] (psH v l r e b d 0) (PE stsA v l e b d 0 (blockS F b d r) [])
theorem Cs.tail {f : FuncId} {x : Nat → Nat → Nat → List Tok → Pr St} {F : Nat} (h : Cs f x F) (v : Nat) (l : List Tok) (e b d : Nat) (r : List Tok) (τ : Heap) (hr : r <:+ l) (hl : l.length ≤ 100000) (hT : ∀ t ∈ l, t.text.length ≤ 6000) (hb : b + F ≤ 2000000) (hd : d + F ≤ 2000000) (hne : x F b d r ≠ .out) :
    CallOk cx f [.ptr 0 v 0] (psB v l r e b d 0 :: τ) (PE stA v l e b d 0 (x F b d r) τ) :=
  PE.tail τ (h v l e b d r hr hl hT hb hd hne) hne (arg0_rn v [] (by simp)) stA_free
theorem Cb.tail {F : Nat} (h : Cb F) (v : Nat) (l : List Tok) (e b d : Nat) (r : List Tok) (τ : Heap) (hr : r <:+ l) (hl : l.length ≤ 100000) (hT : ∀ t ∈ l, t.text.length ≤ 6000) (hb : b + F ≤ 2000000) (hd : d + F ≤ 2000000) (hne : blockS F b d r ≠ .out) :
    CallOk cx 34 [.ptr 0 v 0] (psB v l r e b d 0 :: τ) (PE stsA v l e b d 0 (blockS F b d r) τ) :=
  PE.tail τ (h v l e b d r hr hl hT hb hd hne) hne (arg0_rn v [] (by simp)) stsA_free
def atEnd (top : Bool) (r : List Tok) : Bool := if top then r.isEmpty else hdK r == 8
structure StsSt where
  F : Nat
  l : List St
  r : List Tok
  w : Nat
theorem stmts_ok (F : Nat) (hF : F ≤ 900000) (top : Bool) (g : FuncId) (hs : ∀ F', F' ≤ F → Cs 20 stmtS F') (q v : Nat) (l : List Tok) (e b d : Nat) (r : List Tok) (hr : r <:+ l) (hl : l.length ≤ 100000) (hT : ∀ t ∈ l, t.text.length ≤ 6000) (hb : b + F ≤ 2000000) (hd : d + F ≤ 2000000)
    (hm : ∀ r τ, r <:+ l → CallOk cx g [.ptr 1 q 0] (psB v l r e b d 0 :: qB q v :: τ) (fun o σ => o = .ret (.bool (!atEnd top r)) ∧ σ = psB v l r e b d 0 :: qB q v :: τ)) (hne : stmtsS F top b d [] r ≠ .out) :
    CallOk cx 12 [.ptr 0 v 0, .func (.func g) [] [.ptr 1 q 0]] [psB v l r e b d 0, qB q v] (PE stsA v l e b d 0 (stmtsS F top b d [] r) [qB q v]) :=
  callOk_introT (fun a w => Tryz.call12 a w) Tryz.func12 rfl Tryz.ntmps12 rfl fun B => by
    obtain ⟨X, hX⟩ : ∃ X, X = stmtsS F top b d [] r := ⟨_, rfl⟩
    rw [← hX] at hne ⊢
    refine pB [] rfl ?_
    refine S_ghostF (t := 5) 10 ⟨false, none⟩ rfl rfl ⟨_, _, .inl rfl⟩ ?_
    refine S_while (α := StsSt) (fun p => [(0, .ptr 0 v 0), (1, .func (.func g) [] [.ptr 1 q 0]), (5, .ms 2 p.w 0 p.l.length 10 false)]) (fun p => [psB v l p.r e b d 0, qB q v, stB p.w p.l])
      (fun p => p.F ≤ F ∧ p.r <:+ l ∧ stmtsS p.F top b d p.l p.r = X ∧ p.l.length + p.F ≤ F) (fun p => p.F) ⟨F, [], r, 0⟩ ⟨Nat.le_refl _, hr, hX.symm, by show 0 + F ≤ F; omega⟩ (.cons rfl (.cons rfl (.cons rfl (.nil _)))) rfl ?_
    clear hX hr
    rintro ⟨F1, ls, r1, w⟩ ⟨hF1, hr1, hX, hls⟩
    have hF1 : F1 ≤ F := hF1
    have hr1 : r1 <:+ l := hr1
    have hX : X = stmtsS F1 top b d ls r1 := hX.symm
    have hls : ls.length + F1 ≤ F := hls
    show S cx _ B _ _ [(0, .ptr 0 v 0), (1, .func (.func g) [] [.ptr 1 q 0]), (5, .ms 2 w 0 ls.length 10 false)] [psB v l r1 e b d 0, qB q v, stB w ls]
    cases F1 with
    | zero => exact absurd hX hne
    | succ F1 =>
    have hX : X = if atEnd top r1 then .ok ls r1 else (stmtS F1 b d r1).bind fun s r => stmtsS F1 top b d (ls ++ [s]) r := hX
    have hm := hm r1 [stB w ls] hr1
    by_cases c : atEnd top r1 = true
    · rw [if_pos c] at hX
      rw [c] at hm
      refine pB [.k (.bool false), .b false] rfl ?_
      refine S_ret ⟨_, _, rfl, trivial, ?_⟩
      exact PE.finZ2 (qB_ok q v) hX (stFz (by decide) rfl)
    · rw [if_neg c] at hX
      rw [(Bool.not_eq_true _).mp c] at hm
      refine pB [.k (.bool true), .b true] rfl ?_
      have hne2 : stmtS F1 b d r1 ≠ .out := fun h => by rw [h] at hX; exact hne hX
      refine S_callB2 (qB_ok q v) rfl rfl rfl ((hs F1 (by omega)).tail v l e b d r1 [qB q v, stB w ls] hr1 hl hT (by omega) (by omega) hne2) hX hne fun s u hx hX => ?_
      have hu := ((allW F1).stmt _ _ _ _ _ hx).trans hr1
      have hbx : 0 + ls.length * 10 = (stF ls).length := by rw [stF_len]; omega
      obtain ⟨sk, st, sn, ⟨xk, xn, xt, xs, xm⟩, sb, se⟩ := s
      refine pa [] rfl ?_ ?_
      · (repeat' with_reducible apply AllP_cons) <;> try exact aC
        show (ls.length + 1) * 176 ≤ 140737488355328
        omega
      refine S_round ⟨F1, ls ++ [.mk sk st sn (.mk xk xn xt xs xm) sb se], u, w + 1⟩ (Nat.lt_succ_self _) ⟨by show F1 ≤ F; omega, hu, hX.symm, by show (ls ++ [_]).length + F1 ≤ F; rw [List.length_append, List.length_singleton]; omega⟩ ?_ ?_
      · refine .cons rfl (.cons rfl (.cons ?_ (.nil _)))
        show AV.ms 2 (w + 1) 0 (ls.length + 1) 10 false = .ms 2 (w + 1) 0 (ls ++ [_]).length 10 false
        rw [List.length_append]; rfl
      · show _ = [psB v l u e b d 0, qB q v, stB (w + 1) (ls ++ [.mk sk st sn (.mk xk xn xt xs xm) sb se])]
        unfold stB
        rw [stF_snoc]; rfl
end Go.Proofs.YtmdegomejbpldaaGreatDoor
end
section
set_option linter.unusedVariables false
set_option linter.unusedSimpArgs false
set_option maxRecDepth 20000
set_option maxHeartbeats 4000000
namespace Go.Proofs.YtmdegomejbpldaaGreatDoor
open Go Go.Ab
section
variable {cx : Cx} {n : Nat} {B : Bs} {k : List AI} {Q : Post} {fr : Fr} {σ : Heap}
theorem S_shareU {ι : Type} {k' : List AI} {all : Array Oper} {l : List Oper} {K : List Nat} (F : Fr) (σ' : ι → Heap) (I : ι → Prop) (hm : (∀ i fr, I i → Weak fr F → S cx n B (.ops all l K :: k') Q fr (σ' i)) → S cx n B k Q fr σ) (hk : ∀ i, I i → S cx n B (.ops all l K :: k') Q F (σ' i)) : S cx n B k Q fr σ :=
  hm fun i _ hi hw => S_ops_weak hw (hk i hi)
end
theorem bne_nat (n m : Nat) : ((n : Int) != (m : Int)) = !(n == m) := by
  rw [Bool.eq_iff_iff, bne_iff_ne, Bool.not_eq_true', beq_eq_false_iff_ne]
  omega
theorem block1_ok (q v : Nat) (l r : List Tok) (e b d n : Nat) (τ : Heap) (hr : r <:+ l) (hl : l.length ≤ 100000) :
    CallOk cx 60 [.ptr 1 q 0] (psB v l r e b d n :: qB q v :: τ) (fun o σ => o = .ret (.bool (!atEnd false r)) ∧ σ = psB v l r e b d n :: qB q v :: τ) :=
  callOk_intro (fun a w => Tryz.call60 a w) Tryz.func60 rfl Tryz.ntmps60 rfl fun B => by
    have hk := kindT v l r e b d n (qB q v :: τ) hr hl
    refine pB [.k (.int .i64 (hdK r : Nat))] rfl ?_
    refine S_ret ⟨_, _, rfl, trivial, ?_, rfl⟩
    show Out.ret (.bool (((hdK r : Nat) : Int) != ((8 : Nat) : Int))) = _
    rw [bne_nat]; rfl
theorem block_ok (F : Nat) (hF : F ≤ 900000) (hs : ∀ F', F' ≤ F → Cs 20 stmtS F') : Cb (F + 1) := fun v l e b d r hr hl hT hb hd hne =>
  callOk_introT (fun a w => Tryz.call34 a w) Tryz.func34 rfl Tryz.ntmps34 rfl fun B => by
    obtain ⟨X, hX⟩ : ∃ X, X = blockS (F + 1) b d r := ⟨_, rfl⟩
    rw [← hX] at hne ⊢
    rw [blockS] at hX
    refine pB [] rfl ?_
    refine S_callB rfl rfl rfl (mustT v l r e b d 0 [58] [qB 0 v] hr hl) hX hne fun _ r2 hx hX => ?_
    have hr2 := (mustS_s _ _ _ _ hx).trans hr
    clear hx
    refine pB [] rfl ?_
    refine S_callB rfl rfl rfl (takeT v l r2 e b d 0 6 [qB 0 v] hr2 hl (by decide)) hX hne fun _ r3 hx hX => ?_
    have hr3 := (takeS_s _ _ _ _ hx).trans hr2
    clear hx
    refine pB [] rfl ?_
    refine S_callB rfl rfl rfl (takeT v l r3 e b d 0 7 [qB 0 v] hr3 hl (by decide)) hX hne fun _ r4 hx hX => ?_
    have hr4 := (takeS_s _ _ _ _ hx).trans hr3
    clear hx
    have hw : IntKind.i64.wrap ((b : Nat) + 1) = ((b + 1 : Nat) : Int) := by rw [IntWalk.i64_in _ ⟨by omega, by omega⟩]; omega
    have hw1 : IntKind.i64.wrap (((b + 1 : Nat) : Int) - 1) = (b : Int) := by rw [IntWalk.i64_in _ ⟨by omega, by omega⟩]; omega
    refine pB [] rfl ?_
    refine S_heap (psB v l r4 e (b + 1) d 0 :: [qB 0 v]) ?_ ?_
    · show psI v l ((l.length - r4.length : Nat) : Int) e (IntKind.i64.wrap ((b : Nat) + 1)) d (0 : Nat) :: _ = _
      rw [hw]; rfl
    have hne2 : stmtsS F false (b + 1) d [] r4 ≠ .out := fun h => by rw [h] at hX; exact hne hX
    refine S_callB (b := b + 1) rfl rfl rfl (stmts_ok F hF false _ hs 0 v l e (b + 1) d r4 hr4 hl hT (by omega) (by omega) (fun r τ hr => block1_ok 0 v l r e (b + 1) d 0 τ hr hl) hne2) hX hne fun ls r5 hx hX => ?_
    have hr5 := ((allW F).stmts _ _ _ _ _ _ _ hx).trans hr4
    clear hx
    refine pB [] rfl ?_
    refine S_heap (psB v l r5 e b d 0 :: [qB 0 v]) ?_ ?_
    · show psI v l ((l.length - r5.length : Nat) : Int) e (IntKind.i64.wrap (((b + 1 : Nat) : Int) - 1)) d (0 : Nat) :: _ = _
      rw [hw1]; rfl
    refine S_callB rfl rfl rfl (takeT v l r5 e b d 0 8 [qB 0 v] hr5 hl (by decide)) hX hne fun _ r6 hx hX => ?_
    refine pB [] rfl ?_
    refine S_ret ⟨_, _, rfl, trivial, ?_⟩
    exact PE.fin hX (stsA_free _)
def stO2 : Nat × Option Box := (0, some (.cells [.int .i64 0, .str [], .nils, .int .i64 0, .int .i64 0, .str [], .nils, .nils, .nils, .nils] ⟨false, some 38⟩))
def stX (kd : Nat) (tx : List UInt8) (w : Nat) (ns : List (List UInt8)) (bd : AV) : Nat × Option Box := (0, some (.cells [.int .i64 (kd : Nat), .str tx, .ms 3 w 0 ns.length 1 false, .int .i64 0, .int .i64 0, .str [], .nils, .nils, bd, .nils] ⟨false, some 38⟩))
theorem stFz10 {k : Nat} {σ : Heap} {kd xk xn : Nat} {t xt : List UInt8} {ns xm : List (List UInt8)} {xs : List Ex} {sb se : List St} {a1 a2 a3 a4 a5 : AV} (h1 : FzT k σ a1 (.sl true false 1 (texts ns))) (h2 : FzT k σ a2 (.sl true false 5 (exL xs))) (h3 : FzT k σ a3 (.sl true false 1 (texts xm))) (h4 : FzT k σ a4 (stsA sb)) (h5 : FzT k σ a5 (stsA se)) :
    FzT k σ (.agg [.int .i64 (kd : Nat), .str t, a1, .int .i64 (xk : Nat), .int .i64 (xn : Nat), .str xt, a2, a3, a4, a5]) (stA (.mk kd t ns (.mk xk xn xt xs xm) sb se)) := by
  refine .agg rfl (fun i h h' => ?_)
  match i, h with
  | 0, _ => exact .low .int
  | 1, _ => exact .low .str
  | 2, _ => exact h1
  | 3, _ => exact .low .int
  | 4, _ => exact .low .int
  | 5, _ => exact .low .str
  | 6, _ => exact h2
  | 7, _ => exact h3
  | 8, _ => exact h4
  | 9, _ => exact h5
theorem lowTx {k : Nat} {σ : Heap} (ns : List (List UInt8)) : FzT k σ (.sl true false 1 (texts ns)) (.sl true false 1 (texts ns)) := .low (Low.free (st := true) (.sl (fun _ => rfl) (textsF ns)))
theorem lowEx {k : Nat} {σ : Heap} (l : List Ex) : FzT k σ (.sl true false 5 (exL l)) (.sl true false 5 (exL l)) := .low (Low.free (st := true) (.sl (fun _ => rfl) (exL_free l)))
theorem lowSt {k : Nat} {σ : Heap} (l : List St) : FzT k σ (stsA l) (stsA l) := .low (Low.free (st := true) (stsA_free l))
end Go.Proofs.YtmdegomejbpldaaGreatDoor
end
section
set_option linter.unusedVariables false
set_option linter.unusedSimpArgs false
set_option maxRecDepth 20000
set_option maxHeartbeats 4000000
namespace Go.Proofs.YtmdegomejbpldaaGreatDoor
open Go Go.Ab
structure NamSt where
  F : Nat
  ns : List (List UInt8)
  r : List Tok
  w : Nat
  m : Nat
theorem Pr.assoc {α β γ : Type} (x : Pr α) (f : α → List Tok → Pr β) (g : β → List Tok → Pr γ) : (x.bind f).bind g = x.bind fun y r => (f y r).bind g := by cases x <;> rfl
def flB (m e p : Nat) : Nat × Option Box := (m, some (.cells [.int .i64 (e : Nat), .int .i64 (p : Nat)] ⟨false, some 25⟩))
theorem nam_snoc (ns : List (List UInt8)) (t : List UInt8) : texts (ns ++ [t]) = texts ns ++ [.str t] := by simp [texts]
theorem load_ok (F : Nat) (hF : F ≤ 900000) (v : Nat) (l : List Tok) (e b d : Nat) (r : List Tok) (hr : r <:+ l) (hl : l.length ≤ 100000) (hT : ∀ t ∈ l, t.text.length ≤ 6000) (hb : b ≤ 2000000) (hw : isS wLoad r = true) (hne : loadS F b r ≠ .out) :
    CallOk cx 61 [.ptr 0 v 0] (psH v l r e b d 0) (PE stA v l e b d 0 (loadS F b r) []) :=
  callOk_introT (fun a w => Tryz.call61 a w) Tryz.func61 rfl Tryz.ntmps61 rfl fun B => by
    obtain ⟨X, hX⟩ : ∃ X, X = loadS F b r := ⟨_, rfl⟩
    rw [← hX] at hne ⊢
    unfold loadS at hX
    by_cases c1 : b > 0
    · rw [if_pos c1] at hX
      refine pB [.b true] rfl ?_
      exact S_callE rfl rfl rfl (failT uA v l r e b d 0 4 _ hr hl) rfl hX
    rw [if_neg c1] at hX
    have hwr := suf_nextI hr hl hw
    have hr1 := isS_suf hr
    refine pB [.b false] rfl ?_
    refine S_heap (psB v l r.tail e b d 0 :: [stO2]) ?_ ?_
    · show psI v l (IntKind.i64.wrap (((l.length - r.length : Nat) : Int) + 1)) e b d (0 : Nat) :: _ = _
      rw [hwr]; rfl
    refine S_callB rfl rfl rfl (mustT v l r.tail e b d 0 [40] [stO2] hr1 hl) hX hne fun _ r2 hx hX => ?_
    have hr2 := (mustS_s _ _ _ _ hx).trans hr1
    clear hx hwr hr1 hr
    refine pB [] rfl ?_
    refine S_callB rfl rfl rfl (takeT v l r2 e b d 0 3 [stO2] hr2 hl (by decide)) hX hne fun tx r3 hx hX => ?_
    have hr3 := (takeS_s _ _ _ _ hx).trans hr2
    clear hx hr2
    refine pB [] rfl ?_
    refine S_ghost (id := 2) (j := 2) 1 ⟨false, none⟩ rfl rfl rfl (Nat.ne_of_lt (lble rfl)) ⟨.skip, _, .inr ⟨_, _, _, rfl⟩⟩ ?_
    refine S_heap [psB v l r3 e b d 0, stO2, stX 4 tx.text 0 [] .nils, namB 0 []] rfl ?_
    refine S_callB rfl rfl rfl (mustT v l r3 e b d 0 [44] [stO2, stX 4 tx.text 0 [] .nils, namB 0 []] hr3 hl) hX hne fun _ r4 hx hX => ?_
    have hr4 := (mustS_s _ _ _ _ hx).trans hr3
    clear hx hr3
    refine pB [] rfl ?_
    refine S_dead ?_ ⟨_, _, .inl rfl⟩
    refine S_while (α := NamSt) (fun q => [(0, .ptr 0 v 0), (2, .ptr 1 0 0), (3, .ptr 2 0 0)]) (fun q => [psB v l q.r e b d 0, stO2, stX 4 tx.text q.w q.ns .nils, namB q.w q.ns, (q.m, none)])
      (fun q => q.F ≤ F ∧ q.r <:+ l ∧ (namesS q.F q.ns q.r).bind (fun ns r => (mustS [41] r).bind fun _ r => .ok (.mk 4 tx.text ns .zero [] []) r) = X ∧ q.ns.length + q.F ≤ F) (fun q => q.F) ⟨F, [], r4, 0, 0⟩ ⟨Nat.le_refl _, hr4, hX.symm, by show 0 + F ≤ F; omega⟩ (.cons rfl (.cons rfl (.cons rfl (.nil _)))) rfl ?_
    clear hX hr4
    rintro ⟨F1, ns, r, w, m⟩ ⟨hF1, hr, hX, hns⟩
    have hF1 : F1 ≤ F := hF1
    have hr : r <:+ l := hr
    have hX : X = (namesS F1 ns r).bind (fun ns r => (mustS [41] r).bind fun _ r => .ok (.mk 4 tx.text ns .zero [] []) r) := hX.symm
    have hns : ns.length + F1 ≤ F := hns
    show S cx _ B _ _ [(0, .ptr 0 v 0), (2, .ptr 1 0 0), (3, .ptr 2 0 0)] [psB v l r e b d 0, stO2, stX 4 tx.text w ns .nils, namB w ns, (m, none)]
    cases F1 with
    | zero => exact absurd hX hne
    | succ F1 =>
    rw [namesS] at hX
    have hk := kindT v l r e b d 0 [stO2, stX 4 tx.text w ns .nils, namB w ns, (m, none)] hr hl
    refine' S_shareG (ι := Nat) [(0, .ptr 0 v 0), (2, .ptr 1 0 0), (3, .ptr 2 0 0)] (fun m => [psB v l r e b d 0, stO2, stX 4 tx.text w ns .nils, namB w ns, (m, none)]) (fun _ => (hdK r == 3 && !isNm (hdT r)) = false) (fun cont => ?main) ?rest
    case main =>
      by_cases k3 : ¬ hdK r = 3
      · have e3 : (((hdK r : Nat) : Int) == 3) = false := beq_false_of_ne (by omega)
        refine pB [.k (.int .i64 (hdK r : Nat)), .b false] rfl ?_
        exact cont m _ (by rw [beq_false_of_ne k3]; rfl) (.cons rfl (.cons rfl (.cons rfl (.nil _))))
      · have k3 : hdK r = 3 := Decidable.not_not.1 k3
        obtain ⟨t, u, rfl⟩ : ∃ t u, r = t :: u := by
          cases r with
          | nil => cases k3
          | cons t u => exact ⟨t, u, rfl⟩
        have e3 : (((hdK (t :: u) : Nat) : Int) == 3) = true := by rw [k3]; rfl
        have hg := suf_get hr
        have ht := suf_lt hr
        have hml : (l.map tokA).length = l.length := by simp
        have htl : t.text.length ≤ 6000 := hT t (hr.subset (List.mem_cons_self ..))
        obtain ⟨tl, te, tp, hsp⟩ : ∃ tl te tp, splitS t.text = (tl, (te, tp)) := ⟨_, _, _, rfl⟩
        have hSp : Calc cx 10 [.str t.text] (.tup [.sl true false 4 (tl.map tokA), .agg [.int .i64 (te : Nat), .int .i64 (tp : Nat)]]) := by
          have := Split_ok t.text; rw [hsp] at this; exact this
        refine pB [.k (.int .i64 (hdK (t :: u) : Nat)), .b true] rfl ?_
        refine S_drawCN [psB v l (t :: u) e b d 0, stO2, stX 4 tx.text w ns .nils, namB w ns, flB (m + 1) 0 0] 15 17 [] [tokA t, .tup [.sl true false 4 (tl.map tokA), .agg [.int .i64 (te : Nat), .int .i64 (tp : Nat)]], .ptr 4 (m + 1) 0] rfl rfl rfl rfl rfl ?_ ?_
        · (repeat' with_reducible apply AllP_cons) <;> try exact aC
          · exact ⟨_, hSp, .cons (.refl .str) (.nil _)⟩
          · exact ⟨_, hSp, .cons (.refl .str) (.nil _)⟩
        by_cases nm : isNm t.text = true
        · have := splitS_name nm htl
          rw [hsp] at this
          simp only [Prod.mk.injEq] at this
          obtain ⟨rfl, rfl, rfl⟩ := this
          refine pa [.b false, .b false, .v (tokA ⟨1, t.text, 0, 0⟩), .b false, .v (tokA ⟨1, t.text, 0, 0⟩), .v (tokA t), .b false] rfl ?_ ?_
          · (repeat' with_reducible apply AllP_cons) <;> try exact aC
            show (!(t.text == t.text)) = false
            simp
          refine S_drop (id := 4) rfl ?_ ⟨_, _, .inl rfl⟩
          refine S_heap [psB v l (t :: u) e b d 0, stO2, stX 4 tx.text w ns .nils, namB w ns, (m + 1, none)] rfl ?_
          refine cont (m + 1) _ ?_ ?_
          · show (hdK (t :: u) == 3 && !isNm t.text) = false
            rw [nm]; simp
          · exact .cons rfl (.cons rfl (.cons rfl (.nil _)))
        · have hX : X = .bad 1 (t :: u) := by
            rw [hX, if_pos (by show (hdK (t :: u) == 3 && !isNm t.text) = true; rw [k3, (Bool.not_eq_true _).mp nm]; rfl)]; rfl
          by_cases z : te = 0
          · subst z
            cases tl with
            | nil =>
              refine pB [.b false, .b true, .b true, .b true] rfl ?_
              exact S_callE rfl rfl rfl (failT uA v l _ e b d 0 1 _ hr hl) rfl hX
            | cons t0 tu =>
              by_cases z1 : t0.kind = 1
              · have z2 : t0.text ≠ t.text := fun h => nm (name_of (by rw [hsp]) z1 h)
                have e1 : ((t0.kind : Int) != 1) = false := by rw [z1]; rfl
                have e2 : (!(t0.text == t.text)) = true := by rw [beq_false_of_ne z2]; rfl
                refine pB [.b false, .b false, .v (tokA t0), .b false, .v (tokA t0), .v (tokA t), .b true] rfl ?_
                exact S_callE rfl rfl rfl (failT uA v l _ e b d 0 1 _ hr hl) rfl hX
              · have e1 : ((t0.kind : Int) != 1) = true := bne_iff_ne.2 (by omega)
                refine pB [.b false, .b false, .v (tokA t0), .b true, .b true] rfl ?_
                exact S_callE rfl rfl rfl (failT uA v l _ e b d 0 1 _ hr hl) rfl hX
          · have e1 : ((te : Int) != 0) = true := bne_iff_ne.2 (by omega)
            refine pB [.b true, .b true, .b true, .b true] rfl ?_
            exact S_callE rfl rfl rfl (failT uA v l _ e b d 0 1 _ hr hl) rfl hX
    case rest =>
      intro m hI
      rw [if_neg (by rw [hI]; decide), Pr.assoc] at hX
      clear hk hI
      show S cx _ B _ _ [(0, .ptr 0 v 0), (2, .ptr 1 0 0), (3, .ptr 2 0 0)] [psB v l r e b d 0, stO2, stX 4 tx.text w ns .nils, namB w ns, (m, none)]
      have hTk := takeT v l r e b d 0 3 [stO2, stX 4 tx.text w ns .nils, namB w ns, (m, none)] hr hl (by decide)
      cases hx : takeS 3 r with
      | out => rw [hx] at hX; exact absurd hX hne
      | bad j u =>
        rw [hx] at hX
        refine S_drawE 3 [] [] rfl rfl rfl rfl rfl rfl ?_ hTk hx hX
        (repeat' with_reducible apply AllP_cons) <;> try exact aC
      | ok t r5 =>
        have hTk := PE.ok hTk hx
        rw [hx] at hX
        have hX : X = (if isS [44] r5 then namesS F1 (ns ++ [t.text]) r5.tail else .ok (ns ++ [t.text]) r5).bind (fun ns r => (mustS [41] r).bind fun _ r => .ok (.mk 4 tx.text ns .zero [] []) r) := hX
        have hr5 := (takeS_s _ _ _ _ hx).trans hr
        have hbx : 0 + ns.length * 1 = (texts ns).length := by rw [texts_len]; omega
        refine pa [.d 3 6 [] (fun σ => psB v l r5 e b d 0 :: σ.tail) [tokA t]] rfl ?_ ?_
        · (repeat' with_reducible apply AllP_cons) <;> try exact aC
          · exact ⟨_, hTk, rfl⟩
          · show (ns.length + 1) * 16 ≤ 140737488355328
            omega
        refine S_heap [psB v l r5 e b d 0, stO2, stX 4 tx.text (w + 1) (ns ++ [t.text]) .nils, namB (w + 1) (ns ++ [t.text]), (m, none)] ?_ ?_
        · show [psB v l r5 e b d 0, stO2, (0, some (.cells [.int .i64 4, .str tx.text, .ms 3 (w + 1) 0 (ns.length + 1) 1 false, .int .i64 0, .int .i64 0, .str [], .nils, .nils, .nils, .nils] ⟨false, some 38⟩)), (w + 1, some (.cells (texts ns ++ [.str t.text]) ⟨false, none⟩)), (m, none)] = _
          unfold stX namB
          rw [List.length_append, nam_snoc]; rfl
        by_cases c6 : isS [44] r5 = true
        · rw [if_pos c6] at hX
          have hm := may_yes v l r5 e b d 0 [44] [stO2, stX 4 tx.text (w + 1) (ns ++ [t.text]) .nils, namB (w + 1) (ns ++ [t.text]), (m, none)] hr5 hl c6
          refine pB [.f (.bool true) (fun σ => psB v l r5.tail e b d 0 :: σ.tail), .b false] rfl ?_
          exact S_round ⟨F1, ns ++ [t.text], r5.tail, w + 1, m⟩ (Nat.lt_succ_self _) ⟨by show F1 ≤ F; omega, isS_suf hr5, hX.symm, by show (ns ++ [_]).length + F1 ≤ F; rw [List.length_append, List.length_singleton]; omega⟩ (.cons rfl (.cons rfl (.cons rfl (.nil _)))) rfl
        · rw [if_neg c6] at hX
          have hm := may_no v l r5 e b d 0 [44] [stO2, stX 4 tx.text (w + 1) (ns ++ [t.text]) .nils, namB (w + 1) (ns ++ [t.text]), (m, none)] hr5 hl c6
          refine pB [.k (.bool false), .b true] rfl ?_
          refine S_callB rfl rfl rfl (mustT v l r5 e b d 0 [41] _ hr5 hl) hX hne fun _ r6 hx hX => ?_
          refine pB [] rfl ?_
          refine S_ret ⟨_, _, rfl, ⟨rfl, trivial⟩, ?_⟩
          exact PE.finZ hX (stFz10 (namFz (by decide) rfl) .nils .nils .nils .nils)
end Go.Proofs.YtmdegomejbpldaaGreatDoor
end
section
set_option linter.unusedVariables false
set_option linter.unusedSimpArgs false
set_option maxRecDepth 20000
set_option maxHeartbeats 4000000
namespace Go.Proofs.YtmdegomejbpldaaGreatDoor
open Go Go.Ab
theorem Pr.bind_ok {α : Type} (x : Pr α) : x = x.bind fun y r => .ok y r := by cases x <;> rfl
theorem small_ok (F : Nat) (hF : F ≤ 900000) (v : Nat) (l : List Tok) (e b d : Nat) (r : List Tok) (hr : r <:+ l) (hl : l.length ≤ 100000) (hT : ∀ t ∈ l, t.text.length ≤ 6000) (hb : b ≤ 2000000) (hne : smallS F b d r ≠ .out) :
    CallOk cx 37 [.ptr 0 v 0] (psH v l r e b d 0) (PE stA v l e b d 0 (smallS F b d r) []) :=
  callOk_introT (fun a w => Tryz.call37 a w) Tryz.func37 rfl Tryz.ntmps37 rfl fun B => by
    obtain ⟨X, hX⟩ : ∃ X, X = smallS F b d r := ⟨_, rfl⟩
    rw [← hX] at hne ⊢
    unfold smallS at hX
    by_cases c1 : isS wPass r = true
    · rw [if_pos c1] at hX
      have hm := may_yes v l r e b d 0 wPass [stO2] hr hl c1
      refine pB [.f (.bool true) (fun σ => psB v l r.tail e b d 0 :: σ.tail), .b true] rfl ?_
      refine S_ret ⟨_, _, rfl, ⟨rfl, trivial⟩, ?_⟩
      exact PE.finZ hX (stFz10 .nils .nils .nils .nils .nils)
    rw [if_neg c1] at hX
    have hm1 := may_no v l r e b d 0 wPass [stO2] hr hl c1
    by_cases c2 : isS wReturn r = true
    · rw [if_pos c2] at hX
      have hi := isT v l r e b d 0 wReturn [stO2] hr hl
      rw [c2] at hi
      by_cases d0 : d = 0
      · rw [if_pos d0] at hX
        have e0 : ((d : Int) == 0) = true := by rw [d0]; rfl
        refine pB [.k (.bool false), .b false, .k (.bool true), .b true, .b true] rfl ?_
        exact S_callE rfl rfl rfl (failT uA v l r e b d 0 4 _ hr hl) rfl hX
      rw [if_neg d0] at hX
      have e0 : ((d : Int) == 0) = false := beq_false_of_ne (by omega)
      have hwr := suf_nextI hr hl c2
      have hr1 := isS_suf hr
      refine pB [.k (.bool false), .b false, .k (.bool true), .b true, .b false] rfl ?_
      refine S_heap [psB v l r.tail e b d 0, stO2, (0, some (.cells [.int .i64 2, .str [], .nils, .int .i64 1, .int .i64 0, .str [], .nils, .nils, .nils, .nils] ⟨false, some 38⟩))] ?_ ?_
      · show psI v l (IntKind.i64.wrap (((l.length - r.length : Nat) : Int) + 1)) e b d (0 : Nat) :: _ = _
        rw [hwr]; rfl
      have hk := kindT v l r.tail e b d 0 [stO2, (0, some (.cells [.int .i64 2, .str [], .nils, .int .i64 1, .int .i64 0, .str [], .nils, .nils, .nils, .nils] ⟨false, some 38⟩))] hr1 hl
      by_cases k6 : hdK r.tail = 6
      · have e6 : (((hdK r.tail : Nat) : Int) != 6) = false := by rw [k6]; rfl
        rw [if_neg (fun h => h k6)] at hX
        refine pB [.k (.int .i64 (hdK r.tail : Nat)), .b false] rfl ?_
        refine S_ret ⟨_, _, rfl, ⟨rfl, trivial⟩, ?_⟩
        exact PE.finZ hX (stFz10 .nils .nils .nils .nils .nils)
      · have e6 : (((hdK r.tail : Nat) : Int) != 6) = true := bne_iff_ne.2 (by omega)
        rw [if_pos k6] at hX
        refine pB [.k (.int .i64 (hdK r.tail : Nat)), .b true] rfl ?_
        refine S_callB rfl rfl rfl (exprT F hF v l e b d 0 r.tail _ hr1 hl (by omega) (fun h => by rw [h] at hX; exact hne hX)) hX hne fun x r2 hx hX => ?_
        obtain ⟨xk, xn, xt, xs, xm⟩ := x
        refine pB [] rfl ?_
        refine S_ret ⟨_, _, rfl, ⟨rfl, trivial⟩, ?_⟩
        exact PE.finZ hX (stFz10 .nils (lowEx _) (lowTx _) .nils .nils)
    rw [if_neg c2] at hX
    have hi1 := isT v l r e b d 0 wReturn [stO2] hr hl
    rw [(Bool.not_eq_true _).mp c2] at hi1
    by_cases c3 : isS wLoad r = true
    · rw [if_pos c3] at hX
      have hi := isT v l r e b d 0 wLoad [stO2] hr hl
      rw [c3] at hi
      refine pB [.k (.bool false), .b false, .k (.bool false), .b false, .k (.bool true), .b true] rfl ?_
      have hne2 : loadS F b r ≠ .out := fun h => by rw [h] at hX; exact hne hX
      have hL := PE.tail [stO2] (load_ok F hF v l e b d r hr hl hT hb c3 hne2) hne2 (arg0_rn v [] (by simp)) stA_free
      refine S_callB rfl rfl rfl hL (hX.trans (Pr.bind_ok _)) hne fun x r2 hx hX => ?_
      obtain ⟨sk, st, sn, ⟨xk, xn, xt, xs, xm⟩, sb, se⟩ := x
      refine pB [] rfl ?_
      refine S_ret ⟨_, _, rfl, ⟨rfl, trivial⟩, ?_⟩
      exact PE.finZ hX (stFz10 (lowTx _) (lowEx _) (lowTx _) (lowSt _) (lowSt _))
    rw [if_neg c3] at hX
    have hi2 := isT v l r e b d 0 wLoad [stO2] hr hl
    rw [(Bool.not_eq_true _).mp c3] at hi2
    have hk := kindT v l r e b d 0 [stO2] hr hl
    have hml : (l.map tokA).length = l.length := by simp
    by_cases c4 : ¬ nameS r = true
    · rw [if_neg c4] at hX
      refine' S_shareR [(0, .ptr 0 v 0), (2, .ptr 1 0 0), (110, .ptr 0 v 0)] [psB v l r e b d 0, stO2] (fun cont => ?main) ?rest
      case main =>
        by_cases k1 : ¬ hdK r = 1
        · have e1 : (((hdK r : Nat) : Int) == 1) = false := beq_false_of_ne (by omega)
          refine pB [.k (.bool false), .b false, .k (.bool false), .b false, .k (.bool false), .b false, .k (.int .i64 (hdK r : Nat)), .b false, .b false, .b false, .b false] rfl ?_
          exact cont _ (.cons rfl (.cons rfl (.cons rfl (.nil _))))
        · have k1 : hdK r = 1 := Decidable.not_not.1 k1
          obtain ⟨t, u3, rfl⟩ : ∃ t u3, r = t :: u3 := by
            cases r with
            | nil => cases k1
            | cons t u3 => exact ⟨t, u3, rfl⟩
          have e1 : (((hdK (t :: u3) : Nat) : Int) == 1) = true := by rw [k1]; rfl
          have hw := suf_next hr hl
          cases u3 with
          | nil =>
            have e2 : decide (IntKind.i64.wrap (((l.length - [t].length : Nat) : Int) + 1) < (((l.map tokA).length : Nat) : Int)) = false := by
              rw [hw, hml]; exact decide_eq_false (by simp)
            refine pB [.k (.bool false), .b false, .k (.bool false), .b false, .k (.bool false), .b false, .k (.int .i64 (hdK [t] : Nat)), .b true, .b false, .b false, .b false] rfl ?_
            exact cont _ (.cons rfl (.cons rfl (.cons rfl (.nil _))))
          | cons t2 u4 =>
            have hr4 := suf_tail hr
            have hg2 : (l.map tokA)[(IntKind.i64.wrap (((l.length - (t :: t2 :: u4).length : Nat) : Int) + 1)).toNat]? = some (tokA t2) := by
              rw [hw]; exact suf_get hr4
            have h0 : (0 : Int) ≤ IntKind.i64.wrap (((l.length - (t :: t2 :: u4).length : Nat) : Int) + 1) := by rw [hw]; omega
            have e2 : decide (IntKind.i64.wrap (((l.length - (t :: t2 :: u4).length : Nat) : Int) + 1) < (((l.map tokA).length : Nat) : Int)) = true := by
              have := suf_lt hr4
              rw [hw, hml]; exact decide_eq_true (by omega)
            by_cases k4 : t2.kind = 4
            · have e4 : ((t2.kind : Int) == 4) = true := by rw [k4]; rfl
              have e5 : (t2.text == [61]) = false := by
                cases hh : (t2.text == [61]) with
                | false => rfl
                | true => exact absurd (by unfold nameS; rw [k1]; show (true && (t2.kind == 4) && (t2.text == [61])) = true; rw [k4, hh]; rfl) c4
              refine pB [.k (.bool false), .b false, .k (.bool false), .b false, .k (.bool false), .b false, .k (.int .i64 (hdK (t :: t2 :: u4) : Nat)), .b true, .b true, .v (tokA t2), .b true, .v (tokA t2), .b false] rfl ?_
              exact cont _ (.cons rfl (.cons rfl (.cons rfl (.nil _))))
            · have e4 : ((t2.kind : Int) == 4) = false := beq_false_of_ne (by omega)
              refine pB [.k (.bool false), .b false, .k (.bool false), .b false, .k (.bool false), .b false, .k (.int .i64 (hdK (t :: t2 :: u4) : Nat)), .b true, .b true, .v (tokA t2), .b false, .b false] rfl ?_
              exact cont _ (.cons rfl (.cons rfl (.cons rfl (.nil _))))
      case rest =>
        refine S_callB rfl rfl rfl (exprT F hF v l e b d 0 r [stO2] hr hl (by omega) (fun h => by rw [h] at hX; exact hne hX)) hX hne fun x r2 hx hX => ?_
        obtain ⟨xk, xn, xt, xs, xm⟩ := x
        refine pB [] rfl ?_
        refine S_ret ⟨_, _, rfl, ⟨rfl, trivial⟩, ?_⟩
        exact PE.finZ hX (stFz10 .nils (lowEx _) (lowTx _) .nils .nils)
    have c4 : nameS r = true := Decidable.not_not.1 c4
    rw [if_pos c4] at hX
    obtain ⟨t, t2, u4, rfl⟩ : ∃ t t2 u4, r = t :: t2 :: u4 := by
      match r, c4 with
      | [], h => simp [nameS, hdK] at h
      | [t], h => simp [nameS, hdK] at h
      | t :: t2 :: u4, _ => exact ⟨t, t2, u4, rfl⟩
    have c4' : ((t.kind == 1) && (t2.kind == 4) && (t2.text == [61])) = true := c4
    simp only [Bool.and_eq_true] at c4'
    obtain ⟨⟨k1, k4⟩, e5⟩ := c4'
    have k1 : t.kind = 1 := beq_iff_eq.1 k1
    have k4 : t2.kind = 4 := beq_iff_eq.1 k4
    have e1 : (((hdK (t :: t2 :: u4) : Nat) : Int) == 1) = true := by rw [show hdK (t :: t2 :: u4) = t.kind from rfl, k1]; rfl
    have hw := suf_next hr hl
    have hr4 := suf_tail hr
    have hr5 := suf_tail hr4
    have hg1 := suf_get hr
    have hg2 : (l.map tokA)[(IntKind.i64.wrap (((l.length - (t :: t2 :: u4).length : Nat) : Int) + 1)).toNat]? = some (tokA t2) := by
      rw [hw]; exact suf_get hr4
    have h0 : (0 : Int) ≤ IntKind.i64.wrap (((l.length - (t :: t2 :: u4).length : Nat) : Int) + 1) := by rw [hw]; omega
    have ht := suf_lt hr
    have e2 : decide (IntKind.i64.wrap (((l.length - (t :: t2 :: u4).length : Nat) : Int) + 1) < (((l.map tokA).length : Nat) : Int)) = true := by
      have := suf_lt hr4
      rw [hw, hml]; exact decide_eq_true (by omega)
    have e4 : ((t2.kind : Int) == 4) = true := by rw [k4]; rfl
    have hw2 : IntKind.i64.wrap (((l.length - (t :: t2 :: u4).length : Nat) : Int) + 2) = ((l.length - u4.length : Nat) : Int) := by
      have := hr.length_le
      simp only [List.length_cons] at this ⊢
      rw [IntWalk.i64_in _ ⟨by omega, by omega⟩]; omega
    refine pB [.k (.bool false), .b false, .k (.bool false), .b false, .k (.bool false), .b false, .k (.int .i64 (hdK (t :: t2 :: u4) : Nat)), .b true, .b true, .v (tokA t2), .b true, .v (tokA t2), .b true] rfl ?_
    refine S_drawCN [psB v l (t :: t2 :: u4) e b d 0, stO2, stO2] 12 13 [] [tokA t, .ptr 2 0 0] rfl rfl rfl rfl rfl ?_ ?_
    · (repeat' with_reducible apply AllP_cons) <;> try exact aC
    refine pB [] rfl ?_
    refine S_heap [psB v l u4 e b d 0, stO2, (0, some (.cells [.int .i64 3, .str t.text, .nils, .int .i64 0, .int .i64 0, .str [], .nils, .nils, .nils, .nils] ⟨false, some 38⟩))] ?_ ?_
    · show psI v l (IntKind.i64.wrap (((l.length - (t :: t2 :: u4).length : Nat) : Int) + 2)) e b d (0 : Nat) :: _ = _
      rw [hw2]; rfl
    refine S_callB rfl rfl rfl (exprT F hF v l e b d 0 u4 _ hr5 hl (by omega) (fun h => by rw [show (t :: t2 :: u4).tail.tail = u4 from rfl, h] at hX; exact hne hX)) hX hne fun x r2 hx hX => ?_
    obtain ⟨xk, xn, xt, xs, xm⟩ := x
    refine pB [] rfl ?_
    refine S_ret ⟨_, _, rfl, ⟨rfl, trivial⟩, ?_⟩
    exact PE.finZ hX (stFz10 .nils (lowEx _) (lowTx _) .nils .nils)
end Go.Proofs.YtmdegomejbpldaaGreatDoor
end
section
set_option linter.unusedVariables false
set_option linter.unusedSimpArgs false
set_option maxRecDepth 20000
set_option maxHeartbeats 4000000
namespace Go.Proofs.YtmdegomejbpldaaGreatDoor
open Go Go.Ab
def defS (F b d : Nat) (r : List Tok) : Pr St := if b > 0 then .bad 4 r else (takeS 1 r.tail).bind fun t r => (mustS [40] r).bind fun _ r => (if hdK r = 1 then paramS F [] r else .ok [] r).bind fun ns r => (mustS [41] r).bind fun _ r => (blockS F b (d + 1) r).bind fun l r => .ok (.mk 6 t.text ns .zero l []) r
theorem def_ok (F : Nat) (hF : F ≤ 900000) (hB : Cb F) (v : Nat) (l : List Tok) (e b d : Nat) (r : List Tok) (hr : r <:+ l) (hl : l.length ≤ 100000) (hT : ∀ t ∈ l, t.text.length ≤ 6000) (hb : b + F ≤ 2000000) (hd : d + 1 + F ≤ 2000000) (hw : isS wDef r = true) (hne : defS F b d r ≠ .out) :
    CallOk cx 31 [.ptr 0 v 0] (psH v l r e b d 0) (PE stA v l e b d 0 (defS F b d r) []) :=
  callOk_introT (fun a w => Tryz.call31 a w) Tryz.func31 rfl Tryz.ntmps31 rfl fun B => by
    obtain ⟨X, hX⟩ : ∃ X, X = defS F b d r := ⟨_, rfl⟩
    rw [← hX] at hne ⊢
    unfold defS at hX
    by_cases c1 : b > 0
    · rw [if_pos c1] at hX
      refine pB [.b true] rfl ?_
      exact S_callE rfl rfl rfl (failT uA v l r e b d 0 4 _ hr hl) rfl hX
    rw [if_neg c1] at hX
    have hwr := suf_nextI hr hl hw
    have hr1 := isS_suf hr
    refine pB [.b false] rfl ?_
    refine S_heap (psB v l r.tail e b d 0 :: [stO2]) ?_ ?_
    · show psI v l (IntKind.i64.wrap (((l.length - r.length : Nat) : Int) + 1)) e b d (0 : Nat) :: _ = _
      rw [hwr]; rfl
    refine S_callB rfl rfl rfl (takeT v l r.tail e b d 0 1 [stO2] hr1 hl (by decide)) hX hne fun tx r3 hx hX => ?_
    have hr3 := (takeS_s _ _ _ _ hx).trans hr1
    clear hx hwr hr1 hr
    refine pB [] rfl ?_
    refine S_ghost (id := 2) (j := 2) 1 ⟨false, none⟩ rfl rfl rfl (Nat.ne_of_lt (lble rfl)) ⟨.skip, _, .inr ⟨_, _, _, rfl⟩⟩ ?_
    refine S_heap [psB v l r3 e b d 0, stO2, stX 6 tx.text 0 [] .nils, namB 0 []] rfl ?_
    refine S_callB rfl rfl rfl (mustT v l r3 e b d 0 [40] [stO2, stX 6 tx.text 0 [] .nils, namB 0 []] hr3 hl) hX hne fun _ r4 hx hX => ?_
    have hr4 := (mustS_s _ _ _ _ hx).trans hr3
    clear hx hr3
    have hk := kindT v l r4 e b d 0 [stO2, stX 6 tx.text 0 [] .nils, namB 0 []] hr4 hl
    refine' S_shareU (ι := NamSt) [(0, .ptr 0 v 0), (2, .ptr 1 0 0), (3, .ptr 2 0 0), (59, .ptr 0 v 0)] (fun q => [psB v l q.r e b d 0, stO2, stX 6 tx.text q.w q.ns .nils, namB q.w q.ns])
      (fun q => q.r <:+ l ∧ q.ns.length ≤ F ∧ X = (mustS [41] q.r).bind fun _ r => (blockS F b (d + 1) r).bind fun l r => .ok (.mk 6 tx.text q.ns .zero l []) r) (fun cont => ?main) ?rest
    case main =>
      by_cases k1 : ¬ hdK r4 = 1
      · have e1 : (((hdK r4 : Nat) : Int) == 1) = false := beq_false_of_ne (by omega)
        rw [if_neg k1] at hX
        refine pB [.k (.int .i64 (hdK r4 : Nat)), .b false] rfl ?_
        exact cont ⟨0, [], r4, 0, 0⟩ _ ⟨hr4, Nat.zero_le _, hX⟩ (.cons rfl (.cons rfl (.cons rfl (.cons rfl (.nil _)))))
      have k1 : hdK r4 = 1 := Decidable.not_not.1 k1
      have e1 : (((hdK r4 : Nat) : Int) == 1) = true := by rw [k1]; rfl
      rw [if_pos k1] at hX
      refine pB [.k (.int .i64 (hdK r4 : Nat)), .b true] rfl ?_
      refine S_while (α := NamSt) (fun q => [(0, .ptr 0 v 0), (2, .ptr 1 0 0), (3, .ptr 2 0 0)]) (fun q => [psB v l q.r e b d 0, stO2, stX 6 tx.text q.w q.ns .nils, namB q.w q.ns])
        (fun q => q.F ≤ F ∧ q.r <:+ l ∧ (paramS q.F q.ns q.r).bind (fun ns r => (mustS [41] r).bind fun _ r => (blockS F b (d + 1) r).bind fun l r => .ok (.mk 6 tx.text ns .zero l []) r) = X ∧ q.ns.length + q.F ≤ F) (fun q => q.F) ⟨F, [], r4, 0, 0⟩ ⟨Nat.le_refl _, hr4, hX.symm, by show 0 + F ≤ F; omega⟩ (.cons rfl (.cons rfl (.cons rfl (.nil _)))) rfl ?_
      clear hX hr4 hk e1 k1
      rintro ⟨F1, ns, r, w, _⟩ ⟨hF1, hr, hX, hns⟩
      have hF1 : F1 ≤ F := hF1
      have hr : r <:+ l := hr
      have hX : X = (paramS F1 ns r).bind (fun ns r => (mustS [41] r).bind fun _ r => (blockS F b (d + 1) r).bind fun l r => .ok (.mk 6 tx.text ns .zero l []) r) := hX.symm
      have hns : ns.length + F1 ≤ F := hns
      show S cx _ B _ _ [(0, .ptr 0 v 0), (2, .ptr 1 0 0), (3, .ptr 2 0 0)] [psB v l r e b d 0, stO2, stX 6 tx.text w ns .nils, namB w ns]
      cases F1 with
      | zero => exact absurd hX hne
      | succ F1 =>
      rw [paramS] at hX
      have hk := kindT v l r e b d 0 [stO2, stX 6 tx.text w ns .nils, namB w ns] hr hl
      refine' S_shareG (ι := Unit) [(0, .ptr 0 v 0), (2, .ptr 1 0 0), (3, .ptr 2 0 0)] (fun _ => [psB v l r e b d 0, stO2, stX 6 tx.text w ns .nils, namB w ns]) (fun _ => ¬ (hdK r == 1 && ns.contains (hdT r)) = true) (fun cont2 => ?main2) ?rest2
      case main2 =>
        by_cases k1 : ¬ hdK r = 1
        · have e1 : (((hdK r : Nat) : Int) == 1) = false := beq_false_of_ne (by omega)
          refine pB [.k (.int .i64 (hdK r : Nat)), .b false, .b false] rfl ?_
          exact cont2 () _ (by rw [beq_false_of_ne k1]; simp) (.cons rfl (.cons rfl (.cons rfl (.nil _))))
        have k1 : hdK r = 1 := Decidable.not_not.1 k1
        obtain ⟨t, u, rfl⟩ : ∃ t u, r = t :: u := by
          cases r with
          | nil => cases k1
          | cons t u => exact ⟨t, u, rfl⟩
        have e1 : (((hdK (t :: u) : Nat) : Int) == 1) = true := by rw [k1]; rfl
        have hg := suf_get hr
        have ht := suf_lt hr
        have hml : (l.map tokA).length = l.length := by simp
        have hCo := ContainsS_ok (st := false) (fl := false) ns t.text (by omega)
        have hFz : Frzs [psB v l (t :: u) e b d 0, stO2, stX 6 tx.text w ns .nils, namB w ns] [.ms 3 w 0 ns.length 1 false, .str t.text] [.sl false false 1 (texts ns), .str t.text] := .cons (.ms1 rfl (fun x hx => by obtain ⟨y, _, rfl⟩ := List.mem_map.1 hx; rfl) (texts_len ns) (textsF ns)) (.cons (.refl .str) (.nil _))
        by_cases c3 : t.text ∈ ns
        · rw [if_pos (by show (hdK (t :: u) == 1 && ns.contains t.text) = true; rw [k1]; simpa using c3)] at hX
          rw [decide_eq_true c3] at hCo
          refine pa [.k (.int .i64 (hdK (t :: u) : Nat)), .b true, .v (tokA t), .v (.bool true), .b true] rfl ?_ ?_
          · (repeat' with_reducible apply AllP_cons) <;> try exact aC
            exact ⟨_, hCo, hFz⟩
          exact S_callE rfl rfl rfl (failT uA v l _ e b d 0 6 _ hr hl) rfl hX
        · rw [decide_eq_false c3] at hCo
          refine pa [.k (.int .i64 (hdK (t :: u) : Nat)), .b true, .v (tokA t), .v (.bool false), .b false] rfl ?_ ?_
          · (repeat' with_reducible apply AllP_cons) <;> try exact aC
            exact ⟨_, hCo, hFz⟩
          exact cont2 () _ (by show ¬ (hdK (t :: u) == 1 && ns.contains t.text) = true; rw [k1]; simpa using c3) (.cons rfl (.cons rfl (.cons rfl (.nil _))))
      case rest2 =>
        intro _ cc
        rw [if_neg cc, Pr.assoc] at hX
        show S cx _ B _ _ [(0, .ptr 0 v 0), (2, .ptr 1 0 0), (3, .ptr 2 0 0)] [psB v l r e b d 0, stO2, stX 6 tx.text w ns .nils, namB w ns]
        have hTk := takeT v l r e b d 0 1 [stO2, stX 6 tx.text w ns .nils, namB w ns] hr hl (by decide)
        cases hx : takeS 1 r with
        | out => rw [hx] at hX; exact absurd hX hne
        | bad j u =>
          rw [hx] at hX
          refine S_drawE 3 [] [] rfl rfl rfl rfl rfl rfl ?_ hTk hx hX
          (repeat' with_reducible apply AllP_cons) <;> try exact aC
        | ok t r5 =>
          have hTk := PE.ok hTk hx
          rw [hx] at hX
          have hX : X = (if isS [44] r5 then paramS F1 (ns ++ [t.text]) r5.tail else .ok (ns ++ [t.text]) r5).bind (fun ns r => (mustS [41] r).bind fun _ r => (blockS F b (d + 1) r).bind fun l r => .ok (.mk 6 tx.text ns .zero l []) r) := hX
          have hr5 := (takeS_s _ _ _ _ hx).trans hr
          have hbx : 0 + ns.length * 1 = (texts ns).length := by rw [texts_len]; omega
          refine pa [.d 3 6 [] (fun σ => psB v l r5 e b d 0 :: σ.tail) [tokA t]] rfl ?_ ?_
          · (repeat' with_reducible apply AllP_cons) <;> try exact aC
            · exact ⟨_, hTk, rfl⟩
            · show (ns.length + 1) * 16 ≤ 140737488355328
              omega
          refine S_heap [psB v l r5 e b d 0, stO2, stX 6 tx.text (w + 1) (ns ++ [t.text]) .nils, namB (w + 1) (ns ++ [t.text])] ?_ ?_
          · show [psB v l r5 e b d 0, stO2, (0, some (.cells [.int .i64 6, .str tx.text, .ms 3 (w + 1) 0 (ns.length + 1) 1 false, .int .i64 0, .int .i64 0, .str [], .nils, .nils, .nils, .nils] ⟨false, some 38⟩)), (w + 1, some (.cells (texts ns ++ [.str t.text]) ⟨false, none⟩))] = _
            unfold stX namB
            rw [List.length_append, nam_snoc]; rfl
          by_cases c6 : isS [44] r5 = true
          · rw [if_pos c6] at hX
            have hm := may_yes v l r5 e b d 0 [44] [stO2, stX 6 tx.text (w + 1) (ns ++ [t.text]) .nils, namB (w + 1) (ns ++ [t.text])] hr5 hl c6
            refine pB [.f (.bool true) (fun σ => psB v l r5.tail e b d 0 :: σ.tail), .b false] rfl ?_
            exact S_round ⟨F1, ns ++ [t.text], r5.tail, w + 1, 0⟩ (Nat.lt_succ_self _) ⟨by show F1 ≤ F; omega, isS_suf hr5, hX.symm, by show (ns ++ [_]).length + F1 ≤ F; rw [List.length_append, List.length_singleton]; omega⟩ (.cons rfl (.cons rfl (.cons rfl (.nil _)))) rfl
          · rw [if_neg c6] at hX
            have hm := may_no v l r5 e b d 0 [44] [stO2, stX 6 tx.text (w + 1) (ns ++ [t.text]) .nils, namB (w + 1) (ns ++ [t.text])] hr5 hl c6
            refine pB [.k (.bool false), .b true] rfl ?_
            exact cont ⟨0, ns ++ [t.text], r5, w + 1, 0⟩ _ ⟨hr5, by show (ns ++ [_]).length ≤ F; rw [List.length_append, List.length_singleton]; omega, hX⟩ (.cons rfl (.cons rfl (.cons rfl (.cons rfl (.nil _)))))
    case rest =>
      rintro ⟨_, ns, r5, w, _⟩ ⟨hr5, hns, hX⟩
      have hr5 : r5 <:+ l := hr5
      have hns : ns.length ≤ F := hns
      have hX : X = (mustS [41] r5).bind fun _ r => (blockS F b (d + 1) r).bind fun l r => .ok (.mk 6 tx.text ns .zero l []) r := hX
      show S cx _ B _ _ [(0, .ptr 0 v 0), (2, .ptr 1 0 0), (3, .ptr 2 0 0), (59, .ptr 0 v 0)] [psB v l r5 e b d 0, stO2, stX 6 tx.text w ns .nils, namB w ns]
      refine S_callB rfl rfl rfl (mustT v l r5 e b d 0 [41] [stO2, stX 6 tx.text w ns .nils, namB w ns] hr5 hl) hX hne fun _ r6 hx hX => ?_
      have hr6 := (mustS_s _ _ _ _ hx).trans hr5
      clear hx
      have hw : IntKind.i64.wrap ((d : Nat) + 1) = ((d + 1 : Nat) : Int) := by rw [IntWalk.i64_in _ ⟨by omega, by omega⟩]; omega
      have hw1 : IntKind.i64.wrap (((d + 1 : Nat) : Int) - 1) = (d : Int) := by rw [IntWalk.i64_in _ ⟨by omega, by omega⟩]; omega
      refine pB [] rfl ?_
      refine S_heap (psB v l r6 e b (d + 1) 0 :: [stO2, stX 6 tx.text w ns .nils, namB w ns]) ?_ ?_
      · show psI v l ((l.length - r6.length : Nat) : Int) e b (IntKind.i64.wrap ((d : Nat) + 1)) (0 : Nat) :: _ = _
        rw [hw]; rfl
      have hne2 : blockS F b (d + 1) r6 ≠ .out := fun h => by rw [h] at hX; exact hne hX
      refine S_callB (d := d + 1) rfl rfl rfl (hB.tail v l e b (d + 1) r6 [stO2, stX 6 tx.text w ns .nils, namB w ns] hr6 hl hT hb (by omega) hne2) hX hne fun ls r7 hx hX => ?_
      refine pB [] rfl ?_
      refine S_heap (psB v l r7 e b d 0 :: _) (by
        show psI v l ((l.length - r7.length : Nat) : Int) e b (IntKind.i64.wrap (((d + 1 : Nat) : Int) - 1)) (0 : Nat) :: _ = _
        rw [hw1]; rfl) ?_
      refine S_ret ⟨_, _, rfl, ⟨rfl, trivial⟩, ?_⟩
      exact PE.finZ hX (stFz10 (namFz (by decide) rfl) .nils .nils (lowSt _) .nils)
theorem stmt_ok (F : Nat) (hF : F ≤ 900000) (hB : Cb F) : Cs 20 stmtS (F + 1) := fun v l e b d r hr hl hT hb hd hne =>
  callOk_introT (fun a w => Tryz.call20 a w) Tryz.func20 rfl Tryz.ntmps20 rfl fun B => by
    obtain ⟨X, hX⟩ : ∃ X, X = stmtS (F + 1) b d r := ⟨_, rfl⟩
    rw [← hX] at hne ⊢
    rw [stmtS] at hX
    have hi1 := isT v l r e b d 0 wDef [stO2] hr hl
    by_cases c1 : isS wDef r = true
    · rw [if_pos c1] at hX
      have hX : X = defS F b d r := hX
      rw [c1] at hi1
      refine pB [.k (.bool true), .b true] rfl ?_
      have hne2 : defS F b d r ≠ .out := fun h => by rw [h] at hX; exact hne hX
      have hL := PE.tail [stO2] (def_ok F hF hB v l e b d r hr hl hT (by omega) (by omega) c1 hne2) hne2 (arg0_rn v [] (by simp)) stA_free
      refine S_callB rfl rfl rfl hL (hX.trans (Pr.bind_ok _)) hne fun x r2 hx hX => ?_
      obtain ⟨sk, st, sn, ⟨xk, xn, xt, xs, xm⟩, sb, se⟩ := x
      refine pB [] rfl ?_
      refine S_ret ⟨_, _, rfl, ⟨rfl, trivial⟩, ?_⟩
      exact PE.finZ hX (stFz10 (lowTx _) (lowEx _) (lowTx _) (lowSt _) (lowSt _))
    rw [if_neg c1] at hX
    rw [(Bool.not_eq_true _).mp c1] at hi1
    by_cases c2 : isS wIf r = true
    · rw [if_pos c2] at hX
      have hm := may_yes v l r e b d 0 wIf [stO2] hr hl c2
      have hr1 := isS_suf hr
      refine pB [.k (.bool false), .b false, .f (.bool true) (fun σ => psB v l r.tail e b d 0 :: σ.tail), .b true] rfl ?_
      refine S_callB rfl rfl rfl (exprT F hF v l e b d 0 r.tail _ hr1 hl (by omega) (fun h => by rw [h] at hX; exact hne hX)) hX hne fun x r2 hx hX => ?_
      have hr2 := ((allS F).expr _ _ _ _ hx).trans hr1
      clear hx
      obtain ⟨xk, xn, xt, xs, xm⟩ := x
      refine pB [] rfl ?_
      refine S_callB rfl rfl rfl (hB.tail v l e b d r2 _ hr2 hl hT (by omega) (by omega) (fun h => by rw [h] at hX; exact hne hX)) hX hne fun ls r3 hx hX => ?_
      have hr3 := ((allW F).block _ _ _ _ _ hx).trans hr2
      clear hx
      by_cases c3 : isS wElse r3 = true
      · rw [if_pos c3] at hX
        have hm := fun τ => may_yes v l r3 e b d 0 wElse τ hr3 hl c3
        have hr4 := isS_suf hr3
        refine pa [.f (.bool true) (fun σ => psB v l r3.tail e b d 0 :: σ.tail), .b true] rfl ?_ ?_
        · (repeat' with_reducible apply AllP_cons) <;> try exact aC
          exact hm _
        refine S_callB rfl rfl rfl (hB.tail v l e b d r3.tail _ hr4 hl hT (by omega) (by omega) (fun h => by rw [h] at hX; exact hne hX)) hX hne fun ls2 r5 hx hX => ?_
        refine pB [] rfl ?_
        refine S_ret ⟨_, _, rfl, ⟨rfl, trivial⟩, ?_⟩
        exact PE.finZ hX (stFz10 .nils (lowEx _) (lowTx _) (lowSt _) (lowSt _))
      · rw [if_neg c3] at hX
        have hm := fun τ => may_no v l r3 e b d 0 wElse τ hr3 hl c3
        refine pa [.k (.bool false), .b false] rfl ?_ ?_
        · (repeat' with_reducible apply AllP_cons) <;> try exact aC
          exact hm _
        refine S_ret ⟨_, _, rfl, ⟨rfl, trivial⟩, ?_⟩
        exact PE.finZ hX (stFz10 .nils (lowEx _) (lowTx _) (lowSt _) .nils)
    rw [if_neg c2] at hX
    have hm2 := may_no v l r e b d 0 wIf [stO2] hr hl c2
    by_cases c3 : isS wFor r = true
    · rw [if_pos c3] at hX
      have hm := may_yes v l r e b d 0 wFor [stO2] hr hl c3
      have hr1 := isS_suf hr
      refine pB [.k (.bool false), .b false, .k (.bool false), .b false, .f (.bool true) (fun σ => psB v l r.tail e b d 0 :: σ.tail), .b true] rfl ?_
      refine S_callB rfl rfl rfl (takeT v l r.tail e b d 0 1 _ hr1 hl (by decide)) hX hne fun t r2 hx hX => ?_
      have hr2 := (takeS_s _ _ _ _ hx).trans hr1
      clear hx
      refine pB [] rfl ?_
      refine S_callB rfl rfl rfl (mustT v l r2 e b d 0 wIn _ hr2 hl) hX hne fun _ r3 hx hX => ?_
      have hr3 := (mustS_s _ _ _ _ hx).trans hr2
      clear hx
      refine pB [] rfl ?_
      refine S_callB rfl rfl rfl (exprT F hF v l e b d 0 r3 _ hr3 hl (by omega) (fun h => by rw [h] at hX; exact hne hX)) hX hne fun x r4 hx hX => ?_
      have hr4 := ((allS F).expr _ _ _ _ hx).trans hr3
      clear hx
      obtain ⟨xk, xn, xt, xs, xm⟩ := x
      refine pB [] rfl ?_
      refine S_callB rfl rfl rfl (hB.tail v l e b d r4 _ hr4 hl hT (by omega) (by omega) (fun h => by rw [h] at hX; exact hne hX)) hX hne fun ls r5 hx hX => ?_
      refine pB [] rfl ?_
      refine S_ret ⟨_, _, rfl, ⟨rfl, trivial⟩, ?_⟩
      exact PE.finZ hX (stFz10 .nils (lowEx _) (lowTx _) (lowSt _) .nils)
    rw [if_neg c3] at hX
    have hm3 := may_no v l r e b d 0 wFor [stO2] hr hl c3
    refine pB [.k (.bool false), .b false, .k (.bool false), .b false, .k (.bool false), .b false] rfl ?_
    have hne2 : smallS F b d r ≠ .out := fun h => by rw [h] at hX; exact hne hX
    have hL := PE.tail [stO2] (small_ok F hF v l e b d r hr hl hT (by omega) hne2) hne2 (arg0_rn v [] (by simp)) stA_free
    refine S_callB rfl rfl rfl hL hX hne fun x r2 hx hX => ?_
    have hr2 := (smallS_s F b d r _ _ hx).trans hr
    clear hx
    obtain ⟨sk, st, sn, ⟨xk, xn, xt, xs, xm⟩, sb, se⟩ := x
    refine pB [] rfl ?_
    refine S_callB rfl rfl rfl (takeT v l r2 e b d 0 6 _ hr2 hl (by decide)) hX hne fun t r3 hx hX => ?_
    refine pB [] rfl ?_
    refine S_ret ⟨_, _, rfl, ⟨rfl, trivial⟩, ?_⟩
    exact PE.finZ hX (stFz10 (lowTx _) (lowEx _) (lowTx _) (lowSt _) (lowSt _))
theorem allD (F : Nat) : F ≤ 900000 → ∀ F', F' ≤ F → Cs 20 stmtS F' ∧ Cb F' := by
  induction F with
  | zero =>
    intro _ F' h
    obtain rfl : F' = 0 := by omega
    exact ⟨fun _ _ _ _ _ _ _ _ _ _ _ h => absurd rfl h, fun _ _ _ _ _ _ _ _ _ _ _ h => absurd rfl h⟩
  | succ F ih =>
    intro hF F' h
    rcases Nat.lt_or_ge F' (F + 1) with h' | h'
    · exact ih (by omega) F' (by omega)
    obtain rfl : F' = F + 1 := by omega
    have ih := ih (by omega)
    exact ⟨stmt_ok F (by omega) (ih F (Nat.le_refl _)).2, block_ok F (by omega) fun F' h => (ih F' h).1⟩
end Go.Proofs.YtmdegomejbpldaaGreatDoor
end
section
set_option linter.unusedVariables false
set_option linter.unusedSimpArgs false
set_option maxRecDepth 20000
set_option maxHeartbeats 4000000
namespace Go.Proofs.YtmdegomejbpldaaGreatDoor
open Go Go.Ab
def parseAV (x : List St × Flt) : AV := .tup [stsA x.1, fltA x.2]
theorem parseAV_free (x : List St × Flt) : Free true (parseAV x) := .tup (by intro y hy; simp at hy; rcases hy with rfl | rfl; exact stsA_free _; exact flt_free _)
theorem parse2_ok (q v : Nat) (l r : List Tok) (e b d n : Nat) (τ : Heap) (hr : r <:+ l) (hl : l.length ≤ 100000) :
    CallOk cx 13 [.ptr 1 q 0] (psB v l r e b d n :: qB q v :: τ) (fun o σ => o = .ret (.bool (!atEnd true r)) ∧ σ = psB v l r e b d n :: qB q v :: τ) :=
  callOk_intro (fun a w => Tryz.call13 a w) Tryz.func13 rfl Tryz.ntmps13 rfl fun B => by
    refine pB [] rfl ?_
    refine S_ret ⟨_, _, rfl, trivial, ?_, rfl⟩
    show Out.ret (.bool (decide ((((l.length - r.length : Nat) : Nat) : Int) < (((l.map tokA).length : Nat) : Int)))) = .ret (.bool (!r.isEmpty))
    congr 2
    rw [List.length_map]
    have := hr.length_le
    cases r with
    | nil => exact decide_eq_false (by simp)
    | cons t u => simp only [List.length_cons] at this ⊢; exact decide_eq_true (by omega)
theorem pclos_ret (x : AV) (e : Flt) (a b : Nat × Box) (R : Md → Heap → Prop) (h : ∀ y, R .ret [xo x, xf e, (a.1, some a.2), (b.1, some b.2), y]) :
    DCall cx (.func (.func 11) [] [.ptr 0 0 0, .ptr 1 0 0]) .ret [xo x, xf e, (a.1, some a.2), (b.1, some b.2)] R :=
  dcall_recover (fun a w => Tryz.call11 a w) Tryz.func11 rfl Tryz.ntmps11 rfl rfl rfl rfl rfl rfl rfl fun B => by
    refine pB [.b false] rfl ?_
    exact S_nil ⟨_, _, rfl, trivial, _, rfl, h _⟩
theorem pclos_pan (x : AV) (e g : Flt) (a b : Nat × Box) (R : Md → Heap → Prop) (h : ∀ y, R (.pan (flt g) true) [xo .nils, xf g, (a.1, some a.2), (b.1, some b.2), y]) :
    DCall cx (.func (.func 11) [] [.ptr 0 0 0, .ptr 1 0 0]) (.pan (flt g) false) [xo x, xf e, (a.1, some a.2), (b.1, some b.2)] R :=
  dcall_recover (fun a w => Tryz.call11 a w) Tryz.func11 rfl Tryz.ntmps11 rfl rfl rfl rfl rfl rfl rfl fun B => by
    refine pB [.b true] rfl ?_
    refine S_drawC [xo .nils, xf e, (a.1, some a.2), (b.1, some b.2), xf g] 1 2 [] [.tup []] rfl rfl rfl rfl rfl ⟨rfl, rfl, rfl, rfl, rfl, rfl, lble rfl, rfl, rfl, trivial⟩ ?_
    refine pB [] rfl ?_
    exact S_nil ⟨_, _, rfl, trivial, _, rfl, h _⟩
theorem parse_fuel (s : List UInt8) : fuelS (splitS s).1 ≤ 900000 := by
  have := splitS_size s
  unfold fuelS; omega
theorem parse_ne (l : List Tok) : stmtsS (fuelS l) true 0 0 [] l ≠ .out := ((allU (fuelS l)).stmts true 0 0 [] l (by unfold fuelS; omega)).1
theorem psBox_rn (v : Nat) (l r : List Tok) (e b d n : Nat) (ids : List Nat) : RnE ids (psB v l r e b d n) (psB v l r e b d n) := .live (.cells (.free (psB_free v l r e b d n)))
theorem Parse_ok (s : List UInt8) : Calc cx 6 [.str s] (parseAV (parseS s)) :=
  calc_of (parseAV_free _) (callOk_introD (fun a w => Tryz.call6 a w) Tryz.func6 rfl Tryz.ntmps6 rfl fun B hB => by
    have hlen := splitS_size s
    have hfu := parse_fuel s
    have hg := splitS_good s
    have hsz : (splitS s).2.1 = 0 → s.length ≤ 6000 := by
      unfold splitS
      split
      · intro h; cases h
      · intro _; omega
    have hSp0 := Split_ok s
    obtain ⟨Y, hY⟩ : ∃ Y, Y = parseS s := ⟨_, rfl⟩
    rw [← hY]
    unfold parseS at hY
    obtain ⟨l, e1, e2, hsp⟩ : ∃ l e1 e2, splitS s = (l, (e1, e2)) := ⟨_, _, _, rfl⟩
    rw [hsp] at hlen hfu hg hsz hSp0 hY
    have hY : Y = if e1 ≠ 0 then ([], (e1, e2)) else match stmtsS (fuelS l) true 0 0 [] l with | .ok x _ => (x, (0, 0)) | .bad e r => ([], (e, placeS s.length r)) | .out => ([], (0, 0)) := hY
    have hlen : l.length ≤ 24040 := hlen
    have hfu : fuelS l ≤ 900000 := hfu
    have hSp : Calc cx 10 [.str s] (.tup [.sl true false 4 (l.map tokA), .agg [.int .i64 (e1 : Nat), .int .i64 (e2 : Nat)]]) := hSp0
    have hsz : e1 = 0 → s.length ≤ 6000 := hsz
    clear hSp0
    by_cases h1 : e1 = 0
    · subst h1
      rw [if_neg (by decide)] at hY
      have hsz := hsz rfl
      have hT : ∀ t ∈ l, t.text.length ≤ 6000 := fun t ht => by have := (hg t ht).size; omega
      have hne := parse_ne l
      refine pa [.v (.tup [.sl true false 4 (l.map tokA), .agg [.int .i64 (0 : Nat), .int .i64 (e2 : Nat)]]), .b false] rfl ?_ ?_
      · (repeat' with_reducible apply AllP_cons) <;> try exact aC
        exact ⟨_, hSp, .cons (.refl .str) (.nil _)⟩
      refine S_defer rfl rfl rfl rfl hB ?_
      refine pB [] rfl ?_
      refine S_heap [xo .nils, xf (0, e2), psB 0 l l s.length 0 0 0, (0, some (.cells [.ptr 2 0 0] ⟨false, none⟩))] ?_ ?_
      · show [xo .nils, xf (0, e2), psI 0 l 0 (s.length : Nat) 0 0 0, (0, some (.cells [.ptr 2 0 0] ⟨false, none⟩))] = _
        unfold psB psI
        rw [Nat.sub_self]; rfl
      have hst := stmts_ok (fuelS l) hfu true 13 (fun F' h => (allD (fuelS l) hfu F' h).1) 0 0 l s.length 0 0 l (List.suffix_refl _) (by omega) hT (by omega) (by omega)
        (fun r τ hr => parse2_ok 0 0 l r s.length 0 0 0 τ hr (by omega)) hne
      refine S_callf [2, 3] hst rfl (.cons (.ptr rfl) (.cons (.func rfl (fun i h => by simp at h) rfl (fun i h _ => by
        have : i = 0 := by simp at h; omega
        subst this; exact .ptr rfl)) (.nil _))) (Part.mk' (es := [psB 0 l l s.length 0 0 0, (0, some (.cells [.ptr 2 0 0] ⟨false, none⟩))]) rfl rfl
        (.cons (psBox_rn ..) (.cons (.live (.cells (.cons (.ptr rfl) (.nil _)))) (.nil _)))) rfl rfl ?_ ?_
      · intro y σ1 h
        cases hx : stmtsS (fuelS l) true 0 0 [] l with
        | out => exact absurd hx hne
        | bad j u => rw [hx] at h; cases h.1
        | ok x u =>
          rw [hx] at h hY
          have hY : Y = (x, (0, 0)) := hY
          subst hY
          obtain ⟨h1, rfl⟩ := h
          cases h1
          refine ⟨stsA x, [psB 0 l u s.length 0 0 0, (0, some (.cells [.ptr 2 0 0] ⟨false, none⟩))], (.cons (psBox_rn ..) (.cons (.live (.cells (.cons (.ptr rfl) (.nil _)))) (.nil _))), .free (stsA_free _), ?_⟩
          refine pB [] rfl ?_
          refine S_ret ⟨_, rfl, pclos_ret (stsA x) (0, 0) (0, .cells [.sl true false 4 (l.map tokA), .int .i64 ((l.length - u.length : Nat) : Int), .int .i64 (s.length : Nat), .int .i64 (0 : Nat), .int .i64 (0 : Nat), .int .i64 (0 : Nat)] ⟨false, some 54⟩) (0, .cells [.ptr 2 0 0] ⟨false, none⟩) _ fun y => ?_⟩
          refine ⟨_, _, rfl, ⟨rfl, rfl, trivial⟩, _, rfl, ?_⟩
          exact Fzs.tup (.cons (.refl (stsA_free _)) (.cons (.refl (flt_free (0, 0))) .nil))
      · intro y σ1 h
        cases hx : stmtsS (fuelS l) true 0 0 [] l with
        | out => exact absurd hx hne
        | ok x u => rw [hx] at h; cases h.1
        | bad j u =>
          rw [hx] at h hY
          have hY : Y = ([], (j, placeS s.length u)) := hY
          subst hY
          obtain ⟨h1, r', b', d', n', rfl⟩ := h
          cases h1
          refine ⟨flt (j, placeS s.length u), [psB 0 l r' s.length b' d' n', (0, some (.cells [.ptr 2 0 0] ⟨false, none⟩))], (.cons (psBox_rn ..) (.cons (.live (.cells (.cons (.ptr rfl) (.nil _)))) (.nil _))), .free (fltI_free _), ?_⟩
          refine ⟨_, rfl, pclos_pan .nils (0, e2) (j, placeS s.length u) (0, .cells [.sl true false 4 (l.map tokA), .int .i64 ((l.length - r'.length : Nat) : Int), .int .i64 (s.length : Nat), .int .i64 (b' : Nat), .int .i64 (d' : Nat), .int .i64 (n' : Nat)] ⟨false, some 54⟩) (0, .cells [.ptr 2 0 0] ⟨false, none⟩) _ fun y => ?_⟩
          exact ⟨_, _, rfl, ⟨rfl, rfl, trivial⟩, _, rfl, Fzs.tup (.cons .nils (.cons (.refl (flt_free _)) .nil))⟩
    · have e0 : ((e1 : Int) != 0) = true := bne_iff_ne.2 (by omega)
      rw [if_pos h1] at hY
      subst hY
      refine pa [.v (.tup [.sl true false 4 (l.map tokA), .agg [.int .i64 (e1 : Nat), .int .i64 (e2 : Nat)]]), .b true] rfl ?_ ?_
      · (repeat' with_reducible apply AllP_cons) <;> try exact aC
        exact ⟨_, hSp, .cons (.refl .str) (.nil _)⟩
      refine S_drawC [xo .nils, xf (e1, e2)] 1 2 [] [.tup []] rfl rfl rfl rfl rfl ⟨rfl, rfl, rfl, rfl, rfl, rfl, lble rfl, rfl, rfl, trivial⟩ ?_
      refine pB [] rfl ?_
      refine S_ret ⟨_, rfl, _, _, rfl, ⟨rfl, rfl, trivial⟩, _, rfl, ?_⟩
      exact Fzs.tup (.cons .nils (.cons (.refl (flt_free (e1, e2))) .nil)))
end Go.Proofs.YtmdegomejbpldaaGreatDoor
end
section
set_option linter.unusedVariables false
set_option linter.unusedSimpArgs false
namespace Go.Ab
open Go
theorem Inv.grown {cx : Cx} {r : Rl} {σ : Heap} {w w' : World} (hi : Inv cx r σ w) (hsame : ∀ b, b < w.heap.size → w'.heap[b]? = w.heap[b]?) (hs : w.heap.size ≤ w'.heap.size) (hos : w'.os = w.os) (hout : w'.output = w.output) (htape : w'.tape = w.tape) :
    Inv cx r σ w' ∧ Ext r σ w r σ w' := by
  have hsize : ∀ (b : Nat) (c : Array Value) (t : TypeId) (f : Nat × Nat), w.heap[b]? = some (Obj.cells c t f) → ∃ (c' : Array Value) (f' : Nat × Nat), w'.heap[b]? = some (Obj.cells c' t f') ∧ c'.size = c.size := by
    intro b c t f h
    have hlt : b < w.heap.size := by
      rcases Nat.lt_or_ge b w.heap.size with h' | h'
      · exact h'
      · simp [Array.getElem?_eq_none h'] at h
    exact ⟨c, f, by rw [hsame b hlt, h], rfl⟩
  have g : Grow r w r w' := ⟨fun _ h => h, fun _ h => h, fun _ _ _ h => h, fun b hb => hsame b (hi.Ilt b hb), hsize⟩
  refine ⟨⟨?_, fun id ver b o h => ?_, hi.inj, hi.imm, fun b hb => Nat.lt_of_lt_of_le (hi.Ilt b hb) hs, hi.SI, hi.glob.mono g hi.SI⟩, ?_⟩
  · intro id ver x hx
    rcases hi.box id ver x hx with ⟨b, o, h1, h2⟩ | h1
    · exact .inl ⟨b, o, h1, h2.mono g (hsame b h2.lt)⟩
    · exact .inr h1
  · obtain ⟨h1, h2⟩ := hi.lt id ver b o h
    exact ⟨h1, Nat.lt_of_lt_of_le h2 hs⟩
  · exact ⟨fun _ h => h, fun _ h => h, fun _ h => .inl h, fun _ h => .inl h, fun _ _ _ h => h, hs, Nat.le_refl _, fun b hb _ => hsame b hb, fun _ h => .inl h, hsize, hos, hout, htape, fun id ver b o h => .inl ⟨ver, o, h⟩⟩
theorem Calc.told {cx : Cx} {f : FuncId} {args : List AV} {res : AV} (he : Enters cx.P f) (hf : Free true res)
    (h : ∀ r w vs, Inv cx r [] w → VRels r w vs args → ∃ v, (∀ w', VRel r w' v res) ∧ Calls cx.P f vs w fun e w' => e = .returned v ∧ ∃ k os, w' = Sort.grow (w.drewN k) os) : Calc cx f args res :=
  calc_of hf ⟨he, fun r w vs hi hv => by
    obtain ⟨v, h1, h2⟩ := h r w vs hi hv
    refine h2.mono fun e w' ⟨he, k, os, hw⟩ => ?_
    subst he; subst hw
    have hsame : ∀ b, b < w.heap.size → (Sort.grow (w.drewN k) os).heap[b]? = w.heap[b]? := fun b hb => by
      show (w.heap ++ os)[b]? = w.heap[b]?
      rw [Array.getElem?_append_left hb]
    obtain ⟨q1, q2⟩ := hi.grown (w' := Sort.grow (w.drewN k) os) hsame (by show w.heap.size ≤ (w.heap ++ os).size; simp) rfl rfl rfl
    exact ⟨.ret res, [], r, ⟨res, rfl, .refl hf⟩, h1 _, q1, q2⟩⟩
theorem Inv.whole {cx : Cx} {r : Rl} {σ : Heap} {w : World} {g : Nat} {vs : Array Value} {name : String} (hi : Inv cx r σ w) (hg : cx.P.globalNamed name = some g) (hx : cx.X g = some vs) : w.var? cx.P name = some vs := by
  obtain ⟨_, t, f, h⟩ := hi.glob.X g vs hx
  unfold World.var?
  rw [hg]
  show (match w.heap[g]? with | some (.cells cs _ _) => some cs | _ => none) = _
  rw [h]
end Go.Ab
end
section
set_option linter.unusedVariables false
set_option linter.unusedSimpArgs false
set_option maxRecDepth 20000
namespace Go.Proofs.YtmdegomejbpldaaGreatDoor
open Go Go.Ab
def laysItoa_ren : Go.Shelf.Ren := ⟨fun | 171 => 39 | 243 => 63 | 246 => 78 | 283 => 86 | 284 => 87 | 285 => 88 | 286 => 89 | 129 => 95 | 317 => 94 | 318 => 96 | 319 => 97 | 320 => 98 | 337 => 101 | 338 => 102 | n => n, fun | 3 => 3 | 9 => 9 | 2 => 2 | 4 => 4 | 171 => 103 | 0 => 0 | 53 => 104 | 37 => 39 | 5 => 5 | 173 => 107 | 212 => 113 | 51 => 114 | 20 => 20 | 213 => 115 | 46 => 117 | 232 => 120 | 233 => 121 | n => n, fun | 17 => 3 | 18 => 4 | 19 => 5 | n => n⟩
theorem laysItoa : Go.Proofs.LaysM.n171 Tryz.prog laysItoa_ren := {
  mixed := by kernel_rfl
  f129 := Tryz.func95.trans (congrArg some (by kernel_rfl))
  f171 := Tryz.func39.trans (congrArg some (by kernel_rfl))
  f243 := Tryz.func63.trans (congrArg some (by kernel_rfl))
  f246 := Tryz.func78.trans (congrArg some (by kernel_rfl))
  f283 := Tryz.func86.trans (congrArg some (by kernel_rfl))
  f284 := Tryz.func87.trans (congrArg some (by kernel_rfl))
  f285 := Tryz.func88.trans (congrArg some (by kernel_rfl))
  f286 := Tryz.func89.trans (congrArg some (by kernel_rfl))
  f317 := Tryz.func94.trans (congrArg some (by kernel_rfl))
  f318 := Tryz.func96.trans (congrArg some (by kernel_rfl))
  f319 := Tryz.func97.trans (congrArg some (by kernel_rfl))
  f320 := Tryz.func98.trans (congrArg some (by kernel_rfl))
  f337 := Tryz.func101.trans (congrArg some (by kernel_rfl))
  f338 := Tryz.func102.trans (congrArg some (by kernel_rfl))
  t0 := Tryz.underlying0
  a0 := Tryz.isAgg0
  z0 := Tryz.sizeOf0
  v0 := Tryz.zeroValue0
  t2 := Tryz.underlying2
  a2 := Tryz.isAgg2
  z2 := Tryz.sizeOf2
  v2 := Tryz.zeroValue2
  t3 := Tryz.underlying3
  a3 := Tryz.isAgg3
  z3 := Tryz.sizeOf3
  v3 := Tryz.zeroValue3
  t4 := Tryz.underlying4
  a4 := Tryz.isAgg4
  z4 := Tryz.sizeOf4
  v4 := Tryz.zeroValue4
  t5 := Tryz.underlying5
  a5 := Tryz.isAgg5
  z5 := Tryz.sizeOf5
  v5 := Tryz.zeroValue5
  t9 := Tryz.underlying9
  a9 := Tryz.isAgg9
  z9 := Tryz.sizeOf9
  v9 := Tryz.zeroValue9
  t20 := Tryz.underlying20
  a20 := Tryz.isAgg20
  z20 := Tryz.sizeOf20
  v20 := Tryz.zeroValue20
  t37 := Tryz.underlying39
  a37 := Tryz.isAgg39
  z37 := Tryz.sizeOf39
  v37 := Tryz.zeroValue39
  t46 := Tryz.underlying117
  a46 := Tryz.isAgg117
  z46 := Tryz.sizeOf117
  v46 := Tryz.zeroValue117
  t51 := Tryz.underlying114
  a51 := Tryz.isAgg114
  z51 := Tryz.sizeOf114
  v51 := Tryz.zeroValue114
  t53 := Tryz.underlying104
  a53 := Tryz.isAgg104
  z53 := Tryz.sizeOf104
  v53 := Tryz.zeroValue104
  t171 := Tryz.underlying103
  a171 := Tryz.isAgg103
  z171 := Tryz.sizeOf103
  v171 := Tryz.zeroValue103
  t173 := Tryz.underlying107
  a173 := Tryz.isAgg107
  z173 := Tryz.sizeOf107
  v173 := Tryz.zeroValue107
  t212 := Tryz.underlying113
  a212 := Tryz.isAgg113
  z212 := Tryz.sizeOf113
  v212 := Tryz.zeroValue113
  t213 := Tryz.underlying115
  a213 := Tryz.isAgg115
  z213 := Tryz.sizeOf115
  t232 := Tryz.underlying120
  a232 := Tryz.isAgg120
  z232 := Tryz.sizeOf120
  v232 := Tryz.zeroValue120
  t233 := Tryz.underlying121
  a233 := Tryz.isAgg121
  z233 := Tryz.sizeOf121
  v233 := Tryz.zeroValue121
  g17 := by kernel_rfl
  g18 := by kernel_rfl
  g19 := by kernel_rfl
  i0 := by kernel_rfl
  i2 := by kernel_rfl
  i3 := by kernel_rfl
  i4 := by kernel_rfl
  i5 := by kernel_rfl
  i9 := by kernel_rfl
  i20 := by kernel_rfl
  i37 := by kernel_rfl
  i46 := by kernel_rfl
  i51 := by kernel_rfl
  i53 := by kernel_rfl
  i171 := by kernel_rfl
  i173 := by kernel_rfl
  i212 := by kernel_rfl
  i232 := by kernel_rfl
  i233 := by kernel_rfl
  m17 := by kernel_rfl
  m18 := by kernel_rfl
  m19 := by kernel_rfl }
theorem gPow : Tryz.prog.globalNamed "internal/strconv.uint64pow10" = some 3 := by kernel_rfl
theorem pow10_whole : (Lib.pow10Tab.map fun z => Value.int .u64 z).toArray = pow10V := by unfold Lib.pow10Tab pow10V; rw [List.map_map]; rfl
theorem Itoa_ok (n : Int) (h0 : -9223372036854775808 ≤ n) (h1 : n ≤ 9223372036854775807) : Calc cx 39 [.int .i64 n] (.str (Lib.itoa n)) :=
  .told (fun a w => Tryz.call39 a w) .str fun r w vs hi hv => by
    obtain ⟨hs, hv⟩ := hv
    have h := hv 0 (Nat.zero_lt_succ _)
    have hvs : vs = #[.int .i64 n] := by
      refine Array.ext_getElem? fun i => ?_
      match i with
      | 0 =>
        cases hx : vs[0]? with
        | none => rw [Array.getElem?_eq_none_iff] at hx; simp at hs; omega
        | some x =>
          have : vs.getD 0 undef = x := by simp [Array.getD_eq_getD_getElem?, hx]
          rw [this] at h
          cases h; rfl
      | i + 1 =>
        have : vs.size = 1 := hs
        rw [Array.getElem?_eq_none (by omega), Array.getElem?_eq_none (by simp)]
    subst hvs
    refine ⟨.string ⟨(Lib.itoa n).toArray⟩, fun w' => .str rfl, ?_⟩
    exact Any.strconv_Itoa laysItoa n h0 h1 w (by
      unfold Lib.TabIs
      rw [pow10_whole]
      exact hi.whole gPow rfl)
end Go.Proofs.YtmdegomejbpldaaGreatDoor
end
section
set_option linter.unusedVariables false
set_option linter.unusedSimpArgs false
set_option maxRecDepth 20000
set_option maxHeartbeats 4000000
namespace Go.Proofs.YtmdegomejbpldaaGreatDoor
open Go Go.Ab
theorem holdsW : HoldsB 45 2 := ⟨lble rfl, lble rfl, fun k => by kernel_rfl⟩
def wrB (v u : Nat) (a : AV) (bs : List UInt8) : Nat × Option Box := (v, some (bBox 45 a (.ms 1 u 0 bs.length 1 false) []))
def wyB (u : Nat) (bs : List UInt8) : Nat × Option Box := (u, some (byBox bs))
def wrH (v u : Nat) (a : AV) (bs : List UInt8) (τ : Heap) : Heap := wrB v u a bs :: wyB u bs :: τ
theorem wr_rn (v u : Nat) (a : AV) (ha : a = .nilp ∨ a = .ptr 0 v 0) (bs : List UInt8) : RnH (List.range 2) (wrH v u a bs []) (wrH v u a bs []) := by
  have h : Rn (List.range 2) a a := by
    rcases ha with rfl | rfl
    · exact .free .nilp
    · exact .ptr rfl
  exact .cons (.live (.cells (.cons h (.cons (.ms rfl) (.nil _))))) (.cons (.live (.cells (.free (bytes_fr bs)))) (.nil _))
theorem wr_low (v u : Nat) (a : AV) (ha : a = .nilp ∨ a = .ptr 0 v 0) (bs : List UInt8) (τ : Heap) : LowH 2 (wrH v u a bs τ) := by
  intro id ver x hid hx
  match id, hid with
  | 0, _ =>
    cases hx
    refine .cells fun y hy => ?_
    simp only [List.mem_cons, List.not_mem_nil, or_false] at hy
    rcases hy with rfl | rfl
    · rcases ha with rfl | rfl
      · exact .nilp
      · exact .ptr (by decide)
    · exact .ms (by decide)
  | 1, _ =>
    cases hx
    exact .cells fun y hy => Low.free (st := false) (bytes_fr bs y hy)
theorem wsT (v u : Nat) (a : AV) (ha : a = .nilp ∨ a = .ptr 0 v 0) (bs cs : List UInt8) (τ : Heap) (hl : bs.length + cs.length ≤ 140737488355328) :
    CallOk cx 21 [.ptr 0 v 0, .str cs] (wrH v u a bs τ) (fun o s => o = .ret (.tup [.int .i64 cs.length, .nili]) ∧ s = wrH v (u + 1) (.ptr 0 v 0) (bs ++ cs) τ) :=
  (writeString_ok (rest := []) holdsW v u a ha bs cs hl).pre1 2 τ rfl rfl (.cons (.ptr rfl) (.free (by intro y hy; simp at hy; subst hy; exact .str))) (wr_rn v u a ha bs) (wr_rn v (u + 1) (.ptr 0 v 0) (.inr rfl) (bs ++ cs)) (.free (.tup (by intro y hy; simp at hy; rcases hy with rfl | rfl; exact .int; exact .nili)))
structure PutSt where
  i : Nat
  a : AV
theorem flat_take (l : List (List UInt8)) (i : Nat) (h : i < l.length) : (l.take (i + 1)).flatten = (l.take i).flatten ++ l[i] := by
  rw [List.take_succ_eq_append_getElem h, List.flatten_append]; simp
theorem flat_take_le (l : List (List UInt8)) (i : Nat) : (l.take i).flatten.length ≤ l.flatten.length := by
  conv => rhs; rw [← List.take_append_drop i l, List.flatten_append, List.length_append]
  omega
theorem wput0 (v u : Nat) (a : AV) (ha : a = .nilp ∨ a = .ptr 0 v 0) (bs : List UInt8) (st fl : Bool) (l : List (List UInt8)) (hn : l.length ≤ 1000000000) (hl : bs.length + l.flatten.length ≤ 140737488355328) (hne : l ≠ []) :
    CallOk cx 16 [.ptr 0 v 0, .sl st fl 1 (texts l)] (wrH v u a bs []) (fun o s => o = .ret (.tup []) ∧ s = wrH v (u + l.length) (.ptr 0 v 0) (bs ++ l.flatten) []) :=
  callOk_intro (fun a w => Tryz.call16 a w) Tryz.func16 rfl Tryz.ntmps16 rfl fun B => by
    have htl := texts_len l
    refine pB [] rfl ?_
    refine S_while (α := PutSt) (fun q => [(0, .ptr 0 v 0), (6, .sl st fl 1 (texts l)), (7, .int .i64 (l.length : Nat)), (8, .int .i64 (q.i : Nat))]) (fun q => wrH v (u + q.i) q.a (bs ++ (l.take q.i).flatten) [])
      (fun q => q.i ≤ l.length ∧ (q.a = .nilp ∨ q.a = .ptr 0 v 0) ∧ (0 < q.i → q.a = .ptr 0 v 0)) (fun q => l.length - q.i) ⟨0, a⟩ ⟨Nat.zero_le _, ha, fun h => absurd h (Nat.lt_irrefl 0)⟩ (.cons rfl (.cons rfl (.cons (by show AV.int .i64 (((texts l).length : Nat) : Int) = _; rw [htl]) (.cons rfl (.nil _))))) (by show wrH v u a bs [] = wrH v (u + 0) a (bs ++ ([] : List (List UInt8)).flatten) []; simp) ?_
    rintro ⟨i, a1⟩ ⟨hi, ha1, hp⟩
    have hi : i ≤ l.length := hi
    have ha1 : a1 = .nilp ∨ a1 = .ptr 0 v 0 := ha1
    have hp : 0 < i → a1 = .ptr 0 v 0 := hp
    have hfl := flat_take_le l i
    show S cx _ B _ _ [(0, .ptr 0 v 0), (6, .sl st fl 1 (texts l)), (7, .int .i64 (l.length : Nat)), (8, .int .i64 (i : Nat))] (wrH v (u + i) a1 (bs ++ (l.take i).flatten) [])
    by_cases hlt : i < l.length
    · have hel : (texts l)[(i : Int).toNat]? = some (.str l[i]) := texts_get hlt
      have h1 := flat_take l i hlt
      have h2 := flat_take_le l (i + 1)
      rw [h1, List.length_append] at h2
      have hw := wsT v (u + i) a1 ha1 (bs ++ (l.take i).flatten) l[i] [] (by rw [List.length_append]; omega)
      refine pB [.b true, .v (.str l[i]), .f (.tup [.int .i64 l[i].length, .nili]) (fun _ => wrH v (u + i + 1) (.ptr 0 v 0) (bs ++ (l.take i).flatten ++ l[i]) [])] rfl ?_
      refine S_round ⟨i + 1, .ptr 0 v 0⟩ (by show l.length - (i + 1) < l.length - i; omega) ⟨hlt, .inr rfl, fun _ => rfl⟩ (.cons rfl (.cons rfl (.cons rfl (.cons (nX (by omega)) (.nil _))))) ?_
      show wrH v (u + i + 1) (.ptr 0 v 0) (bs ++ (l.take i).flatten ++ l[i]) [] = wrH v (u + (i + 1)) (.ptr 0 v 0) (bs ++ (l.take (i + 1)).flatten) []
      rw [h1, List.append_assoc]; rfl
    · obtain rfl : i = l.length := by omega
      have hpos : 0 < l.length := List.length_pos_iff.2 hne
      obtain rfl := hp hpos
      rw [List.take_length]
      refine pB [.b false] rfl ?_
      exact S_nil ⟨_, _, rfl, trivial, rfl, rfl⟩
theorem wput_ok (v u : Nat) (a : AV) (ha : a = .nilp ∨ a = .ptr 0 v 0) (bs : List UInt8) (st fl : Bool) (l : List (List UInt8)) (τ : Heap) (hn : l.length ≤ 1000000000) (hl : bs.length + l.flatten.length ≤ 140737488355328) (hne : l ≠ []) :
    CallOk cx 16 [.ptr 0 v 0, .sl st fl 1 (texts l)] (wrH v u a bs τ) (fun o s => o = .ret (.tup []) ∧ s = wrH v (u + l.length) (.ptr 0 v 0) (bs ++ l.flatten) τ) :=
  (wput0 v u a ha bs st fl l hn hl hne).pre1 2 τ rfl rfl (.cons (.ptr rfl) (.free (by intro y hy; simp at hy; subst hy; exact .sl (fun h => by cases h) (textsF l)))) (wr_rn v u a ha bs) (wr_rn v _ (.ptr 0 v 0) (.inr rfl) _) (.free (.tup (by simp)))
theorem dput (v u : Nat) (a : AV) (ha : a = .nilp ∨ a = .ptr 0 v 0) (bs : List UInt8) (st fl : Bool) (l : List (List UInt8)) (yc : List AV) (yg : Tag) (hn : l.length ≤ 1000000000) (hl : bs.length + l.flatten.length ≤ 140737488355328) (hne : l ≠ []) {R : Md → Heap → Prop} (hR : R .ret (wrH v (u + l.length) (.ptr 0 v 0) (bs ++ l.flatten) [(0, some (.cells yc yg))])) :
    DCall cx (.func (.func 16) [.ptr 0 v 0, .sl st fl 1 (texts l)] []) .ret (wrH v u a bs [(0, some (.cells yc yg))]) R :=
  dcall_intro (fun a w => Tryz.call16 a w) Tryz.func16 rfl Tryz.ntmps16 rfl fun B => by
    have htl := texts_len l
    refine pB [] rfl ?_
    refine S_while (α := PutSt) (fun q => [(0, .ptr 0 v 0), (6, .sl st fl 1 (texts l)), (7, .int .i64 (l.length : Nat)), (8, .int .i64 (q.i : Nat))]) (fun q => wrH v (u + q.i) q.a (bs ++ (l.take q.i).flatten) [(0, some (.cells yc yg))])
      (fun q => q.i ≤ l.length ∧ (q.a = .nilp ∨ q.a = .ptr 0 v 0) ∧ (0 < q.i → q.a = .ptr 0 v 0)) (fun q => l.length - q.i) ⟨0, a⟩ ⟨Nat.zero_le _, ha, fun h => absurd h (Nat.lt_irrefl 0)⟩ (.cons rfl (.cons rfl (.cons (by show AV.int .i64 (((texts l).length : Nat) : Int) = _; rw [htl]) (.cons rfl (.nil _))))) (by show wrH v u a bs [(0, some (.cells yc yg))] = wrH v (u + 0) a (bs ++ ([] : List (List UInt8)).flatten) [(0, some (.cells yc yg))]; simp) ?_
    rintro ⟨i, a1⟩ ⟨hi, ha1, hp⟩
    have hi : i ≤ l.length := hi
    have ha1 : a1 = .nilp ∨ a1 = .ptr 0 v 0 := ha1
    have hp : 0 < i → a1 = .ptr 0 v 0 := hp
    have hfl := flat_take_le l i
    show S cx _ B _ _ [(0, .ptr 0 v 0), (6, .sl st fl 1 (texts l)), (7, .int .i64 (l.length : Nat)), (8, .int .i64 (i : Nat))] (wrH v (u + i) a1 (bs ++ (l.take i).flatten) [(0, some (.cells yc yg))])
    by_cases hlt : i < l.length
    · have hel : (texts l)[(i : Int).toNat]? = some (.str l[i]) := texts_get hlt
      have h1 := flat_take l i hlt
      have h2 := flat_take_le l (i + 1)
      rw [h1, List.length_append] at h2
      have hw := wsT v (u + i) a1 ha1 (bs ++ (l.take i).flatten) l[i] [(0, some (.cells yc yg))] (by rw [List.length_append]; omega)
      refine pB [.b true, .v (.str l[i]), .f (.tup [.int .i64 l[i].length, .nili]) (fun _ => wrH v (u + i + 1) (.ptr 0 v 0) (bs ++ (l.take i).flatten ++ l[i]) [(0, some (.cells yc yg))])] rfl ?_
      refine S_round ⟨i + 1, .ptr 0 v 0⟩ (by show l.length - (i + 1) < l.length - i; omega) ⟨hlt, .inr rfl, fun _ => rfl⟩ (.cons rfl (.cons rfl (.cons rfl (.cons (nX (by omega)) (.nil _))))) ?_
      show wrH v (u + i + 1) (.ptr 0 v 0) (bs ++ (l.take i).flatten ++ l[i]) [(0, some (.cells yc yg))] = wrH v (u + (i + 1)) (.ptr 0 v 0) (bs ++ (l.take (i + 1)).flatten) [(0, some (.cells yc yg))]
      rw [h1, List.append_assoc]; rfl
    · obtain rfl : i = l.length := by omega
      have hpos : 0 < l.length := List.length_pos_iff.2 hne
      obtain rfl := hp hpos
      rw [List.take_length]
      refine pB [.b false] rfl ?_
      exact S_nil ⟨_, _, rfl, trivial, _, rfl, hR⟩
theorem apart_ok (x : Ex) : Calc cx 64 [exA x] (.bool (apart x)) :=
  pure_intro (fun a w => Tryz.call64 a w) Tryz.func64 rfl Tryz.ntmps64 rfl .bool fun B => by
    obtain ⟨k, n, t, ks, ns⟩ := x
    show S cx _ B _ (retQ cx _ fun o σ' => ∃ v, o = .ret v ∧ Frz true σ' v (.bool (k == 12 || k == 13 || k == 14))) _ _
    by_cases h1 : k = 12
    · have e1 : ((k : Int) == 12) = true := by rw [h1]; rfl
      refine pB [.b true, .b true] rfl ?_
      refine S_retc .bool rfl trivial ?_
      rw [h1]; rfl
    have e1 : ((k : Int) == 12) = false := beq_false_of_ne (by omega)
    by_cases h2 : k = 13
    · have e2 : ((k : Int) == 13) = true := by rw [h2]; rfl
      refine pB [.b false, .b true] rfl ?_
      refine S_retc .bool rfl trivial ?_
      rw [h2]; rfl
    have e2 : ((k : Int) == 13) = false := beq_false_of_ne (by omega)
    refine pB [.b false, .b false] rfl ?_
    refine S_retc .bool rfl trivial ?_
    show AV.bool ((k : Int) == ((14 : Nat) : Int)) = _
    rw [show ((k : Int) == ((14 : Nat) : Int)) = (k == 14) by rw [Bool.eq_iff_iff, beq_iff_eq, beq_iff_eq]; omega, beq_false_of_ne h1, beq_false_of_ne h2]; rfl
def Wr (f : FuncId) (x : Ex) (p : Pcs) : Prop := ∀ (v u : Nat) (a : AV) (bs : List UInt8), (a = .nilp ∨ a = .ptr 0 v 0) → bs.length + p.flatten.length ≤ 70000000000000 →
  CallOk cx f [.ptr 0 v 0, exA x] (wrH v u a bs []) (fun o s => o = .ret (.tup []) ∧ s = wrH v (u + p.length) (.ptr 0 v 0) (bs ++ p.flatten) [])
theorem Wr.tail {f : FuncId} {x : Ex} {p : Pcs} (h : Wr f x p) (v u : Nat) (a : AV) (bs : List UInt8) (τ : Heap) (ha : a = .nilp ∨ a = .ptr 0 v 0) (hl : bs.length + p.flatten.length ≤ 70000000000000) :
    CallOk cx f [.ptr 0 v 0, exA x] (wrH v u a bs τ) (fun o s => o = .ret (.tup []) ∧ s = wrH v (u + p.length) (.ptr 0 v 0) (bs ++ p.flatten) τ) :=
  (h v u a bs ha hl).pre1 2 τ rfl rfl (.cons (.ptr rfl) (.free (by intro y hy; simp at hy; subst hy; exact exA_free x))) (wr_rn v u a ha bs) (wr_rn v (u + p.length) (.ptr 0 v 0) (.inr rfl) (bs ++ p.flatten)) (.free (.tup (by simp)))
theorem wfin {v u : Nat} {bs : List UInt8} {τ : Heap} : TR 2 (fun o s => o = .ret (.tup []) ∧ s = wrH v u (.ptr 0 v 0) bs []) (.ret (.tup [])) (wrH v u (.ptr 0 v 0) bs τ) :=
  ⟨2, Nat.le_refl _, wr_low _ _ _ (.inr rfl) _ _, .tup [], .low (.tup (by simp)), rfl, rfl⟩
end Go.Proofs.YtmdegomejbpldaaGreatDoor
end
section
set_option linter.unusedVariables false
set_option linter.unusedSimpArgs false
set_option maxRecDepth 20000
set_option maxHeartbeats 4000000
namespace Go.Proofs.YtmdegomejbpldaaGreatDoor
open Go Go.Ab
theorem apart_ok' (k n : Nat) (t : List UInt8) (ks : List Ex) (ns : List (List UInt8)) {b : Bool} (hb : apart (.mk k n t ks ns) = b) : Calc cx 64 [.agg [.int .i64 (k : Nat), .int .i64 (n : Nat), .str t, .sl true false 5 (exL ks), .sl true false 1 (texts ns)]] (.bool b) := by
  subst hb; exact apart_ok (.mk k n t ks ns)
theorem exT_free {st : Bool} (k n : Nat) (t : List UInt8) (ks : List Ex) (ns : List (List UInt8)) : Free st (.agg [.int .i64 (k : Nat), .int .i64 (n : Nat), .str t, .sl true false 5 (exL ks), .sl true false 1 (texts ns)]) := exA_free (st := st) (.mk k n t ks ns)
def exBx (k n : Nat) (t : List UInt8) (ks : List Ex) (ns : List (List UInt8)) : Nat × Option Box := (0, some (.cells [.int .i64 (k : Nat), .int .i64 (n : Nat), .str t, .sl true false 5 (exL ks), .sl true false 1 (texts ns)] ⟨false, some 36⟩))
theorem wput1 (v u : Nat) (a : AV) (ha : a = .nilp ∨ a = .ptr 0 v 0) (bs s : List UInt8) (τ : Heap) (hl : bs.length + s.length ≤ 70000000000000) :
    CallOk cx 16 [.ptr 0 v 0, .sl true true 1 [.str s]] (wrH v u a bs τ) (fun o h => o = .ret (.tup []) ∧ h = wrH v (u + 1) (.ptr 0 v 0) (bs ++ s) τ) := by
  have h := wput_ok v u a ha bs true true [s] τ (by simp) (by exact fl) (by simp)
  rw [show [s].flatten = s by simp] at h
  exact h
theorem inner_ok (x : Ex) (p : Pcs) (h : Wr 22 x p) : Wr 43 x (brk (apart x) p) := by
  intro v u a bs ha hl
  exact callOk_trunc (callOk_introD (fun a w => Tryz.call43 a w) Tryz.func43 rfl Tryz.ntmps43 rfl fun B hB => by
    obtain ⟨k, n, t, ks, ns⟩ := x
    obtain ⟨b, hb⟩ : ∃ b, apart (.mk k n t ks ns) = b := ⟨_, rfl⟩
    have hap := apart_ok' k n t ks ns hb
    rw [hb] at hl ⊢
    cases b with
    | false =>
      have ht := h.tail v u a bs [exBx k n t ks ns] ha hl
      refine pa [.v (.bool false), .b false, .f (.tup []) (fun _ => wrH v (u + p.length) (.ptr 0 v 0) (bs ++ p.flatten) [exBx k n t ks ns])] rfl ?_ ?_
      · (repeat' with_reducible apply AllP_cons) <;> try exact aC
        · exact ⟨_, hap, .cons (.refl (exT_free k n t ks ns)) (.nil _)⟩
      exact S_nil ⟨_, rfl, _, _, rfl, trivial, wfin⟩
    | true =>
      have e1 : (brk true p).length = p.length + 2 := by show ([[40]] ++ p ++ [[41]]).length = _; exact fl
      have e2 : (brk true p).flatten = [40] ++ p.flatten ++ [41] := by simp [brk]
      rw [e2] at hl
      rw [e1, e2]
      have hp1 := wput1 v u a ha bs [40] [exBx k n t ks ns] (by exact fl)
      have ht := h.tail v (u + 1) (.ptr 0 v 0) (bs ++ [40]) [exBx k n t ks ns] (.inr rfl) (by exact fl)
      refine pa [.v (.bool true), .b true, .f (.tup []) (fun _ => wrH v (u + 1) (.ptr 0 v 0) (bs ++ [40]) [exBx k n t ks ns])] rfl ?_ ?_
      · (repeat' with_reducible apply AllP_cons) <;> try exact aC
        · exact ⟨_, hap, .cons (.refl (exT_free k n t ks ns)) (.nil _)⟩
      refine pB [] rfl ?_
      refine S_defer rfl rfl rfl rfl hB ?_
      refine pB [.f (.tup []) (fun _ => wrH v (u + 1 + p.length) (.ptr 0 v 0) (bs ++ [40] ++ p.flatten) [exBx k n t ks ns])] rfl ?_
      refine S_nil ⟨_, rfl, dput v (u + 1 + p.length) (.ptr 0 v 0) (.inr rfl) (bs ++ [40] ++ p.flatten) true true [[41]] _ _ (by decide) (by exact fl) (by simp) ⟨_, _, rfl, trivial, ?_⟩⟩
      have : wrH v (u + 1 + p.length + 1) (.ptr 0 v 0) (bs ++ [40] ++ p.flatten ++ [41]) [exBx k n t ks ns] = wrH v (u + (p.length + 2)) (.ptr 0 v 0) (bs ++ ([40] ++ p.flatten ++ [41])) [exBx k n t ks ns] := by
        rw [show u + 1 + p.length + 1 = u + (p.length + 2) by omega]; simp only [List.append_assoc]
      exact this ▸ wfin)
def Clo (g : FuncId) (caps : List AV) (v : Nat) (τ : Heap) (i : Nat) (p : Pcs) : Prop := ∀ (u : Nat) (bs : List UInt8), bs.length + p.flatten.length ≤ 70000000000000 →
  CallOk cx g ([] ++ [.int .i64 (i : Nat)] ++ caps) (wrH v u (.ptr 0 v 0) bs τ) (fun o s => o = .ret (.tup []) ∧ s = wrH v (u + p.length) (.ptr 0 v 0) (bs ++ p.flatten) τ)
theorem eachA_le (sep : List UInt8) (l : List Pcs) (i : Nat) (h : i ≤ l.length) : (eachA sep (l.take i)).flatten.length ≤ (eachA sep l).flatten.length := by
  induction hk : l.length - i generalizing i with
  | zero =>
    rw [List.take_of_length_le (by omega)]; exact Nat.le_refl _
  | succ n ih =>
    have := ih (i + 1) (by omega) (by omega)
    rw [eachA_take _ _ _ (by omega), List.flatten_append, List.length_append] at this
    omega
theorem each_ok (g : FuncId) (caps : List AV) (v u : Nat) (bs sep : List UInt8) (v1 v2 v3 : Nat) (c1 c2 c3 : List AV) (g1 g2 g3 : Tag) (l : List Pcs) (hn : l.length ≤ 1000000000)
    (hC : ∀ i (h : i < l.length), Clo g caps v [(v1, some (.cells c1 g1)), (v2, some (.cells c2 g2)), (v3, some (.cells c3 g3))] i l[i]) (hl : bs.length + (eachA sep l).flatten.length ≤ 70000000000000) :
    CallOk cx 40 [.ptr 0 v 0, .int .i64 (l.length : Nat), .str sep, .func (.func g) [] caps] (wrH v u (.ptr 0 v 0) bs [(v1, some (.cells c1 g1)), (v2, some (.cells c2 g2)), (v3, some (.cells c3 g3))])
      (fun o s => o = .ret (.tup []) ∧ s = wrH v (u + (eachA sep l).length) (.ptr 0 v 0) (bs ++ (eachA sep l).flatten) [(v1, some (.cells c1 g1)), (v2, some (.cells c2 g2)), (v3, some (.cells c3 g3))]) :=
  callOk_intro (fun a w => Tryz.call40 a w) Tryz.func40 rfl Tryz.ntmps40 rfl fun B => by
    refine pB [] rfl ?_
    refine S_while (α := Nat) (fun i => [(0, .ptr 0 v 0), (2, .str sep), (3, .func (.func g) [] caps), (9, .int .i64 (l.length : Nat)), (10, .int .i64 (i : Nat))]) (fun i => wrH v (u + (eachA sep (l.take i)).length) (.ptr 0 v 0) (bs ++ (eachA sep (l.take i)).flatten) [(v1, some (.cells c1 g1)), (v2, some (.cells c2 g2)), (v3, some (.cells c3 g3))])
      (fun i => i ≤ l.length) (fun i => l.length - i) 0 (Nat.zero_le _) (.cons rfl (.cons rfl (.cons rfl (.cons rfl (.cons rfl (.nil _)))))) (by show wrH v u _ bs _ = wrH v (u + 0) _ (bs ++ []) _; simp) ?_
    intro i hi
    have hi : i ≤ l.length := hi
    by_cases hlt : i < l.length
    · have hle := eachA_le sep l (i + 1) hlt
      have he := eachA_take sep l i hlt
      have hC := hC i hlt
      rw [he, List.flatten_append, List.flatten_append, List.length_append, List.length_append] at hle
      by_cases h0 : 0 < i
      · rw [if_pos h0] at he hle
        simp only [List.flatten_cons, List.flatten_nil, List.append_nil] at hle
        have hp1 := wput1 v (u + (eachA sep (l.take i)).length) (.ptr 0 v 0) (.inr rfl) (bs ++ (eachA sep (l.take i)).flatten) sep [(v1, some (.cells c1 g1)), (v2, some (.cells c2 g2)), (v3, some (.cells c3 g3))] (by exact fl)
        have hc := hC (u + (eachA sep (l.take i)).length + 1) (bs ++ (eachA sep (l.take i)).flatten ++ sep) (by exact fl)
        refine pB [.b true, .b true, .f (.tup []) (fun _ => wrH v (u + (eachA sep (l.take i)).length + 1) (.ptr 0 v 0) (bs ++ (eachA sep (l.take i)).flatten ++ sep) [(v1, some (.cells c1 g1)), (v2, some (.cells c2 g2)), (v3, some (.cells c3 g3))]), .f (.tup []) (fun _ => wrH v (u + (eachA sep (l.take i)).length + 1 + l[i].length) (.ptr 0 v 0) (bs ++ (eachA sep (l.take i)).flatten ++ sep ++ l[i].flatten) [(v1, some (.cells c1 g1)), (v2, some (.cells c2 g2)), (v3, some (.cells c3 g3))])] rfl ?_
        refine S_round (i + 1) (by show l.length - (i + 1) < l.length - i; omega) hlt (.cons rfl (.cons rfl (.cons rfl (.cons rfl (.cons (nX (by omega)) (.nil _)))))) ?_
        rw [he]
        simp only [List.length_append, List.flatten_append, List.flatten_cons, List.flatten_nil, List.append_nil, List.length_cons, List.length_nil, List.append_assoc]
        rw [show u + ((eachA sep (l.take i)).length + (0 + 1 + l[i].length)) = u + (eachA sep (l.take i)).length + 1 + l[i].length by omega]
        rfl
      · obtain rfl : i = 0 := by omega
        rw [if_neg h0] at he hle
        have hc := hC (u + (eachA sep (l.take 0)).length) (bs ++ (eachA sep (l.take 0)).flatten) (by exact fl)
        refine pB [.b true, .b false, .f (.tup []) (fun _ => wrH v (u + (eachA sep (l.take 0)).length + l[0].length) (.ptr 0 v 0) (bs ++ (eachA sep (l.take 0)).flatten ++ l[0].flatten) [(v1, some (.cells c1 g1)), (v2, some (.cells c2 g2)), (v3, some (.cells c3 g3))])] rfl ?_
        refine S_round (0 + 1) (by show l.length - (0 + 1) < l.length - 0; omega) hlt (.cons rfl (.cons rfl (.cons rfl (.cons rfl (.cons (nX (by omega)) (.nil _)))))) ?_
        rw [he]
        simp only [List.length_append, List.flatten_append, List.flatten_nil, List.append_nil, List.nil_append, List.length_nil, List.append_assoc, Nat.add_assoc]
        rfl
    · obtain rfl : i = l.length := by omega
      rw [List.take_length]
      refine pB [.b false] rfl ?_
      exact S_nil ⟨_, _, rfl, trivial, rfl, rfl⟩
end Go.Proofs.YtmdegomejbpldaaGreatDoor
end
section
set_option linter.unusedVariables false
set_option linter.unusedSimpArgs false
set_option maxRecDepth 20000
set_option maxHeartbeats 4000000
namespace Go.Proofs.YtmdegomejbpldaaGreatDoor
open Go Go.Ab
def qBx (v : Nat) : Nat × Option Box := (0, some (.cells [.ptr 0 v 0] ⟨false, none⟩))
def kBx (ks : List Ex) : Nat × Option Box := (0, some (.cells [.sl true false 5 (exL ks)] ⟨false, none⟩))
def tH (v k n : Nat) (t : List UInt8) (ks : List Ex) (ns : List (List UInt8)) : Heap := [qBx v, exBx k n t ks ns, kBx ks]
theorem wfinE {v u u' : Nat} {bs bs' : List UInt8} {τ : Heap} (hu : u = u') (hb : bs = bs') : TR 2 (fun o s => o = .ret (.tup []) ∧ s = wrH v u' (.ptr 0 v 0) bs' []) (.ret (.tup [])) (wrH v u (.ptr 0 v 0) bs τ) := by
  subst hu; subst hb; exact wfin
theorem exL_get {ks : List Ex} {i : Nat} (h : i < ks.length) {y : Ex} (hy : ks[i] = y) : (exL ks)[(i : Int).toNat]? = some (exA y) := by
  subst hy
  rw [exL_map, List.getElem?_map, Int.toNat_natCast, List.getElem?_eq_getElem h]; rfl
theorem clo1 (v k n : Nat) (t : List UInt8) (ks : List Ex) (ns : List (List UInt8)) (i : Nat) (h : i < ks.length) (p : Pcs) (hp : Wr 22 ks[i] p) :
    Clo 41 [.ptr 2 0 0, .ptr 4 0 0] v (tH v k n t ks ns) i p := by
  intro u bs hl
  obtain ⟨y, hy⟩ : ∃ y, ks[i] = y := ⟨_, rfl⟩
  have he := exL_get h hy
  rw [hy] at hp
  obtain ⟨yk, yn, yt, ys, ym⟩ := y
  have hw := hp.tail v u (.ptr 0 v 0) bs (tH v k n t ks ns) (.inr rfl) hl
  exact callOk_intro (fun a w => Tryz.call41 a w) Tryz.func41 rfl Tryz.ntmps41 rfl fun B => by
    refine pB [.v (exA (.mk yk yn yt ys ym)), .f (.tup []) (fun _ => wrH v (u + p.length) (.ptr 0 v 0) (bs ++ p.flatten) (tH v k n t ks ns))] rfl ?_
    exact S_nil ⟨_, _, rfl, trivial, rfl, rfl⟩
theorem clo2 (v k n : Nat) (t : List UInt8) (ks : List Ex) (ns : List (List UInt8)) (i : Nat) (h : i < ks.length) (p : Pcs) (hp : Wr 22 ks[i] p) (hn : ks.length ≤ 1000000) :
    Clo 42 [.ptr 2 0 0, .ptr 4 0 0] v (tH v k n t ks ns) i ((if 0 < i then [sepD i] else []) ++ p) := by
  intro u bs hl
  obtain ⟨y, hy⟩ : ∃ y, ks[i] = y := ⟨_, rfl⟩
  have he := exL_get h hy
  rw [hy] at hp
  obtain ⟨yk, yn, yt, ys, ym⟩ := y
  have hmd : (i : Int).tmod 2 = ((i % 2 : Nat) : Int) := by rw [Int.tmod_eq_emod_of_nonneg (by omega)]; rfl
  by_cases h0 : 0 < i
  · rw [if_pos h0] at hl ⊢
    have hl' : bs.length + (sepD i).length + p.flatten.length ≤ 70000000000000 := by exact fl
    have h1 := wput1 v u (.ptr 0 v 0) (.inr rfl) bs (sepD i) (tH v k n t ks ns) (by omega)
    have hw := hp.tail v (u + 1) (.ptr 0 v 0) (bs ++ sepD i) (tH v k n t ks ns) (.inr rfl) (by exact fl)
    exact callOk_intro (fun a w => Tryz.call42 a w) Tryz.func42 rfl Tryz.ntmps42 rfl fun B => by
      refine pa [.b true, .v (.str (sepD i)), .f (.tup []) (fun _ => wrH v (u + 1) (.ptr 0 v 0) (bs ++ sepD i) (tH v k n t ks ns)), .v (exA (.mk yk yn yt ys ym)), .f (.tup []) (fun _ => wrH v (u + 1 + p.length) (.ptr 0 v 0) (bs ++ sepD i ++ p.flatten) (tH v k n t ks ns))] rfl ?_ ?_
      · (repeat' with_reducible apply AllP_cons) <;> try exact aC
        · rw [hmd, Int.toNat_natCast]
          unfold sepD
          rcases Nat.mod_two_eq_zero_or_one i with h | h <;> rw [h] <;> rfl
      refine S_nil ⟨_, _, rfl, trivial, rfl, ?_⟩
      show wrH _ _ _ _ _ = wrH _ _ _ _ _
      simp only [List.length_append, List.length_cons, List.length_nil, List.flatten_append, List.flatten_cons, List.flatten_nil, List.append_nil, List.append_assoc]
      rw [show u + (0 + 1 + p.length) = u + 1 + p.length by omega]
      rfl
  · rw [if_neg h0] at hl ⊢
    have hw := hp.tail v u (.ptr 0 v 0) bs (tH v k n t ks ns) (.inr rfl) hl
    exact callOk_intro (fun a w => Tryz.call42 a w) Tryz.func42 rfl Tryz.ntmps42 rfl fun B => by
      refine pB [.b false, .v (exA (.mk yk yn yt ys ym)), .f (.tup []) (fun _ => wrH v (u + p.length) (.ptr 0 v 0) (bs ++ p.flatten) (tH v k n t ks ns))] rfl ?_
      exact S_nil ⟨_, _, rfl, trivial, rfl, rfl⟩
theorem clo3 (v k n : Nat) (t : List UInt8) (ks : List Ex) (ns : List (List UInt8)) (i : Nat) (h : i + 1 < ks.length) (p : Pcs) (hp : Wr 22 ks[i + 1] p) (hn : ks.length ≤ 1000000) (hm : ns.length + 1 ≤ ks.length) :
    Clo 44 [.ptr 4 0 0, .ptr 3 0 0, .ptr 2 0 0] v (tH v k n t ks ns) i ((if ks.length - 1 - ns.length ≤ i then [ns.getD (i - (ks.length - 1 - ns.length)) [], [61]] else []) ++ p) := by
  intro u bs hl
  obtain ⟨y, hy⟩ : ∃ y, ks[i + 1] = y := ⟨_, rfl⟩
  have he := exL_get h hy
  rw [hy] at hp
  obtain ⟨yk, yn, yt, ys, ym⟩ := y
  have hln : (exL ks).length = ks.length := by rw [exL_map]; simp
  have htn := texts_len ns
  have hwr : IntKind.i64.wrap ((i : Int) - IntKind.i64.wrap (IntKind.i64.wrap (((exL ks).length : Nat) - 1) - ((texts ns).length : Nat))) = (i : Int) - ((ks.length : Int) - 1 - (ns.length : Int)) := by
    rw [hln, htn, IntWalk.i64_in ((ks.length : Int) - 1) ⟨by omega, by omega⟩, IntWalk.i64_in ((ks.length : Int) - 1 - (ns.length : Int)) ⟨by omega, by omega⟩, IntWalk.i64_in _ ⟨by omega, by omega⟩]
  have hw1 : IntKind.i64.wrap ((i : Int) + 1) = ((i + 1 : Nat) : Int) := by rw [IntWalk.i64_in _ ⟨by omega, by omega⟩]; rfl
  by_cases h0 : ks.length - 1 - ns.length ≤ i
  · rw [if_pos h0] at hl ⊢
    obtain ⟨j, hj⟩ : ∃ j, j = i - (ks.length - 1 - ns.length) := ⟨_, rfl⟩
    rw [← hj] at hl ⊢
    have hjl : j < ns.length := by omega
    have hjs : ns.getD j [] = ns[j] := by simp [List.getD, hjl]
    rw [hjs] at hl ⊢
    have hel : (texts ns)[(j : Int).toNat]? = some (.str ns[j]) := texts_get hjl
    have h1 := wput_ok v u (.ptr 0 v 0) (.inr rfl) bs true true [ns[j], [61]] (tH v k n t ks ns) (by simp) (by exact fl) (by simp)
    rw [show [ns[j], [61]].flatten = ns[j] ++ [61] by simp] at h1
    have hw := hp.tail v (u + 2) (.ptr 0 v 0) (bs ++ (ns[j] ++ [61])) (tH v k n t ks ns) (.inr rfl) (by exact fl)
    exact callOk_intro (fun a w => Tryz.call44 a w) Tryz.func44 rfl Tryz.ntmps44 rfl fun B => by
      refine pa [.b true, .v (.str ns[j]), .f (.tup []) (fun _ => wrH v (u + 2) (.ptr 0 v 0) (bs ++ (ns[j] ++ [61])) (tH v k n t ks ns)), .v (exA (.mk yk yn yt ys ym)), .f (.tup []) (fun _ => wrH v (u + 2 + p.length) (.ptr 0 v 0) (bs ++ (ns[j] ++ [61]) ++ p.flatten) (tH v k n t ks ns))] rfl ?_ ?_
      · (repeat' with_reducible apply AllP_cons) <;> try exact aC
        · rw [hwr, show (i : Int) - ((ks.length : Int) - 1 - (ns.length : Int)) = (j : Int) by omega]; exact hel
        · rw [hw1]; exact he
      refine S_nil ⟨_, _, rfl, trivial, rfl, ?_⟩
      show wrH _ _ _ _ _ = wrH _ _ _ _ _
      simp only [List.length_append, List.length_cons, List.length_nil, List.flatten_append, List.flatten_cons, List.flatten_nil, List.append_nil, List.append_assoc]
      rw [show u + (0 + 1 + 1 + p.length) = u + 2 + p.length by omega]
      rfl
  · rw [if_neg h0] at hl ⊢
    have hw := hp.tail v u (.ptr 0 v 0) bs (tH v k n t ks ns) (.inr rfl) hl
    exact callOk_intro (fun a w => Tryz.call44 a w) Tryz.func44 rfl Tryz.ntmps44 rfl fun B => by
      refine pa [.b false, .v (exA (.mk yk yn yt ys ym)), .f (.tup []) (fun _ => wrH v (u + p.length) (.ptr 0 v 0) (bs ++ p.flatten) (tH v k n t ks ns))] rfl ?_ ?_
      · (repeat' with_reducible apply AllP_cons) <;> try exact aC
        · rw [hw1]; exact he
      exact S_nil ⟨_, _, rfl, trivial, rfl, rfl⟩
end Go.Proofs.YtmdegomejbpldaaGreatDoor
end
section
set_option linter.unusedVariables false
set_option linter.unusedSimpArgs false
set_option maxRecDepth 20000
set_option maxHeartbeats 4000000
namespace Go.Proofs.YtmdegomejbpldaaGreatDoor
open Go Go.Ab
abbrev WX := 22
theorem wex1 (n : Nat) (t : List UInt8) (ks : List Ex) (ns : List (List UInt8)) : Wr WX (.mk 1 n t ks ns) [wNone] := by
  intro v u a bs ha hl
  exact callOk_introT (fun a w => Tryz.call22 a w) Tryz.func22 rfl Tryz.ntmps22 rfl fun B => by
    have h1 := wput1 v u a ha bs wNone (tH v 1 n t ks ns) (by exact fl)
    refine pB [.b true, .b true, .v (.str wNone), .f (.tup []) (fun _ => wrH v (u + 1) (.ptr 0 v 0) (bs ++ wNone) (tH v 1 n t ks ns))] rfl ?_
    exact S_nil ⟨_, _, rfl, trivial, wfinE rfl (by simp)⟩
theorem wex2 (n : Nat) (t : List UInt8) (ks : List Ex) (ns : List (List UInt8)) : Wr WX (.mk 2 n t ks ns) [wTrue] := by
  intro v u a bs ha hl
  exact callOk_introT (fun a w => Tryz.call22 a w) Tryz.func22 rfl Tryz.ntmps22 rfl fun B => by
    have h1 := wput1 v u a ha bs wTrue (tH v 2 n t ks ns) (by exact fl)
    refine pB [.b false, .b true, .b true, .v (.str wTrue), .f (.tup []) (fun _ => wrH v (u + 1) (.ptr 0 v 0) (bs ++ wTrue) (tH v 2 n t ks ns))] rfl ?_
    exact S_nil ⟨_, _, rfl, trivial, wfinE rfl (by simp)⟩
theorem wex3 (n : Nat) (t : List UInt8) (ks : List Ex) (ns : List (List UInt8)) : Wr WX (.mk 3 n t ks ns) [wFalse] := by
  intro v u a bs ha hl
  exact callOk_introT (fun a w => Tryz.call22 a w) Tryz.func22 rfl Tryz.ntmps22 rfl fun B => by
    have h1 := wput1 v u a ha bs wFalse (tH v 3 n t ks ns) (by exact fl)
    refine pB [.b false, .b false, .b true, .v (.str wFalse), .f (.tup []) (fun _ => wrH v (u + 1) (.ptr 0 v 0) (bs ++ wFalse) (tH v 3 n t ks ns))] rfl ?_
    exact S_nil ⟨_, _, rfl, trivial, wfinE rfl (by simp)⟩
theorem wex4 (n : Nat) (hn : n ≤ 9007199254740991) (t : List UInt8) (ks : List Ex) (ns : List (List UInt8)) : Wr WX (.mk 4 n t ks ns) [Lib.itoa n] := by
  intro v u a bs ha hl
  exact callOk_introT (fun a w => Tryz.call22 a w) Tryz.func22 rfl Tryz.ntmps22 rfl fun B => by
    have h0 := Itoa_ok (n : Nat) (by omega) (by omega)
    have h1 := wput1 v u a ha bs (Lib.itoa n) (tH v 4 n t ks ns) (by exact fl)
    refine pa [.b false, .b false, .b false, .b true, .v (.str (Lib.itoa n)), .f (.tup []) (fun _ => wrH v (u + 1) (.ptr 0 v 0) (bs ++ Lib.itoa n) (tH v 4 n t ks ns))] rfl ?_ ?_
    · (repeat' with_reducible apply AllP_cons) <;> try exact aC
      exact ⟨_, h0, .cons (.refl .int) (.nil _)⟩
    exact S_nil ⟨_, _, rfl, trivial, wfinE rfl (by simp)⟩
theorem quoT_ge (t : List UInt8) : t.length + 2 ≤ (quoT t).length := by
  have h : ∀ t : List UInt8, t.length ≤ (t.flatMap quoC).length := fun t => by
    induction t with
    | nil => exact Nat.le_refl _
    | cons c r ih =>
      have : 1 ≤ (quoC c).length := by unfold quoC; (repeat' split) <;> simp
      rw [List.flatMap_cons, List.length_append, List.length_cons]; omega
  have := h t
  unfold quoT; exact fl
theorem wex5 (n : Nat) (t : List UInt8) (ks : List Ex) (ns : List (List UInt8)) : Wr WX (.mk 5 n t ks ns) [quoT t] := by
  intro v u a bs ha hl
  have hge := quoT_ge t
  exact callOk_introT (fun a w => Tryz.call22 a w) Tryz.func22 rfl Tryz.ntmps22 rfl fun B => by
    have h0 := Quote_ok t (by exact fl)
    have h1 := wput1 v u a ha bs (quoT t) (tH v 5 n t ks ns) (by exact fl)
    refine pa [.b false, .b false, .b false, .b false, .b true, .v (.str (quoT t)), .f (.tup []) (fun _ => wrH v (u + 1) (.ptr 0 v 0) (bs ++ quoT t) (tH v 5 n t ks ns))] rfl ?_ ?_
    · (repeat' with_reducible apply AllP_cons) <;> try exact aC
      exact ⟨_, h0, .cons (.refl .str) (.nil _)⟩
    exact S_nil ⟨_, _, rfl, trivial, wfinE rfl (by simp)⟩
theorem wex6 (n : Nat) (t : List UInt8) (ks : List Ex) (ns : List (List UInt8)) : Wr WX (.mk 6 n t ks ns) [t] := by
  intro v u a bs ha hl
  exact callOk_introT (fun a w => Tryz.call22 a w) Tryz.func22 rfl Tryz.ntmps22 rfl fun B => by
    have h1 := wput1 v u a ha bs t (tH v 6 n t ks ns) (by exact fl)
    refine pB [.b false, .b false, .b false, .b false, .b false, .b true, .f (.tup []) (fun _ => wrH v (u + 1) (.ptr 0 v 0) (bs ++ t) (tH v 6 n t ks ns))] rfl ?_
    exact S_nil ⟨_, _, rfl, trivial, wfinE rfl (by simp)⟩
theorem wex7 (n : Nat) (t : List UInt8) (ks : List Ex) (ns : List (List UInt8)) (hks : ∀ x ∈ ks, Wr WX x (exW x)) (hz : ks.length ≤ 1000000) : Wr WX (.mk 7 n t ks ns) ([[91]] ++ eachA [44, 32] ((exWs ks).map (·.2)) ++ [[93]]) := by
  intro v u a bs ha hl
  obtain ⟨l, hL⟩ : ∃ l, l = (exWs ks).map (·.2) := ⟨_, rfl⟩
  rw [← hL] at hl ⊢
  have hll : l.length = ks.length := by rw [hL, exWs_map]; simp
  have hlk : (exL ks).length = l.length := by rw [exL_map, hll]; simp
  have hli : ∀ i (h : i < l.length), l[i] = exW ks[i] := fun i h => by subst hL; simp [exWs_map]
  exact callOk_introT (fun a w => Tryz.call22 a w) Tryz.func22 rfl Tryz.ntmps22 rfl fun B => by
    have h1 := wput1 v u a ha bs [91] (tH v 7 n t ks ns) (by exact fl)
    have h2 := each_ok 41 [.ptr 2 0 0, .ptr 4 0 0] v (u + 1) (bs ++ [91]) [44, 32] 0 0 0 _ _ _ _ _ _ l (by omega) (fun i h => by
      rw [hli i h]; exact clo1 v 7 n t ks ns i (by omega) _ (hks _ (List.getElem_mem _))) (by exact fl)
    rw [← hlk] at h2
    have h3 := wput1 v (u + 1 + (eachA [44, 32] l).length) (.ptr 0 v 0) (.inr rfl) (bs ++ [91] ++ (eachA [44, 32] l).flatten) [93] (tH v 7 n t ks ns) (by exact fl)
    refine pB [.b false, .b false, .b false, .b false, .b false, .b false, .b true, .f (.tup []) (fun _ => wrH v (u + 1) (.ptr 0 v 0) (bs ++ [91]) (tH v 7 n t ks ns)), .f (.tup []) (fun _ => wrH v (u + 1 + (eachA [44, 32] l).length) (.ptr 0 v 0) (bs ++ [91] ++ (eachA [44, 32] l).flatten) (tH v 7 n t ks ns)), .f (.tup []) (fun _ => wrH v (u + 1 + (eachA [44, 32] l).length + 1) (.ptr 0 v 0) (bs ++ [91] ++ (eachA [44, 32] l).flatten ++ [93]) (tH v 7 n t ks ns))] rfl ?_
    exact S_nil ⟨_, _, rfl, trivial, wfinE (by exact fl) (by simp)⟩
theorem wex8 (n : Nat) (t : List UInt8) (ks : List Ex) (ns : List (List UInt8)) (hks : ∀ x ∈ ks, Wr WX x (exW x)) (hz : ks.length ≤ 1000000) : Wr WX (.mk 8 n t ks ns) ([[123]] ++ eachA [] (dictA (exWs ks)) ++ [[125]]) := by
  intro v u a bs ha hl
  obtain ⟨l, hL⟩ : ∃ l, l = dictA (exWs ks) := ⟨_, rfl⟩
  rw [← hL] at hl ⊢
  have hll : l.length = ks.length := by rw [hL, exWs_map]; simp [dictA]
  have hlk : (exL ks).length = l.length := by rw [exL_map, hll]; simp
  have hli : ∀ i (h : i < l.length), l[i] = (if 0 < i then [sepD i] else []) ++ exW ks[i] := fun i h => by subst hL; simp [exWs_map, dictA]
  exact callOk_introT (fun a w => Tryz.call22 a w) Tryz.func22 rfl Tryz.ntmps22 rfl fun B => by
    have h1 := wput1 v u a ha bs [123] (tH v 8 n t ks ns) (by exact fl)
    have h2 := each_ok 42 [.ptr 2 0 0, .ptr 4 0 0] v (u + 1) (bs ++ [123]) [] 0 0 0 _ _ _ _ _ _ l (by omega) (fun i h => by
      rw [hli i h]; exact clo2 v 8 n t ks ns i (by omega) _ (hks _ (List.getElem_mem _)) hz) (by exact fl)
    rw [← hlk] at h2
    have h3 := wput1 v (u + 1 + (eachA [] l).length) (.ptr 0 v 0) (.inr rfl) (bs ++ [123] ++ (eachA [] l).flatten) [125] (tH v 8 n t ks ns) (by exact fl)
    refine pB [.b false, .b false, .b false, .b false, .b false, .b false, .b false, .b true, .f (.tup []) (fun _ => wrH v (u + 1) (.ptr 0 v 0) (bs ++ [123]) (tH v 8 n t ks ns)), .f (.tup []) (fun _ => wrH v (u + 1 + (eachA [] l).length) (.ptr 0 v 0) (bs ++ [123] ++ (eachA [] l).flatten) (tH v 8 n t ks ns)), .f (.tup []) (fun _ => wrH v (u + 1 + (eachA [] l).length + 1) (.ptr 0 v 0) (bs ++ [123] ++ (eachA [] l).flatten ++ [125]) (tH v 8 n t ks ns))] rfl ?_
    exact S_nil ⟨_, _, rfl, trivial, wfinE (by exact fl) (by simp)⟩
theorem wex9a (n : Nat) (t : List UInt8) (x y : Ex) (ns : List (List UInt8)) (p q : Pcs) (hx : Wr WX x p) (hy : Wr WX y q) : Wr WX (.mk 9 n t [x, y] ns) ([[91]] ++ p ++ [[32, 102, 111, 114, 32], t, [32, 105, 110, 32]] ++ q ++ [[93]]) := by
  intro v u a bs ha hl
  obtain ⟨xk, xn, xt, xs, xm⟩ := x
  obtain ⟨yk, yn, yt, ys, ym⟩ := y
  exact callOk_introT (fun a w => Tryz.call22 a w) Tryz.func22 rfl Tryz.ntmps22 rfl fun B => by
    obtain ⟨X, hX⟩ : ∃ X, X = Ex.mk xk xn xt xs xm := ⟨_, rfl⟩
    have h1 := wput1 v u a ha bs [91] (tH v 9 n t [.mk xk xn xt xs xm, .mk yk yn yt ys ym] ns) (by exact fl)
    have h2 := hx.tail v (u + 1) (.ptr 0 v 0) (bs ++ [91]) (tH v 9 n t [.mk xk xn xt xs xm, .mk yk yn yt ys ym] ns) (.inr rfl) (by exact fl)
    have h3 := wput_ok v (u + 1 + p.length) (.ptr 0 v 0) (.inr rfl) (bs ++ [91] ++ p.flatten) true true [[32, 102, 111, 114, 32], t, [32, 105, 110, 32]] (tH v 9 n t [.mk xk xn xt xs xm, .mk yk yn yt ys ym] ns) (by simp) (by exact fl) (by simp)
    have h4 := hy.tail v (u + 1 + p.length + 3) (.ptr 0 v 0) (bs ++ [91] ++ p.flatten ++ [[32, 102, 111, 114, 32], t, [32, 105, 110, 32]].flatten) (tH v 9 n t [.mk xk xn xt xs xm, .mk yk yn yt ys ym] ns) (.inr rfl) (by exact fl)
    have h5 := wput1 v (u + 1 + p.length + 3 + q.length) (.ptr 0 v 0) (.inr rfl) (bs ++ [91] ++ p.flatten ++ [[32, 102, 111, 114, 32], t, [32, 105, 110, 32]].flatten ++ q.flatten) [93] (tH v 9 n t [.mk xk xn xt xs xm, .mk yk yn yt ys ym] ns) (by exact fl)
    refine pB [.b false, .b false, .b false, .b false, .b false, .b false, .b false, .b false, .b true, .f (.tup []) (fun _ => wrH v (u + 1) (.ptr 0 v 0) (bs ++ [91]) (tH v 9 n t [.mk xk xn xt xs xm, .mk yk yn yt ys ym] ns)),
      .v (exA (.mk xk xn xt xs xm)), .f (.tup []) (fun _ => wrH v (u + 1 + p.length) (.ptr 0 v 0) (bs ++ [91] ++ p.flatten) (tH v 9 n t [.mk xk xn xt xs xm, .mk yk yn yt ys ym] ns)),
      .f (.tup []) (fun _ => wrH v (u + 1 + p.length + 3) (.ptr 0 v 0) (bs ++ [91] ++ p.flatten ++ [[32, 102, 111, 114, 32], t, [32, 105, 110, 32]].flatten) (tH v 9 n t [.mk xk xn xt xs xm, .mk yk yn yt ys ym] ns)),
      .v (exA (.mk yk yn yt ys ym)), .f (.tup []) (fun _ => wrH v (u + 1 + p.length + 3 + q.length) (.ptr 0 v 0) (bs ++ [91] ++ p.flatten ++ [[32, 102, 111, 114, 32], t, [32, 105, 110, 32]].flatten ++ q.flatten) (tH v 9 n t [.mk xk xn xt xs xm, .mk yk yn yt ys ym] ns)),
      .b false, .f (.tup []) (fun _ => wrH v (u + 1 + p.length + 3 + q.length + 1) (.ptr 0 v 0) (bs ++ [91] ++ p.flatten ++ [[32, 102, 111, 114, 32], t, [32, 105, 110, 32]].flatten ++ q.flatten ++ [93]) (tH v 9 n t [.mk xk xn xt xs xm, .mk yk yn yt ys ym] ns))] rfl ?_
    exact S_nil ⟨_, _, rfl, trivial, wfinE (by exact fl) (by simp)⟩
theorem wex9b (n : Nat) (t : List UInt8) (x y z : Ex) (ns : List (List UInt8)) (p q r : Pcs) (hx : Wr WX x p) (hy : Wr WX y q) (hz : Wr WX z r) : Wr WX (.mk 9 n t [x, y, z] ns) ([[91]] ++ p ++ [[32, 102, 111, 114, 32], t, [32, 105, 110, 32]] ++ q ++ ([[32, 105, 102, 32]] ++ r) ++ [[93]]) := by
  intro v u a bs ha hl
  obtain ⟨xk, xn, xt, xs, xm⟩ := x
  obtain ⟨yk, yn, yt, ys, ym⟩ := y
  obtain ⟨zk, zn, zt, zs, zm⟩ := z
  obtain ⟨τ, hτ⟩ : ∃ τ, τ = tH v 9 n t [.mk xk xn xt xs xm, .mk yk yn yt ys ym, .mk zk zn zt zs zm] ns := ⟨_, rfl⟩
  have h1 := wput1 v u a ha bs [91] τ (by exact fl)
  have h2 := hx.tail v (u + 1) (.ptr 0 v 0) (bs ++ [91]) τ (.inr rfl) (by exact fl)
  have h3 := wput_ok v (u + 1 + p.length) (.ptr 0 v 0) (.inr rfl) (bs ++ [91] ++ p.flatten) true true [[32, 102, 111, 114, 32], t, [32, 105, 110, 32]] τ (by simp) (by exact fl) (by simp)
  have h4 := hy.tail v (u + 1 + p.length + 3) (.ptr 0 v 0) (bs ++ [91] ++ p.flatten ++ [[32, 102, 111, 114, 32], t, [32, 105, 110, 32]].flatten) τ (.inr rfl) (by exact fl)
  have h5 := wput1 v (u + 1 + p.length + 3 + q.length) (.ptr 0 v 0) (.inr rfl) (bs ++ [91] ++ p.flatten ++ [[32, 102, 111, 114, 32], t, [32, 105, 110, 32]].flatten ++ q.flatten) [32, 105, 102, 32] τ (by exact fl)
  have h6 := hz.tail v (u + 1 + p.length + 3 + q.length + 1) (.ptr 0 v 0) (bs ++ [91] ++ p.flatten ++ [[32, 102, 111, 114, 32], t, [32, 105, 110, 32]].flatten ++ q.flatten ++ [32, 105, 102, 32]) τ (.inr rfl) (by exact fl)
  have h7 := wput1 v (u + 1 + p.length + 3 + q.length + 1 + r.length) (.ptr 0 v 0) (.inr rfl) (bs ++ [91] ++ p.flatten ++ [[32, 102, 111, 114, 32], t, [32, 105, 110, 32]].flatten ++ q.flatten ++ [32, 105, 102, 32] ++ r.flatten) [93] τ (by exact fl)
  subst hτ
  exact callOk_introT (fun a w => Tryz.call22 a w) Tryz.func22 rfl Tryz.ntmps22 rfl fun B => by
    refine pB [.b false, .b false, .b false, .b false, .b false, .b false, .b false, .b false, .b true, .f (.tup []) (fun _ => wrH v (u + 1) (.ptr 0 v 0) (bs ++ [91]) (tH v 9 n t [.mk xk xn xt xs xm, .mk yk yn yt ys ym, .mk zk zn zt zs zm] ns)),
      .v (exA (.mk xk xn xt xs xm)), .f (.tup []) (fun _ => wrH v (u + 1 + p.length) (.ptr 0 v 0) (bs ++ [91] ++ p.flatten) (tH v 9 n t [.mk xk xn xt xs xm, .mk yk yn yt ys ym, .mk zk zn zt zs zm] ns)),
      .f (.tup []) (fun _ => wrH v (u + 1 + p.length + 3) (.ptr 0 v 0) (bs ++ [91] ++ p.flatten ++ [[32, 102, 111, 114, 32], t, [32, 105, 110, 32]].flatten) (tH v 9 n t [.mk xk xn xt xs xm, .mk yk yn yt ys ym, .mk zk zn zt zs zm] ns)),
      .v (exA (.mk yk yn yt ys ym)), .f (.tup []) (fun _ => wrH v (u + 1 + p.length + 3 + q.length) (.ptr 0 v 0) (bs ++ [91] ++ p.flatten ++ [[32, 102, 111, 114, 32], t, [32, 105, 110, 32]].flatten ++ q.flatten) (tH v 9 n t [.mk xk xn xt xs xm, .mk yk yn yt ys ym, .mk zk zn zt zs zm] ns)),
      .b true, .f (.tup []) (fun _ => wrH v (u + 1 + p.length + 3 + q.length + 1) (.ptr 0 v 0) (bs ++ [91] ++ p.flatten ++ [[32, 102, 111, 114, 32], t, [32, 105, 110, 32]].flatten ++ q.flatten ++ [32, 105, 102, 32]) (tH v 9 n t [.mk xk xn xt xs xm, .mk yk yn yt ys ym, .mk zk zn zt zs zm] ns)),
      .v (exA (.mk zk zn zt zs zm)), .f (.tup []) (fun _ => wrH v (u + 1 + p.length + 3 + q.length + 1 + r.length) (.ptr 0 v 0) (bs ++ [91] ++ p.flatten ++ [[32, 102, 111, 114, 32], t, [32, 105, 110, 32]].flatten ++ q.flatten ++ [32, 105, 102, 32] ++ r.flatten) (tH v 9 n t [.mk xk xn xt xs xm, .mk yk yn yt ys ym, .mk zk zn zt zs zm] ns)),
      .f (.tup []) (fun _ => wrH v (u + 1 + p.length + 3 + q.length + 1 + r.length + 1) (.ptr 0 v 0) (bs ++ [91] ++ p.flatten ++ [[32, 102, 111, 114, 32], t, [32, 105, 110, 32]].flatten ++ q.flatten ++ [32, 105, 102, 32] ++ r.flatten ++ [93]) (tH v 9 n t [.mk xk xn xt xs xm, .mk yk yn yt ys ym, .mk zk zn zt zs zm] ns))] rfl ?_
    exact S_nil ⟨_, _, rfl, trivial, wfinE (by exact fl) (by simp)⟩
end Go.Proofs.YtmdegomejbpldaaGreatDoor
end
section
set_option linter.unusedVariables false
set_option linter.unusedSimpArgs false
set_option maxRecDepth 20000
set_option maxHeartbeats 4000000
namespace Go.Proofs.YtmdegomejbpldaaGreatDoor
open Go Go.Ab
theorem wex10 (n : Nat) (t : List UInt8) (x : Ex) (r : List Ex) (ns : List (List UInt8)) (p : Pcs) (hx : Wr WX x p) (hks : ∀ x ∈ r, Wr WX x (exW x)) (hz : r.length < 1000000) (hm : ns.length ≤ r.length) :
    Wr WX (.mk 10 n t (x :: r) ns) (brk (apart x) p ++ [[40]] ++ eachA [44, 32] (callPs ns (exWs r)) ++ [[41]]) := by
  intro v u a bs ha hl
  obtain ⟨q, hq⟩ : ∃ q, q = brk (apart x) p := ⟨_, rfl⟩
  have hx := inner_ok x p hx
  rw [← hq] at hl hx ⊢
  clear hq
  obtain ⟨l, hL⟩ : ∃ l, l = callPs ns (exWs r) := ⟨_, rfl⟩
  rw [← hL] at hl ⊢
  have hll : l.length = r.length := by rw [hL, exWs_map]; simp [callPs]
  have hlk : (exL (x :: r)).length = l.length + 1 := by rw [exL_map, hll]; simp
  have hli : ∀ i (h : i < l.length), l[i] = (if (x :: r).length - 1 - ns.length ≤ i then [ns.getD (i - ((x :: r).length - 1 - ns.length)) [], [61]] else []) ++ exW r[i] := fun i h => by subst hL; simp [exWs_map, callPs]
  obtain ⟨xk, xn, xt, xs, xm⟩ := x
  have h1 := hx.tail v u a bs (tH v 10 n t (.mk xk xn xt xs xm :: r) ns) ha (by exact fl)
  have h2 := wput1 v (u + q.length) (.ptr 0 v 0) (.inr rfl) (bs ++ q.flatten) [40] (tH v 10 n t (.mk xk xn xt xs xm :: r) ns) (by exact fl)
  have h3 := each_ok 44 [.ptr 4 0 0, .ptr 3 0 0, .ptr 2 0 0] v (u + q.length + 1) (bs ++ q.flatten ++ [40]) [44, 32] 0 0 0 _ _ _ _ _ _ l (by omega) (fun i h => by
      rw [hli i h]; exact clo3 v 10 n t (.mk xk xn xt xs xm :: r) ns i (by simp only [List.length_cons]; omega) _ (hks _ (List.getElem_mem (l := r) (by omega))) (by simp only [List.length_cons]; omega) (by simp only [List.length_cons]; omega)) (by exact fl)
  have hc : (l.length : Int) = IntKind.i64.wrap (((exL (.mk xk xn xt xs xm :: r)).length : Nat) - 1) := by rw [IntWalk.i64_in _ ⟨by omega, by omega⟩]; omega
  rw [hc] at h3
  have h4 := wput1 v (u + q.length + 1 + (eachA [44, 32] l).length) (.ptr 0 v 0) (.inr rfl) (bs ++ q.flatten ++ [40] ++ (eachA [44, 32] l).flatten) [41] (tH v 10 n t (.mk xk xn xt xs xm :: r) ns) (by exact fl)
  exact callOk_introT (fun a w => Tryz.call22 a w) Tryz.func22 rfl Tryz.ntmps22 rfl fun B => by
    refine pB [.b false, .b false, .b false, .b false, .b false, .b false, .b false, .b false, .b false, .b true, .v (exA (.mk xk xn xt xs xm)), .f (.tup []) (fun _ => wrH v (u + q.length) (.ptr 0 v 0) (bs ++ q.flatten) (tH v 10 n t (.mk xk xn xt xs xm :: r) ns)),
      .f (.tup []) (fun _ => wrH v (u + q.length + 1) (.ptr 0 v 0) (bs ++ q.flatten ++ [40]) (tH v 10 n t (.mk xk xn xt xs xm :: r) ns)),
      .f (.tup []) (fun _ => wrH v (u + q.length + 1 + (eachA [44, 32] l).length) (.ptr 0 v 0) (bs ++ q.flatten ++ [40] ++ (eachA [44, 32] l).flatten) (tH v 10 n t (.mk xk xn xt xs xm :: r) ns)),
      .f (.tup []) (fun _ => wrH v (u + q.length + 1 + (eachA [44, 32] l).length + 1) (.ptr 0 v 0) (bs ++ q.flatten ++ [40] ++ (eachA [44, 32] l).flatten ++ [41]) (tH v 10 n t (.mk xk xn xt xs xm :: r) ns))] rfl ?_
    exact S_nil ⟨_, _, rfl, trivial, wfinE (by exact fl) (by simp)⟩
theorem wex11 (n : Nat) (t : List UInt8) (x y : Ex) (ns : List (List UInt8)) (p r : Pcs) (hx : Wr WX x p) (hy : Wr WX y r) : Wr WX (.mk 11 n t [x, y] ns) (brk (apart x) p ++ [[91]] ++ r ++ [[93]]) := by
  intro v u a bs ha hl
  obtain ⟨q, hq⟩ : ∃ q, q = brk (apart x) p := ⟨_, rfl⟩
  have hx := inner_ok x p hx
  rw [← hq] at hl hx ⊢
  clear hq
  obtain ⟨xk, xn, xt, xs, xm⟩ := x
  obtain ⟨yk, yn, yt, ys, ym⟩ := y
  have h1 := hx.tail v u a bs (tH v 11 n t [.mk xk xn xt xs xm, .mk yk yn yt ys ym] ns) ha (by exact fl)
  have h2 := wput1 v (u + q.length) (.ptr 0 v 0) (.inr rfl) (bs ++ q.flatten) [91] (tH v 11 n t [.mk xk xn xt xs xm, .mk yk yn yt ys ym] ns) (by exact fl)
  have h3 := hy.tail v (u + q.length + 1) (.ptr 0 v 0) (bs ++ q.flatten ++ [91]) (tH v 11 n t [.mk xk xn xt xs xm, .mk yk yn yt ys ym] ns) (.inr rfl) (by exact fl)
  have h4 := wput1 v (u + q.length + 1 + r.length) (.ptr 0 v 0) (.inr rfl) (bs ++ q.flatten ++ [91] ++ r.flatten) [93] (tH v 11 n t [.mk xk xn xt xs xm, .mk yk yn yt ys ym] ns) (by exact fl)
  exact callOk_introT (fun a w => Tryz.call22 a w) Tryz.func22 rfl Tryz.ntmps22 rfl fun B => by
    refine pB [.b false, .b false, .b false, .b false, .b false, .b false, .b false, .b false, .b false, .b false, .b true, .v (exA (.mk xk xn xt xs xm)), .f (.tup []) (fun _ => wrH v (u + q.length) (.ptr 0 v 0) (bs ++ q.flatten) (tH v 11 n t [.mk xk xn xt xs xm, .mk yk yn yt ys ym] ns)),
      .f (.tup []) (fun _ => wrH v (u + q.length + 1) (.ptr 0 v 0) (bs ++ q.flatten ++ [91]) (tH v 11 n t [.mk xk xn xt xs xm, .mk yk yn yt ys ym] ns)),
      .v (exA (.mk yk yn yt ys ym)), .f (.tup []) (fun _ => wrH v (u + q.length + 1 + r.length) (.ptr 0 v 0) (bs ++ q.flatten ++ [91] ++ r.flatten) (tH v 11 n t [.mk xk xn xt xs xm, .mk yk yn yt ys ym] ns)),
      .f (.tup []) (fun _ => wrH v (u + q.length + 1 + r.length + 1) (.ptr 0 v 0) (bs ++ q.flatten ++ [91] ++ r.flatten ++ [93]) (tH v 11 n t [.mk xk xn xt xs xm, .mk yk yn yt ys ym] ns))] rfl ?_
    exact S_nil ⟨_, _, rfl, trivial, wfinE (by exact fl) (by simp)⟩
theorem wex12 (n : Nat) (t : List UInt8) (x : Ex) (ns : List (List UInt8)) (p : Pcs) (hx : Wr WX x p) : Wr WX (.mk 12 n t [x] ns) ([[110, 111, 116, 32]] ++ brk (apart x) p) := by
  intro v u a bs ha hl
  obtain ⟨q, hq⟩ : ∃ q, q = brk (apart x) p := ⟨_, rfl⟩
  have hx := inner_ok x p hx
  rw [← hq] at hl hx ⊢
  clear hq
  obtain ⟨xk, xn, xt, xs, xm⟩ := x
  have h1 := wput1 v u a ha bs [110, 111, 116, 32] (tH v 12 n t [.mk xk xn xt xs xm] ns) (by exact fl)
  have h2 := hx.tail v (u + 1) (.ptr 0 v 0) (bs ++ [110, 111, 116, 32]) (tH v 12 n t [.mk xk xn xt xs xm] ns) (.inr rfl) (by exact fl)
  exact callOk_introT (fun a w => Tryz.call22 a w) Tryz.func22 rfl Tryz.ntmps22 rfl fun B => by
    refine pB [.b false, .b false, .b false, .b false, .b false, .b false, .b false, .b false, .b false, .b false, .b false, .b true, .f (.tup []) (fun _ => wrH v (u + 1) (.ptr 0 v 0) (bs ++ [110, 111, 116, 32]) (tH v 12 n t [.mk xk xn xt xs xm] ns)),
      .v (exA (.mk xk xn xt xs xm)), .f (.tup []) (fun _ => wrH v (u + 1 + q.length) (.ptr 0 v 0) (bs ++ [110, 111, 116, 32] ++ q.flatten) (tH v 12 n t [.mk xk xn xt xs xm] ns))] rfl ?_
    exact S_nil ⟨_, _, rfl, trivial, wfinE (by exact fl) (by simp)⟩
theorem wex13 (n : Nat) (t : List UInt8) (x : Ex) (ns : List (List UInt8)) (p : Pcs) (hx : Wr WX x p) : Wr WX (.mk 13 n t [x] ns) ([[45]] ++ brk (apart x) p) := by
  intro v u a bs ha hl
  obtain ⟨q, hq⟩ : ∃ q, q = brk (apart x) p := ⟨_, rfl⟩
  have hx := inner_ok x p hx
  rw [← hq] at hl hx ⊢
  clear hq
  obtain ⟨xk, xn, xt, xs, xm⟩ := x
  have h1 := wput1 v u a ha bs [45] (tH v 13 n t [.mk xk xn xt xs xm] ns) (by exact fl)
  have h2 := hx.tail v (u + 1) (.ptr 0 v 0) (bs ++ [45]) (tH v 13 n t [.mk xk xn xt xs xm] ns) (.inr rfl) (by exact fl)
  exact callOk_introT (fun a w => Tryz.call22 a w) Tryz.func22 rfl Tryz.ntmps22 rfl fun B => by
    refine pB [.b false, .b false, .b false, .b false, .b false, .b false, .b false, .b false, .b false, .b false, .b false, .b false, .b true, .f (.tup []) (fun _ => wrH v (u + 1) (.ptr 0 v 0) (bs ++ [45]) (tH v 13 n t [.mk xk xn xt xs xm] ns)),
      .v (exA (.mk xk xn xt xs xm)), .f (.tup []) (fun _ => wrH v (u + 1 + q.length) (.ptr 0 v 0) (bs ++ [45] ++ q.flatten) (tH v 13 n t [.mk xk xn xt xs xm] ns))] rfl ?_
    exact S_nil ⟨_, _, rfl, trivial, wfinE (by exact fl) (by simp)⟩
theorem wex14 (n : Nat) (t : List UInt8) (x y : Ex) (ns : List (List UInt8)) (p p' : Pcs) (hx : Wr WX x p) (hy : Wr WX y p') : Wr WX (.mk 14 n t [x, y] ns) (brk (apart x) p ++ [[32], t, [32]] ++ brk (apart y) p') := by
  intro v u a bs ha hl
  obtain ⟨q, hq⟩ : ∃ q, q = brk (apart x) p := ⟨_, rfl⟩
  obtain ⟨r, hr⟩ : ∃ r, r = brk (apart y) p' := ⟨_, rfl⟩
  have hx := inner_ok x p hx
  have hy := inner_ok y p' hy
  rw [← hq] at hl hx ⊢
  rw [← hr] at hl hy ⊢
  clear hq hr
  obtain ⟨xk, xn, xt, xs, xm⟩ := x
  obtain ⟨yk, yn, yt, ys, ym⟩ := y
  have h1 := hx.tail v u a bs (tH v 14 n t [.mk xk xn xt xs xm, .mk yk yn yt ys ym] ns) ha (by exact fl)
  have h2 := wput_ok v (u + q.length) (.ptr 0 v 0) (.inr rfl) (bs ++ q.flatten) true true [[32], t, [32]] (tH v 14 n t [.mk xk xn xt xs xm, .mk yk yn yt ys ym] ns) (by simp) (by exact fl) (by simp)
  have h3 := hy.tail v (u + q.length + 3) (.ptr 0 v 0) (bs ++ q.flatten ++ [[32], t, [32]].flatten) (tH v 14 n t [.mk xk xn xt xs xm, .mk yk yn yt ys ym] ns) (.inr rfl) (by exact fl)
  exact callOk_introT (fun a w => Tryz.call22 a w) Tryz.func22 rfl Tryz.ntmps22 rfl fun B => by
    refine pB [.b false, .b false, .b false, .b false, .b false, .b false, .b false, .b false, .b false, .b false, .b false, .b false, .b false, .b true, .v (exA (.mk xk xn xt xs xm)), .f (.tup []) (fun _ => wrH v (u + q.length) (.ptr 0 v 0) (bs ++ q.flatten) (tH v 14 n t [.mk xk xn xt xs xm, .mk yk yn yt ys ym] ns)),
      .f (.tup []) (fun _ => wrH v (u + q.length + 3) (.ptr 0 v 0) (bs ++ q.flatten ++ [[32], t, [32]].flatten) (tH v 14 n t [.mk xk xn xt xs xm, .mk yk yn yt ys ym] ns)),
      .v (exA (.mk yk yn yt ys ym)), .f (.tup []) (fun _ => wrH v (u + q.length + 3 + r.length) (.ptr 0 v 0) (bs ++ q.flatten ++ [[32], t, [32]].flatten ++ r.flatten) (tH v 14 n t [.mk xk xn xt xs xm, .mk yk yn yt ys ym] ns))] rfl ?_
    exact S_nil ⟨_, _, rfl, trivial, wfinE (by exact fl) (by simp)⟩
theorem len2 {α : Type} {l : List α} (h : l.length = 2) : ∃ x y, l = [x, y] := by
  match l, h with
  | [x, y], _ => exact ⟨x, y, rfl⟩
theorem len3 {α : Type} {l : List α} (h : l.length = 3) : ∃ x y z, l = [x, y, z] := by
  match l, h with
  | [x, y, z], _ => exact ⟨x, y, z, rfl⟩
theorem wex {x : Ex} (h : Wx 800000 x) : Wr WX x (exW x) := by
  induction h with
  | @mk k n t ks ns h1 h2 h3 h4 ih =>
    rw [exW]
    match k, h4 with
    | 1, _ => exact wex1 n t ks ns
    | 2, _ => exact wex2 n t ks ns
    | 3, _ => exact wex3 n t ks ns
    | 4, h4 => exact wex4 n h4.1 t ks ns
    | 5, _ => exact wex5 n t ks ns
    | 6, _ => exact wex6 n t ks ns
    | 7, _ => exact wex7 _ _ _ _ ih (by omega)
    | 8, _ => exact wex8 _ _ _ _ ih (by omega)
    | 9, h4 =>
      rcases h4.2.2.1 with hk | hk
      · obtain ⟨x, y, rfl⟩ : ∃ x y, ks = [x, y] := len2 hk
        have := wex9a n t x y ns _ _ (ih x (by simp)) (ih y (by simp))
        simpa [exB', exWs, plW] using this
      · obtain ⟨x, y, z, rfl⟩ : ∃ x y z, ks = [x, y, z] := len3 hk
        have := wex9b n t x y z ns _ _ _ (ih x (by simp)) (ih y (by simp)) (ih z (by simp))
        simpa [exB', exWs, plW] using this
    | 10, h4 =>
      match ks, ih, h1, h4 with
      | x :: r, ih, h1, h4 =>
        have h5 : ns.length + 1 ≤ r.length + 1 := h4.2.2.1
        have h1 : r.length + 1 ≤ 800000 := h1
        have := wex10 n t x r ns _ (ih x (by simp)) (fun y hy => ih y (by simp [hy])) (by omega) (by omega)
        simpa [exB', exWs, inW] using this
      | [], ih, h1, h4 => exact absurd h4.2.2.1 (by simp)
    | 11, h4 =>
      obtain ⟨x, y, rfl⟩ : ∃ x y, ks = [x, y] := len2 h4.2.2.1
      have := wex11 n t x y ns _ _ (ih x (by simp)) (ih y (by simp))
      simpa [exB', exWs, plW, inW] using this
    | 12, h4 =>
      obtain ⟨x, rfl⟩ : ∃ x, ks = [x] := List.length_eq_one_iff.1 h4.2.2.1
      have := wex12 n t x ns _ (ih x (by simp))
      simpa [exB', exWs, plW, inW] using this
    | 13, h4 =>
      obtain ⟨x, rfl⟩ : ∃ x, ks = [x] := List.length_eq_one_iff.1 h4.2.2.1
      have := wex13 n t x ns _ (ih x (by simp))
      simpa [exB', exWs, plW, inW] using this
    | 14, h4 =>
      obtain ⟨x, y, rfl⟩ : ∃ x y, ks = [x, y] := len2 h4.2.2.1
      have := wex14 n t x y ns _ _ (ih x (by simp)) (ih y (by simp))
      simpa [exB', exWs, plW, inW] using this
    | 0, h4 => exact h4.elim
    | k + 15, h4 => exact h4.elim
end Go.Proofs.YtmdegomejbpldaaGreatDoor
end
section
set_option linter.unusedVariables false
set_option linter.unusedSimpArgs false
set_option maxRecDepth 20000
set_option maxHeartbeats 4000000
namespace Go.Proofs.YtmdegomejbpldaaGreatDoor
open Go Go.Ab
def Wt (f : FuncId) (x : St) (i : List UInt8) (p : Pcs) : Prop := ∀ (v u : Nat) (a : AV) (bs : List UInt8), (a = .nilp ∨ a = .ptr 0 v 0) → i.length ≤ bs.length → bs.length + p.flatten.length ≤ 70000000000000 →
  CallOk cx f [.ptr 0 v 0, stA x, .str i] (wrH v u a bs []) (fun o s => o = .ret (.tup []) ∧ s = wrH v (u + p.length) (.ptr 0 v 0) (bs ++ p.flatten) [])
theorem Wt.tail {f : FuncId} {x : St} {i : List UInt8} {p : Pcs} (h : Wt f x i p) (v u : Nat) (a : AV) (bs : List UInt8) (τ : Heap) (ha : a = .nilp ∨ a = .ptr 0 v 0) (hi : i.length ≤ bs.length) (hl : bs.length + p.flatten.length ≤ 70000000000000) :
    CallOk cx f [.ptr 0 v 0, stA x, .str i] (wrH v u a bs τ) (fun o s => o = .ret (.tup []) ∧ s = wrH v (u + p.length) (.ptr 0 v 0) (bs ++ p.flatten) τ) :=
  (h v u a bs ha hi hl).pre1 2 τ rfl rfl (.cons (.ptr rfl) (.free (by intro y hy; simp at hy; rcases hy with rfl | rfl; exact stA_free x; exact .str))) (wr_rn v u a ha bs) (wr_rn v (u + p.length) (.ptr 0 v 0) (.inr rfl) (bs ++ p.flatten)) (.free (.tup (by simp)))
def Wl (f : FuncId) (l : List St) (i : List UInt8) (p : Pcs) : Prop := ∀ (v u : Nat) (a : AV) (bs : List UInt8), (a = .nilp ∨ a = .ptr 0 v 0) → bs.length + p.flatten.length ≤ 70000000000000 →
  CallOk cx f [.ptr 0 v 0, .sl true false 10 (stL l), .str i] (wrH v u a bs []) (fun o s => o = .ret (.tup []) ∧ s = wrH v (u + p.length) (if l.length = 0 then a else .ptr 0 v 0) (bs ++ p.flatten) [])
theorem Wl.tail {f : FuncId} {l : List St} {i : List UInt8} {p : Pcs} (h : Wl f l i p) (v u : Nat) (bs : List UInt8) (τ : Heap) (hl : bs.length + p.flatten.length ≤ 70000000000000) :
    CallOk cx f [.ptr 0 v 0, .sl true false 10 (stL l), .str i] (wrH v u (.ptr 0 v 0) bs τ) (fun o s => o = .ret (.tup []) ∧ s = wrH v (u + p.length) (.ptr 0 v 0) (bs ++ p.flatten) τ) := by
  have h := h v u (.ptr 0 v 0) bs (.inr rfl) hl
  rw [ite_self] at h
  exact h.pre1 2 τ rfl rfl (.cons (.ptr rfl) (.free (by intro y hy; simp at hy; rcases hy with rfl | rfl; exact stsA_free l; exact .str))) (wr_rn v u _ (.inr rfl) bs) (wr_rn v (u + p.length) (.ptr 0 v 0) (.inr rfl) (bs ++ p.flatten)) (.free (.tup (by simp)))
theorem wfinA {v u : Nat} {a : AV} {bs : List UInt8} {τ : Heap} (ha : a = .nilp ∨ a = .ptr 0 v 0) : TR 2 (fun o s => o = .ret (.tup []) ∧ s = wrH v u a bs []) (.ret (.tup [])) (wrH v u a bs τ) :=
  ⟨2, Nat.le_refl _, wr_low _ _ _ ha _ _, .tup [], .low (.tup (by simp)), rfl, rfl⟩
theorem stL_get {l : List St} {i : Nat} (h : i < l.length) {y : St} (hy : l[i] = y) : (stL l)[(i : Int).toNat]? = some (stA y) := by
  subst hy
  rw [stL_map, List.getElem?_map, Int.toNat_natCast, List.getElem?_eq_getElem h]; rfl
theorem stWs_snoc (i : List UInt8) (l : List St) (s : St) : stWs (l ++ [s]) i = stWs l i ++ ([i] ++ stW s i) := by
  induction l with
  | nil => simp [stWs]
  | cons x r ih => rw [List.cons_append, stWs, ih, stWs]; simp
theorem stWs_take (i : List UInt8) (l : List St) (j : Nat) (h : j < l.length) : stWs (l.take (j + 1)) i = stWs (l.take j) i ++ ([i] ++ stW l[j] i) := by
  rw [List.take_succ_eq_append_getElem h, stWs_snoc]
theorem stWs_le (i : List UInt8) (l : List St) (j : Nat) (h : j ≤ l.length) : (stWs (l.take j) i).flatten.length ≤ (stWs l i).flatten.length := by
  induction hk : l.length - j generalizing j with
  | zero => rw [List.take_of_length_le (by omega)]; exact Nat.le_refl _
  | succ n ih =>
    have := ih (j + 1) (by omega) (by omega)
    rw [stWs_take _ _ _ (by omega), List.flatten_append, List.length_append] at this
    omega
abbrev WS := 17
structure StmSt where
  i : Nat
  w : Nat
  a : AV
theorem wstmts (l : List St) (i : List UInt8) (h : ∀ s ∈ l, Wt WS s i (stW s i)) (hz : l.length ≤ 1000000) : Wl 8 l i (stWs l i) := by
  intro v u a bs ha hl
  have hll : (stL l).length = l.length := stL_len l
  exact callOk_introT (fun a w => Tryz.call8 a w) Tryz.func8 rfl Tryz.ntmps8 rfl fun B => by
    refine pB [] rfl ?_
    refine S_dead ?_ ⟨_, _, .inl rfl⟩
    refine S_while (α := StmSt) (fun q => [(0, .ptr 0 v 0), (2, .str i), (8, .sl true false 10 (stL l)), (9, .int .i64 (l.length : Nat)), (10, .int .i64 (q.i : Nat))]) (fun q => wrH v (u + (stWs (l.take q.i) i).length) q.a (bs ++ (stWs (l.take q.i) i).flatten) [(q.w, none)])
      (fun q => q.i ≤ l.length ∧ (q.a = .nilp ∨ q.a = .ptr 0 v 0) ∧ (0 < q.i → q.a = .ptr 0 v 0) ∧ (q.i = 0 → q.a = a)) (fun q => l.length - q.i) ⟨0, 0, a⟩ ⟨Nat.zero_le _, ha, fun h => absurd h (Nat.lt_irrefl 0), fun _ => rfl⟩ (.cons rfl (.cons rfl (.cons rfl (.cons (by show AV.int .i64 (((stL l).length : Nat) : Int) = _; rw [hll]) (.cons rfl (.nil _)))))) (by show wrH v u a bs _ = wrH v (u + 0) a (bs ++ []) _; simp) ?_
    rintro ⟨j, w, a1⟩ ⟨hj, ha1, hp, hp0⟩
    have hj : j ≤ l.length := hj
    have ha1 : a1 = .nilp ∨ a1 = .ptr 0 v 0 := ha1
    have hp : 0 < j → a1 = .ptr 0 v 0 := hp
    have hp0 : j = 0 → a1 = a := hp0
    show S cx _ B _ _ [(0, .ptr 0 v 0), (2, .str i), (8, .sl true false 10 (stL l)), (9, .int .i64 (l.length : Nat)), (10, .int .i64 (j : Nat))] (wrH v (u + (stWs (l.take j) i).length) a1 (bs ++ (stWs (l.take j) i).flatten) [(w, none)])
    by_cases hlt : j < l.length
    · have hle := stWs_le i l (j + 1) hlt
      have he := stWs_take i l j hlt
      have hs := h _ (List.getElem_mem hlt)
      rw [he, List.flatten_append, List.flatten_append, List.length_append, List.length_append] at hle
      obtain ⟨y, hy⟩ : ∃ y, l[j] = y := ⟨_, rfl⟩
      have hel := stL_get hlt hy
      rw [hy] at he hle hs
      obtain ⟨p, hpp⟩ : ∃ p, p = stW y i := ⟨_, rfl⟩
      rw [← hpp] at he hle hs
      clear hpp
      obtain ⟨yk, yt, yns, yx, yb, ye⟩ := y
      obtain ⟨xk, xn, xt, xs, xm⟩ := yx
      have h1 := wput1 v (u + (stWs (l.take j) i).length) a1 ha1 (bs ++ (stWs (l.take j) i).flatten) i [(w + 1, some (.cells (stA (.mk yk yt yns (.mk xk xn xt xs xm) yb ye)).cells ⟨false, some 38⟩))] (by exact fl)
      have h2 := hs.tail v (u + (stWs (l.take j) i).length + 1) (.ptr 0 v 0) (bs ++ (stWs (l.take j) i).flatten ++ i) [(w + 1, some (.cells (stA (.mk yk yt yns (.mk xk xn xt xs xm) yb ye)).cells ⟨false, some 38⟩))] (.inr rfl) (by exact fl) (by exact fl)
      refine pB [.b true, .v (stA (.mk yk yt yns (.mk xk xn xt xs xm) yb ye)), .f (.tup []) (fun _ => wrH v (u + (stWs (l.take j) i).length + 1) (.ptr 0 v 0) (bs ++ (stWs (l.take j) i).flatten ++ i) [(w + 1, some (.cells (stA (.mk yk yt yns (.mk xk xn xt xs xm) yb ye)).cells ⟨false, some 38⟩))]),
        .f (.tup []) (fun _ => wrH v (u + (stWs (l.take j) i).length + 1 + p.length) (.ptr 0 v 0) (bs ++ (stWs (l.take j) i).flatten ++ i ++ p.flatten) [(w + 1, some (.cells (stA (.mk yk yt yns (.mk xk xn xt xs xm) yb ye)).cells ⟨false, some 38⟩))]), .s] rfl ?_
      refine S_drop (id := 2) rfl ?_ ⟨.skip, _, .inr ⟨_, _, _, rfl⟩⟩
      refine pB [] rfl ?_
      refine S_round ⟨j + 1, w + 1, .ptr 0 v 0⟩ (by show l.length - (j + 1) < l.length - j; omega) ⟨hlt, .inr rfl, fun _ => rfl, fun h => absurd h (Nat.succ_ne_zero j)⟩ (.cons rfl (.cons rfl (.cons rfl (.cons rfl (.cons (nX (by omega)) (.nil _)))))) ?_
      show wrH v (u + (stWs (l.take j) i).length + 1 + p.length) (.ptr 0 v 0) (bs ++ (stWs (l.take j) i).flatten ++ i ++ p.flatten) [(w + 1, none)] = wrH v (u + (stWs (l.take (j + 1)) i).length) (.ptr 0 v 0) (bs ++ (stWs (l.take (j + 1)) i).flatten) [(w + 1, none)]
      rw [he]
      simp only [List.length_append, List.flatten_append, List.flatten_cons, List.flatten_nil, List.append_nil, List.length_cons, List.length_nil, List.append_assoc]
      rw [show u + ((stWs (l.take j) i).length + (0 + 1 + p.length)) = u + (stWs (l.take j) i).length + 1 + p.length by omega]
    · obtain rfl : j = l.length := by omega
      have : a1 = if l.length = 0 then a else .ptr 0 v 0 := by
        by_cases h0 : l.length = 0
        · rw [if_pos h0]; exact hp0 h0
        · rw [if_neg h0]; exact hp (by omega)
      rw [List.take_length, ← this]
      refine pB [.b false] rfl ?_
      exact S_nil ⟨_, _, rfl, trivial, wfinA ha1⟩
theorem wbody (l : List St) (i : List UInt8) (h : ∀ s ∈ l, Wt WS s (i ++ tab4) (stW s (i ++ tab4))) (hz : l.length ≤ 1000000) (v u : Nat) (bs : List UInt8) (τ : Heap) (hi : i.length ≤ bs.length) (hl : bs.length + ([[58, 10]] ++ stWs l (i ++ tab4)).flatten.length ≤ 70000000000000) :
    CallOk cx 25 [.ptr 0 v 0, .sl true false 10 (stL l), .str i] (wrH v u (.ptr 0 v 0) bs τ) (fun o s => o = .ret (.tup []) ∧ s = wrH v (u + ([[58, 10]] ++ stWs l (i ++ tab4)).length) (.ptr 0 v 0) (bs ++ ([[58, 10]] ++ stWs l (i ++ tab4)).flatten) τ) := by
  have hw := (wstmts l (i ++ tab4) h hz).tail v (u + 1) (bs ++ [58, 10]) [] (by exact fl)
  have h1 := wput1 v u (.ptr 0 v 0) (.inr rfl) bs [58, 10] [] (by exact fl)
  have key : CallOk cx 25 [.ptr 0 v 0, .sl true false 10 (stL l), .str i] (wrH v u (.ptr 0 v 0) bs []) (fun o s => o = .ret (.tup []) ∧ s = wrH v (u + ([[58, 10]] ++ stWs l (i ++ tab4)).length) (.ptr 0 v 0) (bs ++ ([[58, 10]] ++ stWs l (i ++ tab4)).flatten) []) := callOk_intro (fun a w => Tryz.call25 a w) Tryz.func25 rfl Tryz.ntmps25 rfl fun B => by
    refine pB [.f (.tup []) (fun _ => wrH v (u + 1) (.ptr 0 v 0) (bs ++ [58, 10]) []), .f (.tup []) (fun _ => wrH v (u + 1 + (stWs l (i ++ tab4)).length) (.ptr 0 v 0) (bs ++ [58, 10] ++ (stWs l (i ++ tab4)).flatten) [])] rfl ?_
    refine S_nil ⟨_, _, rfl, trivial, rfl, ?_⟩
    show wrH _ _ _ _ _ = wrH _ _ _ _ _
    simp only [List.length_append, List.flatten_append, List.flatten_cons, List.flatten_nil, List.append_nil, List.length_cons, List.length_nil, List.append_assoc]
    rw [show u + (0 + 1 + (stWs l (i ++ tab4)).length) = u + 1 + (stWs l (i ++ tab4)).length by omega]
  exact key.pre1 2 τ rfl rfl (.cons (.ptr rfl) (.free (by intro y hy; simp at hy; rcases hy with rfl | rfl; exact stsA_free l; exact .str))) (wr_rn v u _ (.inr rfl) bs) (wr_rn v _ (.ptr 0 v 0) (.inr rfl) _) (.free (.tup (by simp)))
end Go.Proofs.YtmdegomejbpldaaGreatDoor
end
section
set_option linter.unusedVariables false
set_option linter.unusedSimpArgs false
set_option maxRecDepth 20000
set_option maxHeartbeats 4000000
namespace Go.Proofs.YtmdegomejbpldaaGreatDoor
open Go Go.Ab
def wsBx (k : Nat) (t : List UInt8) (ns : List (List UInt8)) (xk xn : Nat) (xt : List UInt8) (xs : List Ex) (xm : List (List UInt8)) (b e : List St) : Nat × Option Box :=
  (0, some (.cells [.int .i64 (k : Nat), .str t, .sl true false 1 (texts ns), .int .i64 (xk : Nat), .int .i64 (xn : Nat), .str xt, .sl true false 5 (exL xs), .sl true false 1 (texts xm), .sl true false 10 (stL b), .sl true false 10 (stL e)] ⟨false, some 38⟩))
theorem wst1 (t : List UInt8) (ns : List (List UInt8)) (x : Ex) (b e : List St) (i : List UInt8) : Wt WS (.mk 1 t ns x b e) i ([[112, 97, 115, 115, 10]]) := by
  intro v u a bs ha hi hl
  obtain ⟨xk, xn, xt, xs, xm⟩ := x
  have h1 := wput1 v (u) a ha (bs) [112, 97, 115, 115, 10] [wsBx 1 t ns xk xn xt xs xm b e] (by exact fl)
  exact callOk_introT (fun a w => Tryz.call17 a w) Tryz.func17 rfl Tryz.ntmps17 rfl fun B => by
    refine pB [.b true, .f (.tup []) (fun _ => wrH v (u + 1) (.ptr 0 v 0) (bs ++ [112, 97, 115, 115, 10]) [wsBx 1 t ns xk xn xt xs xm b e])] rfl ?_
    exact S_nil ⟨_, _, rfl, trivial, wfinE (by exact fl) (by simp [nl])⟩
theorem wst2 (t : List UInt8) (ns : List (List UInt8)) (x : Ex) (b e : List St) (i : List UInt8) (p : Pcs) (hx : Wr WX x p) : Wt WS (.mk 2 t ns x b e) i ([[114, 101, 116, 117, 114, 110, 32]] ++ p ++ [[10]]) := by
  intro v u a bs ha hi hl
  obtain ⟨xk, xn, xt, xs, xm⟩ := x
  have h1 := wput1 v (u) a ha (bs) [114, 101, 116, 117, 114, 110, 32] [wsBx 2 t ns xk xn xt xs xm b e] (by exact fl)
  have h2 := hx.tail v (u + 1) (.ptr 0 v 0) (bs ++ [114, 101, 116, 117, 114, 110, 32]) [wsBx 2 t ns xk xn xt xs xm b e] (.inr rfl) (by exact fl)
  have h3 := wput1 v (u + 1 + p.length) (.ptr 0 v 0) (.inr rfl) (bs ++ [114, 101, 116, 117, 114, 110, 32] ++ p.flatten) [10] [wsBx 2 t ns xk xn xt xs xm b e] (by exact fl)
  exact callOk_introT (fun a w => Tryz.call17 a w) Tryz.func17 rfl Tryz.ntmps17 rfl fun B => by
    refine pB [.b false, .b true, .f (.tup []) (fun _ => wrH v (u + 1) (.ptr 0 v 0) (bs ++ [114, 101, 116, 117, 114, 110, 32]) [wsBx 2 t ns xk xn xt xs xm b e]),
      .f (.tup []) (fun _ => wrH v (u + 1 + p.length) (.ptr 0 v 0) (bs ++ [114, 101, 116, 117, 114, 110, 32] ++ p.flatten) [wsBx 2 t ns xk xn xt xs xm b e]),
      .f (.tup []) (fun _ => wrH v (u + 1 + p.length + 1) (.ptr 0 v 0) (bs ++ [114, 101, 116, 117, 114, 110, 32] ++ p.flatten ++ [10]) [wsBx 2 t ns xk xn xt xs xm b e])] rfl ?_
    exact S_nil ⟨_, _, rfl, trivial, wfinE (by exact fl) (by simp [nl])⟩
theorem wst3 (t : List UInt8) (ns : List (List UInt8)) (x : Ex) (b e : List St) (i : List UInt8) (p : Pcs) (hx : Wr WX x p) : Wt WS (.mk 3 t ns x b e) i ([t, [32, 61, 32]] ++ p ++ [[10]]) := by
  intro v u a bs ha hi hl
  obtain ⟨xk, xn, xt, xs, xm⟩ := x
  have h1 := wput_ok v (u) a ha (bs) true true [t, [32, 61, 32]] [wsBx 3 t ns xk xn xt xs xm b e] (by simp) (by exact fl) (by simp)
  have h2 := hx.tail v (u + 2) (.ptr 0 v 0) (bs ++ [t, [32, 61, 32]].flatten) [wsBx 3 t ns xk xn xt xs xm b e] (.inr rfl) (by exact fl)
  have h3 := wput1 v (u + 2 + p.length) (.ptr 0 v 0) (.inr rfl) (bs ++ [t, [32, 61, 32]].flatten ++ p.flatten) [10] [wsBx 3 t ns xk xn xt xs xm b e] (by exact fl)
  exact callOk_introT (fun a w => Tryz.call17 a w) Tryz.func17 rfl Tryz.ntmps17 rfl fun B => by
    refine pB [.b false, .b false, .b true, .f (.tup []) (fun _ => wrH v (u + 2) (.ptr 0 v 0) (bs ++ [t, [32, 61, 32]].flatten) [wsBx 3 t ns xk xn xt xs xm b e]),
      .f (.tup []) (fun _ => wrH v (u + 2 + p.length) (.ptr 0 v 0) (bs ++ [t, [32, 61, 32]].flatten ++ p.flatten) [wsBx 3 t ns xk xn xt xs xm b e]),
      .f (.tup []) (fun _ => wrH v (u + 2 + p.length + 1) (.ptr 0 v 0) (bs ++ [t, [32, 61, 32]].flatten ++ p.flatten ++ [10]) [wsBx 3 t ns xk xn xt xs xm b e])] rfl ?_
    exact S_nil ⟨_, _, rfl, trivial, wfinE (by exact fl) (by simp [nl])⟩
theorem wst5 (t : List UInt8) (ns : List (List UInt8)) (x : Ex) (b e : List St) (i : List UInt8) (p : Pcs) (hx : Wr WX x p) : Wt WS (.mk 5 t ns x b e) i (p ++ [[10]]) := by
  intro v u a bs ha hi hl
  obtain ⟨xk, xn, xt, xs, xm⟩ := x
  have h2 := hx.tail v (u) a (bs) [wsBx 5 t ns xk xn xt xs xm b e] ha (by exact fl)
  have h3 := wput1 v (u + p.length) (.ptr 0 v 0) (.inr rfl) (bs ++ p.flatten) [10] [wsBx 5 t ns xk xn xt xs xm b e] (by exact fl)
  exact callOk_introT (fun a w => Tryz.call17 a w) Tryz.func17 rfl Tryz.ntmps17 rfl fun B => by
    refine pB [.b false, .b false, .b false, .b false, .b true, .f (.tup []) (fun _ => wrH v (u + p.length) (.ptr 0 v 0) (bs ++ p.flatten) [wsBx 5 t ns xk xn xt xs xm b e]),
      .f (.tup []) (fun _ => wrH v (u + p.length + 1) (.ptr 0 v 0) (bs ++ p.flatten ++ [10]) [wsBx 5 t ns xk xn xt xs xm b e])] rfl ?_
    exact S_nil ⟨_, _, rfl, trivial, wfinE (by exact fl) (by simp [nl])⟩
theorem wst6 (t : List UInt8) (ns : List (List UInt8)) (x : Ex) (b e : List St) (i : List UInt8) (hJ : Calc cx 24 [.sl true false 1 (texts ns), .str [44, 32]] (.str (joinT ns))) (hb : ∀ s ∈ b, Wt WS s (i ++ tab4) (stW s (i ++ tab4))) (hz : b.length ≤ 1000000) : Wt WS (.mk 6 t ns x b e) i ([[100, 101, 102, 32], t, [40], joinT ns, [41]] ++ ([[58, 10]] ++ stWs b (i ++ tab4))) := by
  intro v u a bs ha hi hl
  obtain ⟨xk, xn, xt, xs, xm⟩ := x
  have h1 := wput_ok v (u) a ha (bs) true true [[100, 101, 102, 32], t, [40], joinT ns, [41]] [wsBx 6 t ns xk xn xt xs xm b e] (by simp) (by exact fl) (by simp)
  have h2 := wbody b i hb (by omega) v (u + 5) (bs ++ [[100, 101, 102, 32], t, [40], joinT ns, [41]].flatten) [wsBx 6 t ns xk xn xt xs xm b e] (by exact fl) (by exact fl)
  exact callOk_introT (fun a w => Tryz.call17 a w) Tryz.func17 rfl Tryz.ntmps17 rfl fun B => by
    refine pa [.b false, .b false, .b false, .b false, .b false, .b true, .v (.str (joinT ns)), .f (.tup []) (fun _ => wrH v (u + 5) (.ptr 0 v 0) (bs ++ [[100, 101, 102, 32], t, [40], joinT ns, [41]].flatten) [wsBx 6 t ns xk xn xt xs xm b e]),
      .f (.tup []) (fun _ => wrH v (u + 5 + ([[58, 10]] ++ stWs b (i ++ tab4)).length) (.ptr 0 v 0) (bs ++ [[100, 101, 102, 32], t, [40], joinT ns, [41]].flatten ++ ([[58, 10]] ++ stWs b (i ++ tab4)).flatten) [wsBx 6 t ns xk xn xt xs xm b e])] rfl ?_ ?_
    · (repeat' with_reducible apply AllP_cons) <;> try exact aC
      · exact ⟨_, hJ, .cons (.refl (.sl (fun h => by cases h) (textsF ns))) (.cons (.refl .str) (.nil _))⟩
    exact S_nil ⟨_, _, rfl, trivial, wfinE (by exact fl) (by simp)⟩
theorem wst7a (t : List UInt8) (ns : List (List UInt8)) (x : Ex) (b e : List St) (i : List UInt8) (p : Pcs) (hx : Wr WX x p) (he : e = []) (hb : ∀ s ∈ b, Wt WS s (i ++ tab4) (stW s (i ++ tab4))) (hz : b.length ≤ 1000000) : Wt WS (.mk 7 t ns x b e) i ([[105, 102, 32]] ++ p ++ ([[58, 10]] ++ stWs b (i ++ tab4)) ++ []) := by
  intro v u a bs ha hi hl
  obtain ⟨xk, xn, xt, xs, xm⟩ := x
  have h1 := wput1 v (u) a ha (bs) [105, 102, 32] [wsBx 7 t ns xk xn xt xs xm b e] (by exact fl)
  have h2 := hx.tail v (u + 1) (.ptr 0 v 0) (bs ++ [105, 102, 32]) [wsBx 7 t ns xk xn xt xs xm b e] (.inr rfl) (by exact fl)
  have h3 := wbody b i hb (by omega) v (u + 1 + p.length) (bs ++ [105, 102, 32] ++ p.flatten) [wsBx 7 t ns xk xn xt xs xm b e] (by exact fl) (by exact fl)
  subst he
  exact callOk_introT (fun a w => Tryz.call17 a w) Tryz.func17 rfl Tryz.ntmps17 rfl fun B => by
    refine pB [.b false, .b false, .b false, .b false, .b false, .b false, .b true, .f (.tup []) (fun _ => wrH v (u + 1) (.ptr 0 v 0) (bs ++ [105, 102, 32]) [wsBx 7 t ns xk xn xt xs xm b []]),
      .f (.tup []) (fun _ => wrH v (u + 1 + p.length) (.ptr 0 v 0) (bs ++ [105, 102, 32] ++ p.flatten) [wsBx 7 t ns xk xn xt xs xm b []]),
      .f (.tup []) (fun _ => wrH v (u + 1 + p.length + ([[58, 10]] ++ stWs b (i ++ tab4)).length) (.ptr 0 v 0) (bs ++ [105, 102, 32] ++ p.flatten ++ ([[58, 10]] ++ stWs b (i ++ tab4)).flatten) [wsBx 7 t ns xk xn xt xs xm b []]),
      .b false] rfl ?_
    exact S_nil ⟨_, _, rfl, trivial, wfinE (by exact fl) (by simp [nl])⟩
theorem wst7b (t : List UInt8) (ns : List (List UInt8)) (x : Ex) (b e : List St) (i : List UInt8) (p : Pcs) (hx : Wr WX x p) (he : 0 < e.length) (hb : ∀ s ∈ b, Wt WS s (i ++ tab4) (stW s (i ++ tab4))) (hz : b.length ≤ 1000000) (hc : ∀ s ∈ e, Wt WS s (i ++ tab4) (stW s (i ++ tab4))) (hy : e.length ≤ 1000000) : Wt WS (.mk 7 t ns x b e) i ([[105, 102, 32]] ++ p ++ ([[58, 10]] ++ stWs b (i ++ tab4)) ++ ([i, wElse] ++ ([[58, 10]] ++ stWs e (i ++ tab4)))) := by
  intro v u a bs ha hi hl
  obtain ⟨xk, xn, xt, xs, xm⟩ := x
  have h1 := wput1 v (u) a ha (bs) [105, 102, 32] [wsBx 7 t ns xk xn xt xs xm b e] (by exact fl)
  have h2 := hx.tail v (u + 1) (.ptr 0 v 0) (bs ++ [105, 102, 32]) [wsBx 7 t ns xk xn xt xs xm b e] (.inr rfl) (by exact fl)
  have h3 := wbody b i hb (by omega) v (u + 1 + p.length) (bs ++ [105, 102, 32] ++ p.flatten) [wsBx 7 t ns xk xn xt xs xm b e] (by exact fl) (by exact fl)
  have h4 := wput_ok v (u + 1 + p.length + ([[58, 10]] ++ stWs b (i ++ tab4)).length) (.ptr 0 v 0) (.inr rfl) (bs ++ [105, 102, 32] ++ p.flatten ++ ([[58, 10]] ++ stWs b (i ++ tab4)).flatten) true true [i, wElse] [wsBx 7 t ns xk xn xt xs xm b e] (by simp) (by exact fl) (by simp)
  have h5 := wbody e i hc (by omega) v (u + 1 + p.length + ([[58, 10]] ++ stWs b (i ++ tab4)).length + 2) (bs ++ [105, 102, 32] ++ p.flatten ++ ([[58, 10]] ++ stWs b (i ++ tab4)).flatten ++ [i, wElse].flatten) [wsBx 7 t ns xk xn xt xs xm b e] (by exact fl) (by exact fl)
  have hse : (stL e).length = e.length := stL_len e
  have hq : decide ((((stL e).length : Nat) : Int) > 0) = true := decide_eq_true (by omega)
  exact callOk_introT (fun a w => Tryz.call17 a w) Tryz.func17 rfl Tryz.ntmps17 rfl fun B => by
    refine pB [.b false, .b false, .b false, .b false, .b false, .b false, .b true, .f (.tup []) (fun _ => wrH v (u + 1) (.ptr 0 v 0) (bs ++ [105, 102, 32]) [wsBx 7 t ns xk xn xt xs xm b e]),
      .f (.tup []) (fun _ => wrH v (u + 1 + p.length) (.ptr 0 v 0) (bs ++ [105, 102, 32] ++ p.flatten) [wsBx 7 t ns xk xn xt xs xm b e]),
      .f (.tup []) (fun _ => wrH v (u + 1 + p.length + ([[58, 10]] ++ stWs b (i ++ tab4)).length) (.ptr 0 v 0) (bs ++ [105, 102, 32] ++ p.flatten ++ ([[58, 10]] ++ stWs b (i ++ tab4)).flatten) [wsBx 7 t ns xk xn xt xs xm b e]),
      .b true,
      .f (.tup []) (fun _ => wrH v (u + 1 + p.length + ([[58, 10]] ++ stWs b (i ++ tab4)).length + 2) (.ptr 0 v 0) (bs ++ [105, 102, 32] ++ p.flatten ++ ([[58, 10]] ++ stWs b (i ++ tab4)).flatten ++ [i, wElse].flatten) [wsBx 7 t ns xk xn xt xs xm b e]),
      .f (.tup []) (fun _ => wrH v (u + 1 + p.length + ([[58, 10]] ++ stWs b (i ++ tab4)).length + 2 + ([[58, 10]] ++ stWs e (i ++ tab4)).length) (.ptr 0 v 0) (bs ++ [105, 102, 32] ++ p.flatten ++ ([[58, 10]] ++ stWs b (i ++ tab4)).flatten ++ [i, wElse].flatten ++ ([[58, 10]] ++ stWs e (i ++ tab4)).flatten) [wsBx 7 t ns xk xn xt xs xm b e])] rfl ?_
    exact S_nil ⟨_, _, rfl, trivial, wfinE (by exact fl) (by simp [nl])⟩
theorem wst8 (t : List UInt8) (ns : List (List UInt8)) (x : Ex) (b e : List St) (i : List UInt8) (p : Pcs) (hx : Wr WX x p) (hb : ∀ s ∈ b, Wt WS s (i ++ tab4) (stW s (i ++ tab4))) (hz : b.length ≤ 1000000) : Wt WS (.mk 8 t ns x b e) i ([[102, 111, 114, 32], t, [32, 105, 110, 32]] ++ p ++ ([[58, 10]] ++ stWs b (i ++ tab4))) := by
  intro v u a bs ha hi hl
  obtain ⟨xk, xn, xt, xs, xm⟩ := x
  have h1 := wput_ok v (u) a ha (bs) true true [[102, 111, 114, 32], t, [32, 105, 110, 32]] [wsBx 8 t ns xk xn xt xs xm b e] (by simp) (by exact fl) (by simp)
  have h2 := hx.tail v (u + 3) (.ptr 0 v 0) (bs ++ [[102, 111, 114, 32], t, [32, 105, 110, 32]].flatten) [wsBx 8 t ns xk xn xt xs xm b e] (.inr rfl) (by exact fl)
  have h3 := wbody b i hb (by omega) v (u + 3 + p.length) (bs ++ [[102, 111, 114, 32], t, [32, 105, 110, 32]].flatten ++ p.flatten) [wsBx 8 t ns xk xn xt xs xm b e] (by exact fl) (by exact fl)
  exact callOk_introT (fun a w => Tryz.call17 a w) Tryz.func17 rfl Tryz.ntmps17 rfl fun B => by
    refine pB [.b false, .b false, .b false, .b false, .b false, .b false, .b false, .b true, .f (.tup []) (fun _ => wrH v (u + 3) (.ptr 0 v 0) (bs ++ [[102, 111, 114, 32], t, [32, 105, 110, 32]].flatten) [wsBx 8 t ns xk xn xt xs xm b e]),
      .f (.tup []) (fun _ => wrH v (u + 3 + p.length) (.ptr 0 v 0) (bs ++ [[102, 111, 114, 32], t, [32, 105, 110, 32]].flatten ++ p.flatten) [wsBx 8 t ns xk xn xt xs xm b e]),
      .f (.tup []) (fun _ => wrH v (u + 3 + p.length + ([[58, 10]] ++ stWs b (i ++ tab4)).length) (.ptr 0 v 0) (bs ++ [[102, 111, 114, 32], t, [32, 105, 110, 32]].flatten ++ p.flatten ++ ([[58, 10]] ++ stWs b (i ++ tab4)).flatten) [wsBx 8 t ns xk xn xt xs xm b e])] rfl ?_
    exact S_nil ⟨_, _, rfl, trivial, wfinE (by exact fl) (by simp [nl])⟩
end Go.Proofs.YtmdegomejbpldaaGreatDoor
end
section
set_option linter.unusedVariables false
set_option linter.unusedSimpArgs false
set_option maxRecDepth 20000
set_option maxHeartbeats 4000000
namespace Go.Proofs.YtmdegomejbpldaaGreatDoor
open Go Go.Ab
def ldP (n : List UInt8) : Pcs := [[44, 32], quoT n]
theorem ld_take (ns : List (List UInt8)) (j : Nat) (h : j < ns.length) : (ns.take (j + 1)).flatMap ldP = (ns.take j).flatMap ldP ++ ldP ns[j] := by
  rw [List.take_succ_eq_append_getElem h, List.flatMap_append]; simp
theorem ld_le (ns : List (List UInt8)) (j : Nat) (h : j ≤ ns.length) : ((ns.take j).flatMap ldP).flatten.length ≤ (ns.flatMap ldP).flatten.length := by
  induction hk : ns.length - j generalizing j with
  | zero => rw [List.take_of_length_le (by omega)]; exact Nat.le_refl _
  | succ n ih =>
    have := ih (j + 1) (by omega) (by omega)
    rw [ld_take _ _ (by omega), List.flatten_append, List.length_append] at this
    omega
theorem wst4 (t : List UInt8) (ns : List (List UInt8)) (x : Ex) (b e : List St) (i : List UInt8) (hn : ns.length ≤ 1000000) : Wt WS (.mk 4 t ns x b e) i ([[108, 111, 97, 100, 40], quoT t] ++ ns.flatMap ldP ++ [[41, 10]]) := by
  intro v u a bs ha hi hl
  obtain ⟨xk, xn, xt, xs, xm⟩ := x
  have htl := texts_len ns
  have hqt := quoT_ge t
  have hl' : bs.length + 5 + (quoT t).length + (ns.flatMap ldP).flatten.length + 2 ≤ 70000000000000 := by
    simp only [List.flatten_append, List.length_append, List.flatten_cons, List.flatten_nil, List.length_cons, List.length_nil] at hl; omega
  have hQ := Quote_ok t (by omega)
  have h1 := wput_ok v u a ha bs true true [[108, 111, 97, 100, 40], quoT t] [wsBx 4 t ns xk xn xt xs xm b e] (by simp) (by simp only [List.flatten_cons, List.flatten_nil, List.length_append, List.length_cons, List.length_nil]; omega) (by simp)
  exact callOk_introT (fun a w => Tryz.call17 a w) Tryz.func17 rfl Tryz.ntmps17 rfl fun B => by
    refine pa [.b false, .b false, .b false, .b true, .v (.str (quoT t)), .f (.tup []) (fun _ => wrH v (u + 2) (.ptr 0 v 0) (bs ++ [[108, 111, 97, 100, 40], quoT t].flatten) [wsBx 4 t ns xk xn xt xs xm b e])] rfl ?_ ?_
    · (repeat' with_reducible apply AllP_cons) <;> try exact aC
      · exact ⟨_, hQ, .cons (.refl .str) (.nil _)⟩
    refine S_while (α := Nat) (fun j => [(0, .ptr 0 v 0), (50, .sl true false 1 (texts ns)), (51, .int .i64 (ns.length : Nat)), (52, .int .i64 (j : Nat))]) (fun j => wrH v (u + 2 + ((ns.take j).flatMap ldP).length) (.ptr 0 v 0) (bs ++ [[108, 111, 97, 100, 40], quoT t].flatten ++ ((ns.take j).flatMap ldP).flatten) [wsBx 4 t ns xk xn xt xs xm b e])
      (fun j => j ≤ ns.length) (fun j => ns.length - j) 0 (Nat.zero_le _) (.cons rfl (.cons rfl (.cons (by show AV.int .i64 (((texts ns).length : Nat) : Int) = _; rw [htl]) (.cons rfl (.nil _))))) (by show wrH _ _ _ (bs ++ [[108, 111, 97, 100, 40], quoT t].flatten) _ = wrH _ _ _ (bs ++ [[108, 111, 97, 100, 40], quoT t].flatten ++ []) _; rw [List.append_nil]; rfl) ?_
    intro j hj
    have hj : j ≤ ns.length := hj
    by_cases hlt : j < ns.length
    · have hel : (texts ns)[(j : Int).toNat]? = some (.str ns[j]) := texts_get hlt
      have h1 := ld_take ns j hlt
      have h2 := ld_le ns (j + 1) hlt
      have hqn := quoT_ge ns[j]
      rw [h1, List.flatten_append, List.length_append] at h2
      have h2 : ((ns.take j).flatMap ldP).flatten.length + (2 + (quoT ns[j]).length) ≤ (ns.flatMap ldP).flatten.length := by
        simp only [ldP, List.flatten_cons, List.flatten_nil, List.length_append, List.length_cons, List.length_nil] at h2 ⊢; omega
      have hQ := Quote_ok ns[j] (by omega)
      have hw := wput_ok v (u + 2 + ((ns.take j).flatMap ldP).length) (.ptr 0 v 0) (.inr rfl) (bs ++ [[108, 111, 97, 100, 40], quoT t].flatten ++ ((ns.take j).flatMap ldP).flatten) true true [[44, 32], quoT ns[j]] [wsBx 4 t ns xk xn xt xs xm b e] (by simp) (by simp only [List.flatten_cons, List.flatten_nil, List.length_append, List.length_cons, List.length_nil]; omega) (by simp)
      refine pa [.b true, .v (.str ns[j]), .v (.str (quoT ns[j])), .f (.tup []) (fun _ => wrH v (u + 2 + ((ns.take j).flatMap ldP).length + 2) (.ptr 0 v 0) (bs ++ [[108, 111, 97, 100, 40], quoT t].flatten ++ ((ns.take j).flatMap ldP).flatten ++ [[44, 32], quoT ns[j]].flatten) [wsBx 4 t ns xk xn xt xs xm b e])] rfl ?_ ?_
      · (repeat' with_reducible apply AllP_cons) <;> try exact aC
        · exact ⟨_, hQ, .cons (.refl .str) (.nil _)⟩
      refine S_round (j + 1) (by show ns.length - (j + 1) < ns.length - j; omega) hlt (.cons rfl (.cons rfl (.cons rfl (.cons (nX (by omega)) (.nil _))))) ?_
      rw [h1]
      show wrH v (u + 2 + ((ns.take j).flatMap ldP).length + 2) _ _ _ = wrH _ _ _ _ _
      rw [List.flatten_append, List.length_append, ← List.append_assoc]
      rfl
    · obtain rfl : j = ns.length := by omega
      rw [List.take_length]
      have hw := wput1 v (u + 2 + (ns.flatMap ldP).length) (.ptr 0 v 0) (.inr rfl) (bs ++ [[108, 111, 97, 100, 40], quoT t].flatten ++ (ns.flatMap ldP).flatten) [41, 10] [wsBx 4 t ns xk xn xt xs xm b e] (by simp only [List.flatten_cons, List.flatten_nil, List.length_append, List.length_cons, List.length_nil]; omega)
      refine pB [.b false, .f (.tup []) (fun _ => wrH v (u + 2 + (ns.flatMap ldP).length + 1) (.ptr 0 v 0) (bs ++ [[108, 111, 97, 100, 40], quoT t].flatten ++ (ns.flatMap ldP).flatten ++ [41, 10]) [wsBx 4 t ns xk xn xt xs xm b e])] rfl ?_
      exact S_nil ⟨_, _, rfl, trivial, wfinE (by simp only [List.length_append, List.length_cons, List.length_nil]; omega) (by simp)⟩
inductive AllJ (J : List (List UInt8) → Prop) : St → Prop
  | mk {k : Nat} {t : List UInt8} {ns : List (List UInt8)} {x : Ex} {b e : List St} (h1 : k = 6 → J ns) (h2 : ∀ s ∈ b, AllJ J s) (h3 : ∀ s ∈ e, AllJ J s) : AllJ J (.mk k t ns x b e)
theorem wst {J : List (List UInt8) → Prop} (HJ : ∀ ns, J ns → Calc cx 24 [.sl true false 1 (texts ns), .str [44, 32]] (.str (joinT ns))) {s : St} (h : Ws 800000 s) : AllJ J s → ∀ i, Wt WS s i (stW s i) := by
  induction h with
  | @mk k t ns x b e h1 h2 h3 h4 h5 h6 ihb ihe =>
    intro hj i
    cases hj with
    | mk hj1 hj2 hj3 =>
    match k, h6, hj1 with
    | 1, _, _ => exact wst1 t ns x b e i
    | 2, h6, _ => exact wst2 t ns x b e i _ (wex h6.2.2.1)
    | 3, h6, _ => exact wst3 t ns x b e i _ (wex h6.2.2.1)
    | 4, _, _ => exact wst4 t ns x b e i (by omega)
    | 5, h6, _ => exact wst5 t ns x b e i _ (wex h6.2.2.1)
    | 6, h6, hj1 => exact wst6 t ns x b e i (HJ ns (hj1 rfl)) (fun s hs => ihb s hs (hj2 s hs) _) (by omega)
    | 7, h6, _ =>
      by_cases he : e = []
      · have := wst7a t ns x b e i _ (wex h6.2.2) he (fun s hs => ihb s hs (hj2 s hs) _) (by omega)
        subst he; exact this
      · have hpos : 0 < e.length := List.length_pos_iff.2 he
        have := wst7b t ns x b e i _ (wex h6.2.2) hpos (fun s hs => ihb s hs (hj2 s hs) _) (by omega) (fun s hs => ihe s hs (hj3 s hs) _) (by omega)
        show Wt WS _ i ([[105, 102, 32]] ++ exW x ++ ([[58, 10]] ++ stWs b (i ++ tab4)) ++ (if e.length > 0 then [i, wElse] ++ ([[58, 10]] ++ stWs e (i ++ tab4)) else []))
        rw [if_pos hpos]; exact this
    | 8, h6, _ => exact wst8 t ns x b e i _ (wex h6.2.2.1) (fun s hs => ihb s hs (hj2 s hs) _) (by omega)
    | 0, h6, _ => exact h6.elim
    | k + 9, h6, _ => exact h6.elim
theorem Join_few (ns : List (List UInt8)) (h : ns.length ≤ 1) : Calc cx 24 [.sl true false 1 (texts ns), .str [44, 32]] (.str (joinT ns)) :=
  pure_intro (fun a w => Tryz.call24 a w) Tryz.func24 rfl Tryz.ntmps24 rfl .str fun B => by
    match ns, h with
    | [], _ =>
      refine pB [.b true] rfl ?_
      exact S_retc .str rfl trivial rfl
    | [s], _ =>
      refine pB [.b false, .b true, .v (.str s)] rfl ?_
      refine S_retc .str rfl trivial ?_
      show AV.str s = .str (s ++ [])
      rw [List.append_nil]
end Go.Proofs.YtmdegomejbpldaaGreatDoor
end
section
set_option linter.unusedVariables false
set_option linter.unusedSimpArgs false
set_option maxRecDepth 20000
set_option maxHeartbeats 4000000
namespace Go.Proofs.YtmdegomejbpldaaGreatDoor
open Go Go.Ab
def canonAV (x : List UInt8 × Flt) : AV := .tup [.str x.1, fltA x.2]
theorem canonAV_free (x : List UInt8 × Flt) : Free true (canonAV x) := .tup (by intro y hy; simp at hy; rcases hy with rfl | rfl; exact .str; exact flt_free _)
theorem stmts0_ok (a : AV) (i : List UInt8) (σ : Heap) : CallOk cx 8 [a, .sl true false 10 [], .str i] σ (fun o s => o = .ret (.tup []) ∧ s = σ) :=
  callOk_intro (fun a w => Tryz.call8 a w) Tryz.func8 rfl Tryz.ntmps8 rfl fun B => by
    refine pB [] rfl ?_
    refine S_while (α := Unit) (fun _ => [(9, .int .i64 (0 : Nat)), (10, .int .i64 (0 : Nat))]) (fun _ => σ) (fun _ => True) (fun _ => 0) () trivial (.cons rfl (.cons rfl (.nil _))) rfl ?_
    rintro ⟨⟩ _
    refine pB [.b false] rfl ?_
    exact S_nil ⟨_, _, rfl, trivial, rfl, rfl⟩
theorem stW_ne {s : St} (h : Ws 800000 s) (i : List UInt8) : (stW s i).flatten ≠ [] := by
  cases h with
  | @mk k t ns x b e h1 h2 h3 h4 h5 h6 =>
    match k, h6 with
    | 1, _ => exact fun h => by cases h
    | 2, _ => exact fun h => by cases h
    | 3, _ =>
      intro h
      have h : ([t, [32, 61, 32]] ++ exW x ++ [nl]).flatten = [] := h
      simp at h
    | 4, _ => exact fun h => by cases h
    | 5, _ =>
      intro h
      have h : (exW x ++ [nl]).flatten = [] := h
      simp [nl] at h
    | 6, _ => exact fun h => by cases h
    | 7, _ => exact fun h => by cases h
    | 8, _ => exact fun h => by cases h
    | 0, h6 => exact h6.elim
    | k + 9, h6 => exact h6.elim
theorem srcT_ne {l : List St} (h : ∀ x ∈ l, Ws 800000 x) (hl : l ≠ []) : srcT l ≠ [] := by
  match l, h, hl with
  | s :: r, h, _ =>
    have := stW_ne (h s (List.mem_cons_self ..)) []
    intro hc
    have hc : ([] :: (stW s [] ++ stWs r [])).flatten = [] := hc
    simp only [List.flatten_cons, List.nil_append, List.flatten_append, List.append_eq_nil_iff] at hc
    exact this hc.1
def wrQ (v u : Nat) (a : AV) (bs : List UInt8) : Heap := [(v, some (bBox 45 a (.ms 3 u 0 bs.length 1 false) [])), (u, some (byBox bs))]
theorem wrQ_rn (u : Nat) (bs : List UInt8) (a a' : AV) (ha : a = .nilp ∧ a' = .nilp ∨ a = .ptr 0 0 0 ∧ a' = .ptr 2 0 0) : RnH [2, 3] (wrH 0 u a bs []) (wrQ 0 u a' bs) := by
  have h : Rn [2, 3] a a' := by
    rcases ha with ⟨rfl, rfl⟩ | ⟨rfl, rfl⟩
    · exact .free .nilp
    · exact .ptr rfl
  exact .cons (.live (.cells (.cons h (.cons (.ms rfl) (.nil _))))) (.cons (.live (.cells (.free (bytes_fr bs)))) (.nil _))
theorem Canon_ok {J : List (List UInt8) → Prop} (HJ : ∀ ns, J ns → Calc cx 24 [.sl true false 1 (texts ns), .str [44, 32]] (.str (joinT ns))) (s : List UInt8) (hj : ∀ x ∈ (parseS s).1, AllJ J x) (hl : (srcT (parseS s).1).length ≤ 70000000000000) :
    Calc cx 5 [.str s] (canonAV (canonS s)) :=
  pure_intro (fun a w => Tryz.call5 a w) Tryz.func5 rfl Tryz.ntmps5 rfl (canonAV_free _) fun B => by
    have hP := Parse_ok s
    have hw := parseS_w s
    obtain ⟨Y, hY⟩ : ∃ Y, Y = canonS s := ⟨_, rfl⟩
    rw [← hY]
    unfold canonS at hY
    obtain ⟨l, e1, e2, hp⟩ : ∃ l e1 e2, parseS s = (l, (e1, e2)) := ⟨_, _, _, rfl⟩
    rw [hp] at hP hw hj hl hY
    have hw : l.length ≤ 800000 ∧ ∀ x ∈ l, Ws 800000 x := hw
    have hj : ∀ x ∈ l, AllJ J x := hj
    have hl : (srcT l).length ≤ 70000000000000 := hl
    have hY : Y = if e1 ≠ 0 then ([], (e1, e2)) else if 6000 < (srcT l).length ∨ (parseS (srcT l)).2.1 ≠ 0 then ([], (2, 0)) else (srcT l, (0, 0)) := hY
    by_cases h1 : e1 = 0
    · subst h1
      rw [if_neg (by decide)] at hY
      obtain ⟨tx, ht⟩ : ∃ tx, tx = srcT l := ⟨_, rfl⟩
      rw [← ht] at hl hY
      have hP2 := Parse_ok tx
      obtain ⟨l2, f1, f2, hp2⟩ : ∃ l2 f1 f2, parseS tx = (l2, (f1, f2)) := ⟨_, _, _, rfl⟩
      rw [hp2] at hP2 hY
      have hY : Y = if 6000 < tx.length ∨ f1 ≠ 0 then ([], (2, 0)) else (tx, (0, 0)) := hY
      obtain ⟨l2f, hl2⟩ : ∃ z, z = AV.tup [stsA l2, .agg [.int .i64 (f1 : Nat), .int .i64 (f2 : Nat)]] := ⟨_, rfl⟩
      by_cases hn : l = []
      · subst hn
        have ht : tx = [] := ht
        subst ht
        refine pa [.v (.tup [.sl true false 10 [], .agg [.int .i64 (0 : Nat), .int .i64 (e2 : Nat)]]), .b false, .k (.tup [])] rfl ?_ ?_
        · (repeat' with_reducible apply AllP_cons) <;> try exact aC
          · exact ⟨_, hP, .cons (.refl .str) (.nil _)⟩
          · exact stmts0_ok (.ptr 2 0 0) [] _
        refine S_dead ?_ ⟨.skip, _, .inr ⟨_, _, _, rfl⟩⟩
        refine S_callf [2, 3] (string0_ok (T := 45) 0 0 .nilp) rfl (.cons (.ptr rfl) (.nil _)) (Part.mk' (es := [(0, some (bBox 45 .nilp .nils [])), (0, none)]) rfl rfl (.cons (.live (.cells (.cons (.free .nilp) (.cons (.free .nils) (.nil _))))) (.cons .dead (.nil _)))) rfl rfl ?_ (fun v σ1 h => by cases h.1)
        intro y σ1 h
        obtain ⟨h1, rfl⟩ := h
        cases h1
        refine ⟨.str [], [(0, some (bBox 45 .nilp .nils [])), (0, none)], .cons (.live (.cells (.cons (.free .nilp) (.cons (.free .nils) (.nil _))))) (.cons .dead (.nil _)), .free .str, ?_⟩
        obtain ⟨tx, htx⟩ : ∃ tx : List UInt8, tx = [] := ⟨_, rfl⟩
        rw [← htx] at hP2 hY ⊢
        by_cases h6 : 6000 < tx.length
        · rw [if_pos (.inl h6)] at hY
          subst hY
          have e6 : decide ((tx.length : Int) > 6000) = true := decide_eq_true (by omega)
          refine pa [.v (.tup [stsA l2, .agg [.int .i64 (f1 : Nat), .int .i64 (f2 : Nat)]]), .b true, .b true] rfl ?_ ?_
          · (repeat' with_reducible apply AllP_cons) <;> try exact aC
            · exact ⟨_, hP2, .cons (.refl .str) (.nil _)⟩
          subst htx; exact S_retc (canonAV_free ([], (2, 0))) rfl ⟨rfl, trivial⟩ rfl
        · have e6 : decide ((tx.length : Int) > 6000) = false := decide_eq_false (by omega)
          by_cases hf : f1 = 0
          · rw [if_neg (by rintro (h | h); exact h6 h; exact h hf)] at hY
            subst hY
            subst hf
            refine pa [.v (.tup [stsA l2, .agg [.int .i64 (0 : Nat), .int .i64 (f2 : Nat)]]), .b false, .b false] rfl ?_ ?_
            · (repeat' with_reducible apply AllP_cons) <;> try exact aC
              · exact ⟨_, hP2, .cons (.refl .str) (.nil _)⟩
            exact S_retc (canonAV_free (tx, (0, 0))) rfl ⟨rfl, trivial⟩ rfl
          · rw [if_pos (.inr hf)] at hY
            subst hY
            have ef : ((f1 : Int) != 0) = true := bne_iff_ne.2 (by omega)
            refine pa [.v (.tup [stsA l2, .agg [.int .i64 (f1 : Nat), .int .i64 (f2 : Nat)]]), .b false, .b true] rfl ?_ ?_
            · (repeat' with_reducible apply AllP_cons) <;> try exact aC
              · exact ⟨_, hP2, .cons (.refl .str) (.nil _)⟩
            subst htx; exact S_retc (canonAV_free ([], (2, 0))) rfl ⟨rfl, trivial⟩ rfl
      · have hst := wstmts l [] (fun s hs => wst HJ (hw.2 s hs) (hj s hs) _) (by omega) 0 0 .nilp [] (.inl rfl) (by rw [← show tx = (stWs l []).flatten from ht]; simpa using hl)
        have hlen0 : l.length ≠ 0 := fun h => hn (List.length_eq_zero_iff.1 h)
        rw [if_neg hlen0, ← show tx = (stWs l []).flatten from ht, List.nil_append] at hst
        obtain ⟨m, hm⟩ : ∃ m, m = 0 + (stWs l []).length := ⟨_, rfl⟩
        rw [← hm] at hst
        have hne : tx ≠ [] := by rw [ht]; exact srcT_ne hw.2 hn
        have hsr := string_ok (T := 45) (rest := []) 0 m (.ptr 0 0 0) tx hne (by omega)
        refine pa [.v (.tup [stsA l, .agg [.int .i64 (0 : Nat), .int .i64 (e2 : Nat)]]), .b false] rfl ?_ ?_
        · (repeat' with_reducible apply AllP_cons) <;> try exact aC
          · exact ⟨_, hP, .cons (.refl .str) (.nil _)⟩
        refine S_ghost (id := 2) (j := 1) 1 ⟨false, some 5⟩ rfl rfl rfl (Nat.ne_of_lt (lble rfl)) ⟨.skip, _, .inr ⟨_, _, _, rfl⟩⟩ ?_
        refine S_callf [2, 3] hst rfl (.cons (.ptr rfl) (.free (by intro y hy; simp at hy; rcases hy with rfl | rfl; exact stsA_free l; exact .str))) (Part.mk' (es := wrQ 0 0 .nilp []) rfl rfl (wrQ_rn 0 [] _ _ (.inl ⟨rfl, rfl⟩))) rfl rfl ?_ (fun v σ1 h => by cases h.1)
        intro y σ1 h
        obtain ⟨h1, rfl⟩ := h
        cases h1
        refine ⟨.tup [], wrQ 0 m (.ptr 2 0 0) tx, wrQ_rn m tx _ _ (.inr ⟨rfl, rfl⟩), .free (.tup (by simp)), ?_⟩
        refine pB [] rfl ?_
        refine S_callf [2, 3] hsr rfl (.cons (.ptr rfl) (.nil _)) (Part.mk' (es := wrQ 0 m (.ptr 2 0 0) tx) rfl rfl (wrQ_rn m tx _ _ (.inr ⟨rfl, rfl⟩))) rfl rfl ?_ (fun v σ1 h => by cases h.1)
        intro y σ1 h
        obtain ⟨h1, rfl⟩ := h
        cases h1
        refine ⟨.str tx, [(0, some (bBox 45 (.ptr 2 0 0) (.ms 3 m 0 tx.length 1 false) [])), (m, none)], .cons (.live (.cells (.cons (.ptr rfl) (.cons (.ms rfl) (.nil _))))) (.cons .dead (.nil _)), .free .str, ?_⟩
        by_cases h6 : 6000 < tx.length
        · rw [if_pos (.inl h6)] at hY
          subst hY
          have e6 : decide ((tx.length : Int) > 6000) = true := decide_eq_true (by omega)
          refine pa [.v (.tup [stsA l2, .agg [.int .i64 (f1 : Nat), .int .i64 (f2 : Nat)]]), .b true, .b true] rfl ?_ ?_
          · (repeat' with_reducible apply AllP_cons) <;> try exact aC
            · exact ⟨_, hP2, .cons (.refl .str) (.nil _)⟩
          exact S_retc (canonAV_free ([], (2, 0))) rfl ⟨rfl, trivial⟩ rfl
        · have e6 : decide ((tx.length : Int) > 6000) = false := decide_eq_false (by omega)
          by_cases hf : f1 = 0
          · rw [if_neg (by rintro (h | h); exact h6 h; exact h hf)] at hY
            subst hY
            subst hf
            refine pa [.v (.tup [stsA l2, .agg [.int .i64 (0 : Nat), .int .i64 (f2 : Nat)]]), .b false, .b false] rfl ?_ ?_
            · (repeat' with_reducible apply AllP_cons) <;> try exact aC
              · exact ⟨_, hP2, .cons (.refl .str) (.nil _)⟩
            exact S_retc (canonAV_free (tx, (0, 0))) rfl ⟨rfl, trivial⟩ rfl
          · rw [if_pos (.inr hf)] at hY
            subst hY
            have ef : ((f1 : Int) != 0) = true := bne_iff_ne.2 (by omega)
            refine pa [.v (.tup [stsA l2, .agg [.int .i64 (f1 : Nat), .int .i64 (f2 : Nat)]]), .b false, .b true] rfl ?_ ?_
            · (repeat' with_reducible apply AllP_cons) <;> try exact aC
              · exact ⟨_, hP2, .cons (.refl .str) (.nil _)⟩
            exact S_retc (canonAV_free ([], (2, 0))) rfl ⟨rfl, trivial⟩ rfl
    · have e0 : ((e1 : Int) != 0) = true := bne_iff_ne.2 (by omega)
      rw [if_pos h1] at hY
      subst hY
      refine pa [.v (.tup [stsA l, .agg [.int .i64 (e1 : Nat), .int .i64 (e2 : Nat)]]), .b true] rfl ?_ ?_
      · (repeat' with_reducible apply AllP_cons) <;> try exact aC
        · exact ⟨_, hP, .cons (.refl .str) (.nil _)⟩
      exact S_retc (canonAV_free ([], (e1, e2))) rfl ⟨rfl, trivial⟩ rfl
end Go.Proofs.YtmdegomejbpldaaGreatDoor
end
section
set_option linter.unusedVariables false
set_option linter.unusedSimpArgs false
set_option maxRecDepth 20000
namespace Go.Proofs.YtmdegomejbpldaaGreatDoor
open Go Go.Ab
theorem SameTexts_ok {st st' fl fl' : Bool} (a b : List (List UInt8)) (hl : a.length ≤ 9223372036854775806) (hb : b.length ≤ 9223372036854775807) : Calc cx 14 [.sl st fl 1 (texts a), .sl st' fl' 1 (texts b)] (.bool (a == b)) :=
  pure_intro (fun a w => Tryz.call14 a w) Tryz.func14 rfl Tryz.ntmps14 rfl .bool fun B => by
    refine ab 1000 rfl trivial ?_
    refine S_bne rfl (fun h => ?_) (fun h => ?_)
    · refine ab 1000 rfl trivial ?_
      refine S_retc .bool rfl trivial ?_
      have hne : a ≠ b := by
        intro e; subst e; exact h rfl
      rw [show (a == b) = false by simpa using hne]; rfl
    · have hlen : a.length = b.length := by simp [texts] at h; omega
      refine ab 1000 rfl trivial ?_
      refine S_while (α := Nat) (fun i => [(0, .sl st fl 1 (texts a)), (1, .sl st' fl' 1 (texts b)), (5, .int .i64 i)]) (fun _ => []) (fun i => i ≤ a.length ∧ a.take i = b.take i) (fun i => a.length - i) 0
        ⟨by simp, by simp⟩ (.cons rfl (.cons rfl (.cons rfl (.nil _)))) rfl ?_
      rintro i ⟨hi, hN⟩
      refine ab 1000 rfl trivial ?_
      refine S_dec rfl (fun h => ?_) (fun h => ?_)
      · have hil : i < a.length := by simp [texts] at h; omega
        have hil' : i < b.length := by omega
        refine ab 1000 rfl trivial ?_
        refine S_draw 9 [] [.str a[i], .str b[i]] rfl rfl rfl rfl ⟨rfl, rfl, rfl, by omega, by simp [texts, List.getElem?_eq_getElem hil], rfl, rfl, rfl, rfl, by omega, by simp [texts, List.getElem?_eq_getElem hil'], rfl, rfl, trivial⟩ ?_
        refine ab 1000 rfl trivial ?_
        refine S_cond rfl (fun h => ?_) (fun h => ?_)
        · have hne : a[i] ≠ b[i] := by simpa using h
          refine ab 1000 rfl trivial ?_
          refine S_retc .bool rfl trivial ?_
          have hne : a ≠ b := by
            intro e; subst e; exact hne rfl
          rw [show (a == b) = false by simpa using hne]; rfl
        · have he : a[i] = b[i] := by simpa using h
          refine ab 1000 rfl trivial ?_
          refine S_round (i + 1) (by show a.length - (i + 1) < a.length - i; omega) ⟨hil, ?_⟩ (.cons rfl (.cons rfl (.cons (ai64 rfl (by omega)) (.nil _)))) rfl
          rw [List.take_succ_eq_append_getElem hil, List.take_succ_eq_append_getElem hil', hN, he]
      · have hil : i = a.length := by simp [texts] at h; omega
        refine ab 1000 rfl trivial ?_
        refine S_retc .bool rfl trivial ?_
        have he : a = b := by
          rw [← List.take_of_length_le (l := a) (i := i) (by omega), ← List.take_of_length_le (l := b) (i := i) (by omega)]; exact hN
        rw [show (a == b) = true by simpa using he]; rfl
end Go.Proofs.YtmdegomejbpldaaGreatDoor
end
section
set_option linter.unusedVariables false
set_option linter.unusedSimpArgs false
set_option maxRecDepth 20000
set_option maxHeartbeats 4000000
namespace Go.Proofs.YtmdegomejbpldaaGreatDoor
open Go Go.Ab
theorem SameTextsE_ok {st st' fl fl' : Bool} (a : List (List UInt8)) (hl : a.length ≤ 800000) : Calc cx 14 [.sl st fl 1 (texts a), .sl st' fl' 1 (texts a)] (.bool true) := by
  have := SameTexts_ok (st := st) (st' := st') (fl := fl) (fl' := fl') a a (by omega) (by omega)
  rwa [beq_self_eq_true] at this
def SamK (x : Ex) : Prop := match x with
  | .mk k n t ks ns => ns.length ≤ 800000 ∧ Calc cx 15 [.sl true false 5 (exL ks), .sl true false 5 (exL ks)] (.bool true)
theorem sameL {st st' fl fl' : Bool} (l : List Ex) (h : ∀ x ∈ l, SamK x) (hl : l.length ≤ 800000) : Calc cx 15 [.sl st fl 5 (exL l), .sl st' fl' 5 (exL l)] (.bool true) :=
  pure_intro (fun a w => Tryz.call15 a w) Tryz.func15 rfl Tryz.ntmps15 rfl .bool fun B => by
    have hll : (exL l).length = l.length := by rw [exL_map]; simp
    refine pa [.b false] rfl ?_ ?_
    · (repeat' with_reducible apply AllP_cons) <;> try exact aC
      · exact bne_self_eq_false _
    refine S_while (α := Nat) (fun i => [(0, .sl st fl 5 (exL l)), (1, .sl st' fl' 5 (exL l)), (5, .int .i64 (i : Nat))]) (fun _ => []) (fun i => i ≤ l.length) (fun i => l.length - i) 0
      (Nat.zero_le _) (.cons rfl (.cons rfl (.cons rfl (.nil _)))) rfl ?_
    intro i hi
    have hi : i ≤ l.length := hi
    by_cases hlt : i < l.length
    · obtain ⟨y, hy⟩ : ∃ y, l[i] = y := ⟨_, rfl⟩
      have he : (exL l)[(i : Int).toNat]? = some (exA y) := by
        subst hy
        rw [exL_map, List.getElem?_map, Int.toNat_natCast, List.getElem?_eq_getElem hlt]; rfl
      have hm := h _ (List.getElem_mem hlt)
      rw [hy] at hm
      obtain ⟨k, n, t, ks, ns⟩ := y
      obtain ⟨hn, hk⟩ := hm
      have hn := SameTextsE_ok (st := true) (st' := true) (fl := false) (fl' := false) ns hn
      have e0 : decide ((i : Int) < (((exL l).length : Nat) : Int)) = true := decide_eq_true (by omega)
      refine pa [.b true, .v (exA (.mk k n t ks ns)), .v (exA (.mk k n t ks ns)), .b false, .v (exA (.mk k n t ks ns)), .v (exA (.mk k n t ks ns)), .b false, .v (exA (.mk k n t ks ns)), .v (exA (.mk k n t ks ns)), .b false,
        .v (exA (.mk k n t ks ns)), .v (exA (.mk k n t ks ns)), .v (.bool true), .b false, .v (exA (.mk k n t ks ns)), .v (exA (.mk k n t ks ns)), .v (.bool true), .b false] rfl ?_ ?_
      · (repeat' with_reducible apply AllP_cons) <;> try exact aC
        · exact bne_self_eq_false _
        · exact bne_self_eq_false _
        · simp
        · exact ⟨_, hn, .cons (.refl (.sl (fun h => by cases h) (textsF ns))) (.cons (.refl (.sl (fun h => by cases h) (textsF ns))) (.nil _))⟩
        · exact ⟨_, hk, .cons (.refl (.sl (fun h => by cases h) (exL_free ks))) (.cons (.refl (.sl (fun h => by cases h) (exL_free ks))) (.nil _))⟩
      refine S_round (i + 1) (by show l.length - (i + 1) < l.length - i; omega) hlt (.cons rfl (.cons rfl (.cons (ai64 rfl (by omega)) (.nil _)))) rfl
    · have e0 : decide ((i : Int) < (((exL l).length : Nat) : Int)) = false := decide_eq_false (by omega)
      refine pB [.b false] rfl ?_
      exact S_retc .bool rfl trivial rfl
theorem samK {x : Ex} (h : Wx 800000 x) : SamK x := by
  induction h with
  | mk h1 h2 h3 h4 ih => exact ⟨h2, sameL _ ih h1⟩
def SamS (x : St) : Prop := match x with
  | .mk k t ns x b e => ns.length ≤ 800000 ∧ SamK x ∧ Calc cx 7 [.sl true false 10 (stL b), .sl true false 10 (stL b)] (.bool true) ∧ Calc cx 7 [.sl true false 10 (stL e), .sl true false 10 (stL e)] (.bool true)
theorem sameS {st st' fl fl' : Bool} (l : List St) (h : ∀ x ∈ l, SamS x) (hl : l.length ≤ 800000) : Calc cx 7 [.sl st fl 10 (stL l), .sl st' fl' 10 (stL l)] (.bool true) :=
  pure_intro (fun a w => Tryz.call7 a w) Tryz.func7 rfl Tryz.ntmps7 rfl .bool fun B => by
    have hll : (stL l).length = l.length := stL_len l
    refine pa [.b false] rfl ?_ ?_
    · (repeat' with_reducible apply AllP_cons) <;> try exact aC
      · exact bne_self_eq_false _
    refine S_while (α := Nat) (fun i => [(0, .sl st fl 10 (stL l)), (1, .sl st' fl' 10 (stL l)), (5, .int .i64 (i : Nat))]) (fun _ => []) (fun i => i ≤ l.length) (fun i => l.length - i) 0
      (Nat.zero_le _) (.cons rfl (.cons rfl (.cons rfl (.nil _)))) rfl ?_
    intro i hi
    have hi : i ≤ l.length := hi
    by_cases hlt : i < l.length
    · obtain ⟨y, hy⟩ : ∃ y, l[i] = y := ⟨_, rfl⟩
      have he : (stL l)[(i : Int).toNat]? = some (stA y) := by
        subst hy
        rw [stL_map, List.getElem?_map, Int.toNat_natCast, List.getElem?_eq_getElem hlt]; rfl
      have hm := h _ (List.getElem_mem hlt)
      rw [hy] at hm
      obtain ⟨k, t, ns, x, b, e⟩ := y
      obtain ⟨hn, hx, hb, hq⟩ := hm
      have hn := SameTextsE_ok (st := true) (st' := true) (fl := false) (fl' := false) ns hn
      have hx := sameL (st := true) (st' := true) (fl := true) (fl' := true) [x] (by intro y hy; rw [List.mem_singleton] at hy; rw [hy]; exact hx) (by simp)
      obtain ⟨xk, xn, xt, xs, xm⟩ := x
      have e0 : decide ((i : Int) < (((stL l).length : Nat) : Int)) = true := decide_eq_true (by omega)
      refine pa [.b true, .v (stA (.mk k t ns (.mk xk xn xt xs xm) b e)), .v (stA (.mk k t ns (.mk xk xn xt xs xm) b e)), .b false, .v (stA (.mk k t ns (.mk xk xn xt xs xm) b e)), .v (stA (.mk k t ns (.mk xk xn xt xs xm) b e)), .b false, .v (stA (.mk k t ns (.mk xk xn xt xs xm) b e)), .v (stA (.mk k t ns (.mk xk xn xt xs xm) b e)), .v (.bool true), .b false,
        .v (stA (.mk k t ns (.mk xk xn xt xs xm) b e)), .v (stA (.mk k t ns (.mk xk xn xt xs xm) b e)), .v (.bool true), .b false, .v (stA (.mk k t ns (.mk xk xn xt xs xm) b e)), .v (stA (.mk k t ns (.mk xk xn xt xs xm) b e)), .v (.bool true), .b false, .v (stA (.mk k t ns (.mk xk xn xt xs xm) b e)), .v (stA (.mk k t ns (.mk xk xn xt xs xm) b e)), .v (.bool true), .b false] rfl ?_ ?_
      · (repeat' with_reducible apply AllP_cons) <;> try exact aC
        · exact bne_self_eq_false _
        · simp
        · exact ⟨_, hn, .cons (.refl (.sl (fun h => by cases h) (textsF ns))) (.cons (.refl (.sl (fun h => by cases h) (textsF ns))) (.nil _))⟩
        · exact ⟨_, hx, .cons (.refl (.sl (fun h => by cases h) (exL_free [.mk xk xn xt xs xm]))) (.cons (.refl (.sl (fun h => by cases h) (exL_free [.mk xk xn xt xs xm]))) (.nil _))⟩
        · exact ⟨_, hb, .cons (.refl (.sl (fun h => by cases h) (stL_free b))) (.cons (.refl (.sl (fun h => by cases h) (stL_free b))) (.nil _))⟩
        · exact ⟨_, hq, .cons (.refl (.sl (fun h => by cases h) (stL_free e))) (.cons (.refl (.sl (fun h => by cases h) (stL_free e))) (.nil _))⟩
      refine S_round (i + 1) (by show l.length - (i + 1) < l.length - i; omega) hlt (.cons rfl (.cons rfl (.cons (ai64 rfl (by omega)) (.nil _)))) rfl
    · have e0 : decide ((i : Int) < (((stL l).length : Nat) : Int)) = false := decide_eq_false (by omega)
      refine pB [.b false] rfl ?_
      exact S_retc .bool rfl trivial rfl
theorem samZ : SamK .zero := ⟨Nat.zero_le _, sameL [] (by nofun) (Nat.zero_le _)⟩
theorem shs_samK {k : Nat} {t : List UInt8} {ns : List (List UInt8)} {x : Ex} {b e : List St} (h6 : shs 800000 k t ns x b e) : SamK x := by
  match k, h6 with
  | 1, h => rw [h.2.2.1]; exact samZ
  | 2, h => exact samK h.2.2.1
  | 3, h => exact samK h.2.2.1
  | 4, h => rw [h.2.2.1]; exact samZ
  | 5, h => exact samK h.2.2.1
  | 6, h => rw [h.2.2.1]; exact samZ
  | 7, h => exact samK h.2.2
  | 8, h => exact samK h.2.2.1
  | 0, h => exact h.elim
  | k + 9, h => exact h.elim
theorem samS {x : St} (h : Ws 800000 x) : SamS x := by
  induction h with
  | mk h1 h2 h3 h4 h5 h6 ihb ihe => exact ⟨h1, shs_samK h6, sameS _ ihb h2, sameS _ ihe h3⟩
theorem SameStmts_same {st st' fl fl' : Bool} (s : List UInt8) : Calc cx 7 [.sl st fl 10 (stL (parseS s).1), .sl st' fl' 10 (stL (parseS s).1)] (.bool true) :=
  have h := parseS_w s
  sameS _ (fun x hx => samS (h.2 x hx)) h.1
end Go.Proofs.YtmdegomejbpldaaGreatDoor
end
section
set_option linter.unusedVariables false
set_option linter.unusedSimpArgs false
set_option maxRecDepth 20000
namespace Go.Proofs.YtmdegomejbpldaaGreatDoor
open Go Go.Ab
structure Rd where
  r : List Tok
  f : Flt
def Rd.bad (q : Rd) : Bool := q.f.1 != 0
def Rd.next (q : Rd) : Rd := ⟨q.r.tail, q.f⟩
def failR (e k : Nat) (q : Rd) : Rd := if q.bad then q else ⟨q.r, (k, placeS e q.r)⟩
def lkK (q : Rd) : Nat := if q.bad then 0 else hdK q.r
def lkT (q : Rd) : List UInt8 := if q.bad then [] else hdT q.r
def lkK1 (q : Rd) : Nat := if q.bad then 0 else hdK q.r.tail
def lkT1 (q : Rd) : List UInt8 := if q.bad then [] else hdT q.r.tail
def isR (l : List (List UInt8)) (q : Rd) : Bool := (lkK q == 4 || lkK q == 5) && l.contains (lkT q)
def signR (e : Nat) (s : List UInt8) (q : Rd) : Rd := if isR [s] q then q.next else failR e 1 q
def kindR (e k : Nat) (q : Rd) : List UInt8 × Rd := if lkK q = k then (lkT q, q.next) else ([], failR e 1 q)
def inR (e n : Nat) (q : Rd) : Rd := if n = 30 then failR e 2 q else q
def nameR (q : Rd) : Bool := lkK q == 1 && lkK1 q == 4 && lkT1 q == [61]
def wd (q : Rd) : List UInt8 := if lkK q = 5 then lkT q else []
def atomW (t : List UInt8) : Nat := if t == wFalse then 3 else if t == wTrue then 2 else 1
mutual
def exprR (e : Nat) : Nat → Nat → Rd → Option (Ex × Rd)
  | 0, _, q => if q.bad then some (.zero, q) else none
  | F + 1, n, q => levR e F 0 (n + 1) (inR e n q)
  termination_by structural F _ _ => F
def levR (e : Nat) : Nat → Nat → Nat → Rd → Option (Ex × Rd)
  | 0, _, _, q => if q.bad then some (.zero, q) else none
  | F + 1, k, n, q => if q.bad then some (.zero, q) else match k with
    | 2 => if isR [wNot] q then (levR e F 2 (n + 1) (inR e n q.next)).bind fun x => some (.mk 12 0 [] [x.1] [], x.2)
      else (levR e F 3 n q).bind fun x => if isR (binS 2) x.2 then (levR e F 3 n x.2.next).bind fun y => some (binE (lkT x.2) x.1 y.1, y.2) else some x
    | 5 => if isR [[45]] q then (levR e F 5 (n + 1) (inR e n q.next)).bind fun x => some (.mk 13 0 [] [x.1] [], x.2)
      else postA e F n q
    | k => (levR e F (k + 1) n q).bind fun x => loopR e F k n x.1 x.2
  termination_by structural F _ _ _ => F
def loopR (e : Nat) : Nat → Nat → Nat → Ex → Rd → Option (Ex × Rd)
  | 0, _, _, x, q => if q.bad then some (x, q) else none
  | F + 1, k, n, x, q => if isR (binS k) q then (levR e F (k + 1) n q.next).bind fun y => loopR e F k n (binE (lkT q) x y.1) y.2 else some (x, q)
  termination_by structural F _ _ _ _ => F
def postA (e : Nat) : Nat → Nat → Rd → Option (Ex × Rd)
  | 0, _, _ => none
  | F + 1, n, q => (atomR e F n q).bind fun x => postR e F n x.1 x.2
  termination_by structural F _ _ => F
def postR (e : Nat) : Nat → Nat → Ex → Rd → Option (Ex × Rd)
  | 0, _, x, q => if q.bad then some (x, q) else none
  | F + 1, n, x, q => if q.bad then some (x, q)
    else if isR [[91]] q then (exprR e F n q.next).bind fun y => postR e F n (.mk 11 0 [] [x, y.1] []) (signR e [93] y.2)
    else if isR [[40]] q then (callR e F n [x] [] q.next).bind fun y => postR e F n y.1 y.2
    else some (x, q)
  termination_by structural F _ _ _ => F
def callR (e : Nat) : Nat → Nat → List Ex → List (List UInt8) → Rd → Option (Ex × Rd)
  | 0, _, ks, ns, q => if q.bad then some (.mk 10 0 [] ks ns, q) else none
  | F + 1, n, ks, ns, q => if q.bad then some (.mk 10 0 [] ks ns, q)
    else if isR [[41]] q then some (.mk 10 0 [] ks ns, q.next)
    else callG e F n ks ns (if ks.length > 1 then signR e [44] q else q)
  termination_by structural F _ _ _ _ => F
def callG (e : Nat) : Nat → Nat → List Ex → List (List UInt8) → Rd → Option (Ex × Rd)
  | 0, _, _, _, _ => none
  | F + 1, n, ks, ns, q => if nameR q then (exprR e F n (if ns.contains (lkT q) then failR e 6 q else q).next.next).bind fun y => callR e F n (ks ++ [y.1]) (ns ++ [lkT q]) y.2
    else (exprR e F n (if ns.length > 0 then failR e 1 q else q)).bind fun y => callR e F n (ks ++ [y.1]) ns y.2
  termination_by structural F _ _ _ _ => F
def atomR (e : Nat) : Nat → Nat → Rd → Option (Ex × Rd)
  | 0, _, _ => none
  | F + 1, n, q =>
    if lkK q = 1 then some (.mk 6 0 (lkT q) [] [], q.next)
    else if lkK q = 2 then some (.mk 4 ((q.r.head?.map Tok.num).getD 0) [] [] [], q.next)
    else if lkK q = 3 then some (.mk 5 0 (lkT q) [] [], q.next)
    else if isR [wNone, wTrue, wFalse] q then some (.mk (atomW (lkT q)) 0 [] [] [], q.next)
    else if isR [[40]] q then (exprR e F n q.next).bind fun x => some (x.1, signR e [41] x.2)
    else if isR [[91]] q then listR e F n 7 [] [] q.next
    else if isR [[123]] q then dictR e F n [] q.next
    else some (.zero, failR e 1 q)
  termination_by structural F _ _ => F
def listR (e : Nat) : Nat → Nat → Nat → List UInt8 → List Ex → Rd → Option (Ex × Rd)
  | 0, _, kd, tx, ks, q => if q.bad then some (.mk kd 0 tx ks [], q) else none
  | F + 1, n, kd, tx, ks, q => if q.bad then some (.mk kd 0 tx ks [], q)
    else if isR [[93]] q then some (.mk kd 0 tx ks [], signR e [93] q)
    else if ks.length = 1 ∧ isR [wFor] q = true then eachR e F n ks (kindR e 1 q.next).1 (signR e wIn (kindR e 1 q.next).2)
    else (exprR e F n (if ks.length > 0 then signR e [44] q else q)).bind fun y => listR e F n kd tx (ks ++ [y.1]) y.2
  termination_by structural F _ _ _ _ _ => F
def eachR (e : Nat) : Nat → Nat → List Ex → List UInt8 → Rd → Option (Ex × Rd)
  | 0, _, _, _, _ => none
  | F + 1, n, ks, t, q => (exprR e F n q).bind fun y => if isR [wIf] y.2 then (exprR e F n y.2.next).bind fun z => some (.mk 9 0 t (ks ++ [y.1] ++ [z.1]) [], signR e [93] z.2)
    else some (.mk 9 0 t (ks ++ [y.1]) [], signR e [93] y.2)
  termination_by structural F _ _ _ _ => F
def dictR (e : Nat) : Nat → Nat → List Ex → Rd → Option (Ex × Rd)
  | 0, _, ks, q => if q.bad then some (.mk 8 0 [] ks [], q) else none
  | F + 1, n, ks, q => if q.bad then some (.mk 8 0 [] ks [], q)
    else if isR [[125]] q then some (.mk 8 0 [] ks [], signR e [125] q)
    else (exprR e F n (if ks.length > 0 then signR e [44] q else q)).bind fun y => (exprR e F n (signR e [58] y.2)).bind fun z => dictR e F n (ks ++ [y.1] ++ [z.1]) z.2
  termination_by structural F _ _ _ => F
end
def paramR (e : Nat) : Nat → List (List UInt8) → Rd → Option (List (List UInt8) × Rd)
  | 0, ns, q => if q.bad then some (ns, q) else none
  | F + 1, ns, q => if q.bad then some (ns, q)
    else if ns.length = 0 ∧ lkK q ≠ 1 then some (ns, q)
    else let x := kindR e 1 (if lkK q = 1 ∧ ns.contains (lkT q) = true then failR e 6 q else q)
      if isR [[44]] x.2 then paramR e F (ns ++ [x.1]) x.2.next else some (ns ++ [x.1], x.2)
def namesR (e : Nat) : Nat → List (List UInt8) → Rd → Option (List (List UInt8) × Rd)
  | 0, ns, q => if q.bad then some (ns, q) else none
  | F + 1, ns, q => if q.bad then some (ns, q)
    else let x := kindR e 3 (if lkK q = 3 ∧ isNm (lkT q) = false then failR e 1 q else q)
      if isR [[44]] x.2 then namesR e F (ns ++ [x.1]) x.2.next else some (ns ++ [x.1], x.2)
def loadR (e F b : Nat) (q : Rd) : Option (St × Rd) :=
  let x := kindR e 3 (signR e [40] (signR e wLoad (if b > 0 then failR e 4 q else q)))
  (namesR e F [] (signR e [44] x.2)).bind fun y => some (.mk 4 x.1 y.1 .zero [] [], signR e [41] y.2)
def smallR (e F d : Nat) (b : Nat) (q : Rd) : Option (St × Rd) :=
  if wd q = wPass then some (.mk 1 [] [] .zero [] [], q.next)
  else if wd q = wReturn then
    let p := (if d = 0 then failR e 4 q else q).next
    if lkK p ≠ 6 then (exprR e F 0 p).bind fun x => some (.mk 2 [] [] x.1 [] [], x.2) else some (.mk 2 [] [] (.mk 1 0 [] [] []) [] [], p)
  else if wd q = wLoad then loadR e F b q
  else if nameR q then
    let x := kindR e 1 q
    (exprR e F 0 (signR e [61] x.2)).bind fun y => some (.mk 3 x.1 [] y.1 [] [], y.2)
  else (exprR e F 0 q).bind fun x => some (.mk 5 [] [] x.1 [] [], x.2)
mutual
def stmtsR (e : Nat) : Nat → Nat → Nat → List St → Rd → Option (List St × Rd)
  | 0, _, _, l, q => if lkK q = 0 ∨ lkK q = 8 then some (l, q) else none
  | F + 1, b, d, l, q => if lkK q = 0 ∨ lkK q = 8 then some (l, q) else (stmtR e F b d q).bind fun s => stmtsR e F b d (l ++ [s.1]) s.2
  termination_by structural F _ _ _ _ => F
def blockR (e : Nat) : Nat → Nat → Nat → Rd → Option (List St × Rd)
  | 0, _, _, q => if q.bad then some ([], q) else none
  | F + 1, b, d, q => (stmtsR e F (b + 1) d [] (kindR e 7 (kindR e 6 (signR e [58] q)).2).2).bind fun l => some (l.1, (kindR e 8 l.2).2)
  termination_by structural F _ _ _ => F
def defR (e : Nat) : Nat → Nat → Nat → Rd → Option (St × Rd)
  | 0, _, _, _ => none
  | F + 1, b, d, q =>
    let x := kindR e 1 (signR e wDef (if b > 0 then failR e 4 q else q))
    (paramR e F [] (signR e [40] x.2)).bind fun ns => (blockR e F b (d + 1) (signR e [41] ns.2)).bind fun l => some (.mk 6 x.1 ns.1 .zero l.1 [], l.2)
  termination_by structural F _ _ _ => F
def stmtR (e : Nat) : Nat → Nat → Nat → Rd → Option (St × Rd)
  | 0, _, _, _ => none
  | F + 1, b, d, q =>
    if wd q = wDef then defR e F b d q
    else if wd q = wIf then (exprR e F 0 q.next).bind fun x => (blockR e F b d x.2).bind fun l => if isR [wElse] l.2 then (blockR e F b d l.2.next).bind fun m => some (.mk 7 [] [] x.1 l.1 m.1, m.2) else some (.mk 7 [] [] x.1 l.1 [], l.2)
    else if wd q = wFor then
      let t := kindR e 1 q.next
      (exprR e F 0 (signR e wIn t.2)).bind fun x => (blockR e F b d x.2).bind fun l => some (.mk 8 t.1 [] x.1 l.1 [], l.2)
    else (smallR e F d b q).bind fun s => some (s.1, (kindR e 6 s.2).2)
  termination_by structural F _ _ _ => F
end
end Go.Proofs.YtmdegomejbpldaaGreatDoor
end
