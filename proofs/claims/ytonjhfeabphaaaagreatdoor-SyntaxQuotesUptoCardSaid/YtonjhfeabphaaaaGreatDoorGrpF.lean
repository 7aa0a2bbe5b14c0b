/-
  Texts of our own, in one file.
-/
import Derived.Test.YtonjhfeabphaaaaGreatDoorGrpE
section
set_option linter.unusedVariables false
set_option linter.unusedSimpArgs false
set_option maxRecDepth 20000
set_option maxHeartbeats 4000000
namespace Go.Proofs.YtonjhfeabphaaaaGreatDoor
open Go Go.Ab
def Rcl (F : Nat) : Prop := ∀ (v : Nat) (l : List Tok) (q : Rd) (e b d n : Nat) (x : Ex) (y : Ex × Rd), q.r <:+ l → l.length ≤ 100000 → n + F < 3000000 → callR e F n [x] [] q = some y →
 CallOk cx 129 [.ptr 0 v 0, exA x] [rdB v l q e b d n] (fun o s => o = .ret (exA y.1) ∧ s = [rdB v l y.2 e b d n])
theorem Rcl.tail {F : Nat} (h : Rcl F) (v : Nat) (l : List Tok) (q : Rd) (e b d n : Nat) (x y : Ex) (q' : Rd) (τ : Heap) (hr : q.r <:+ l) (hl : l.length ≤ 100000) (hn : n + F < 3000000) (hx : callR e F n [x] [] q = some (y, q')) :
  CallOk cx 129 [.ptr 0 v 0, exA x] (rdB v l q e b d n :: τ) (fun o s => o = .ret (exA y) ∧ s = rdB v l q' e b d n :: τ) :=
 rT (h v l q e b d n x (y, q') hr hl hn hx) (exA_free _) (by intro y hy; simp at hy; subst hy; exact exA_free x) τ
theorem postR_go {e F n : Nat} {x : Ex} {q : Rd} {y : Ex × Rd} (h : ¬ q.bad = true) (hx : postR e F n x q = some y) : ∃ G, F = G + 1 ∧ (if isR [[91]] q then (exprR e G n q.next).bind fun y => postR e G n (.mk 11 0 [] [x, y.1] []) (signR e [93] y.2)
  else if isR [[40]] q then (callR e G n [x] [] q.next).bind fun y => postR e G n y.1 y.2 else some (x, q)) = some y := by
 cases F with
 | zero => unfold postR at hx; rw [if_neg h] at hx; cases hx
 | succ G => rw [postR, if_neg h] at hx; exact ⟨G, rfl, hx⟩
theorem rpost_ok (F : Nat) (ha : Rx 128 atomR F) (he : ∀ F', F' ≤ F → Rx 64 exprR F') (hc : ∀ F', F' ≤ F → Rcl F') : Rx 119 postA (F + 1) := fun v l q e b d n y hr hl hn hx =>
 callOk_introT (fun a w => Tryz.call119 a w) Tryz.func119 rfl Tryz.ntmps119 rfl fun B => by
  rw [postA] at hx
  cases hx1 : atomR e F n q with
  | none => rw [hx1] at hx; cases hx
  | some y1 =>
  rw [hx1] at hx
  have hr1 := (allR e l F).atom _ _ hr _ hx1
  obtain ⟨⟨xk, xn, xt, xs, xm⟩, q1⟩ := y1
  have h2 := ha.tail v l q e b d n _ q1 [exO] hr hl (by omega) hx1
  refine pa [.f (exA (.mk xk xn xt xs xm)) (fun σ => rdB v l q1 e b d n :: σ.tail)] rfl ?_ ?_
  ·(repeat' with_reducible apply AllP_cons) <;> first | exact aC | skip
  refine S_while (α := LvSt) (fun p => [(0, .ptr 0 v 0), (2, .ptr 1 0 0), (3, .ptr 2 0 0)]) (fun p => [rdB v l p.q e b d n, exO, exB p.x])
   (fun p => p.F ≤ F ∧ p.q.r <:+ l ∧ postR e p.F n p.x p.q = some y) (fun p => p.F) ⟨F, .mk xk xn xt xs xm, q1⟩ ⟨Nat.le_refl _, hr1, hx⟩ (.cons rfl (.cons rfl (.cons rfl (.nil _)))) rfl ?_
  clear hx hx1 h2 hr1 hr
  rintro ⟨F1, ⟨xk, xn, xt, xs, xm⟩, q⟩ ⟨hF, hr, hx⟩
  have hF : F1 ≤ F := hF
  have hr : q.r <:+ l := hr
  have hx : postR e F1 n (.mk xk xn xt xs xm) q = some y := hx
  show S cx _ B _ _ [(0, .ptr 0 v 0), (2, .ptr 1 0 0), (3, .ptr 2 0 0)] [rdB v l q e b d n, exO, exB (.mk xk xn xt xs xm)]
  have hb := rbadT v l q e b d n [exO, exB (.mk xk xn xt xs xm)]
  by_cases hbad : q.bad = true
  ·rw [hbad] at hb
   rw [postR_bad hbad] at hx
   cases hx
   refine pa [.k (.bool true), .b false] rfl ?_ ?_
   ·(repeat' with_reducible apply AllP_cons) <;> first | exact aC | skip
   refine S_ret ⟨_, _, rfl, ⟨rfl, trivial⟩, ?_⟩
   exact rfin (.low (Low.free (exA_free (st := true) (.mk xk xn xt xs xm))))
  obtain ⟨G, rfl, hx'⟩ := postR_go hbad hx
  clear hx
  have hx := hx'
  clear hx'
  rw [(Bool.not_eq_true _).mp hbad] at hb
  have hi := risT v l q e b d n [[91]] true true [exO, exB (.mk xk xn xt xs xm)] (by decide) hr hl
  by_cases c : isR [[91]] q = true
  ·rw [if_pos c] at hx
   rw [c] at hi
   have hwr := rd_next (isR_ne c) hr hl
   cases hx1 : exprR e G n q.next with
   | none => rw [hx1] at hx; cases hx
   | some y1 =>
   rw [hx1] at hx
   have hr1 := (allR e l G).expr _ _ (next_s hr) _ hx1
   obtain ⟨⟨yk, yn, yt, ys, ym⟩, q1⟩ := y1
   have hx : postR e G n (.mk 11 0 [] [.mk xk xn xt xs xm, .mk yk yn yt ys ym] []) (signR e [93] q1) = some y := hx
   have h2 := (he G (by omega)).tail v l q.next e b d n _ q1 [exO, exB (.mk xk xn xt xs xm)] (next_s hr) hl (by omega) hx1
   have h3 := rsignT v l q1 e b d n [93] [exO, exB (.mk 11 0 [] [.mk xk xn xt xs xm, .mk yk yn yt ys ym] [])] hr1 hl
   refine pa [.k (.bool false), .b true, .k (.bool true), .b true] rfl ?_ ?_
   ·(repeat' with_reducible apply AllP_cons) <;> first | exact aC | skip
   refine S_heap (rdB v l q.next e b d n :: [exO, exB (.mk xk xn xt xs xm)]) ?_ ?_
   ·show rdI v l (IntKind.i64.wrap (((l.length - q.r.length : Nat) : Int) + 1)) q.f e b d n :: _ = _
    rw [hwr]; rfl
   refine pa [.d 2 5 [] (fun σ => rdB v l q1 e b d n :: σ.tail) [exA (.mk yk yn yt ys ym)], .s] rfl ?_ ?_
   ·(repeat' with_reducible apply AllP_cons) <;> first | exact aC | skip
    exact ⟨_, h2, rfl⟩
   refine S_wkF 25 (exC (.mk 11 0 [] [.mk xk xn xt xs xm, .mk yk yn yt ys ym] [])) rfl (.cons .refl (.cons .refl (.cons .refl (.cons (.sl (fun _ => rfl) nofun) (.cons .nils .nil))))) ⟨.skip, _, .inr ⟨_, _, _, rfl⟩⟩ ?_
   refine pa [.f (.tup []) (fun σ => rdB v l (signR e [93] q1) e b d n :: σ.tail)] rfl ?_ ?_
   ·(repeat' with_reducible apply AllP_cons) <;> first | exact aC | skip
   exact S_round ⟨G, .mk 11 0 [] [.mk xk xn xt xs xm, .mk yk yn yt ys ym] [], signR e [93] q1⟩ (Nat.lt_succ_self _) ⟨by show G ≤ F; omega, sign_s hr1, hx⟩ (.cons rfl (.cons rfl (.cons rfl (.nil _)))) rfl
  rw [if_neg c] at hx
  rw [(Bool.not_eq_true _).mp c] at hi
  have hi2 := risT v l q e b d n [[40]] true true [exO, exB (.mk xk xn xt xs xm)] (by decide) hr hl
  by_cases c2 : isR [[40]] q = true
  ·rw [if_pos c2] at hx
   rw [c2] at hi2
   have hwr := rd_next (isR_ne c2) hr hl
   cases hx1 : callR e G n [.mk xk xn xt xs xm] [] q.next with
   | none => rw [hx1] at hx; cases hx
   | some y1 =>
   rw [hx1] at hx
   have hr1 := (allR e l G).call _ _ _ _ (next_s hr) _ hx1
   obtain ⟨⟨yk, yn, yt, ys, ym⟩, q1⟩ := y1
   have hx : postR e G n (.mk yk yn yt ys ym) q1 = some y := hx
   have h2 := (hc G (by omega)).tail v l q.next e b d n (.mk xk xn xt xs xm) _ q1 [exO, exB (.mk xk xn xt xs xm)] (next_s hr) hl (by omega) hx1
   refine pa [.k (.bool false), .b true, .k (.bool false), .b false, .k (.bool true), .b true] rfl ?_ ?_
   ·(repeat' with_reducible apply AllP_cons) <;> first | exact aC | skip
   refine S_heap (rdB v l q.next e b d n :: [exO, exB (.mk xk xn xt xs xm)]) ?_ ?_
   ·show rdI v l (IntKind.i64.wrap (((l.length - q.r.length : Nat) : Int) + 1)) q.f e b d n :: _ = _
    rw [hwr]; rfl
   refine pa [.f (exA (.mk yk yn yt ys ym)) (fun σ => rdB v l q1 e b d n :: σ.tail)] rfl ?_ ?_
   ·(repeat' with_reducible apply AllP_cons) <;> first | exact aC | skip
   exact S_round ⟨G, .mk yk yn yt ys ym, q1⟩ (Nat.lt_succ_self _) ⟨by show G ≤ F; omega, hr1, hx⟩ (.cons rfl (.cons rfl (.cons rfl (.nil _)))) rfl
  rw [if_neg c2] at hx
  rw [(Bool.not_eq_true _).mp c2] at hi2
  cases hx
  refine pa [.k (.bool false), .b true, .k (.bool false), .b false, .k (.bool false), .b false] rfl ?_ ?_
  ·(repeat' with_reducible apply AllP_cons) <;> first | exact aC | skip
  refine S_ret ⟨_, _, rfl, ⟨rfl, trivial⟩, ?_⟩
  exact rfin (.low (Low.free (exA_free (st := true) (.mk xk xn xt xs xm))))
theorem callR_go {e F n : Nat} {ks : List Ex} {ns : List (List UInt8)} {q : Rd} {y : Ex × Rd} (h : ¬ q.bad = true) (hx : callR e F n ks ns q = some y) : ∃ G, F = G + 1 ∧ (if isR [[41]] q then some (.mk 10 0 [] ks ns, q.next) else callG e G n ks ns (if ks.length > 1 then signR e [44] q else q)) = some y := by
 cases F with
 | zero => unfold callR at hx; rw [if_neg h] at hx; cases hx
 | succ G => rw [callR, if_neg h] at hx; exact ⟨G, rfl, hx⟩
structure RcSt where
 F : Nat
 ks : List Ex
 ns : List (List UInt8)
 q : Rd
 w : Nat
 u : Nat
theorem rcall_ok (F : Nat) (he : ∀ F', F' ≤ F → Rx 64 exprR F') (v : Nat) (l : List Tok) (q : Rd) (e b d n : Nat) (x : Ex) (y : Ex × Rd) (hr : q.r <:+ l) (hl : l.length ≤ 100000) (hn : n + F < 3000000) (hx : callR e (F + 1) n [x] [] q = some y) :
  CallOk cx 129 [.ptr 0 v 0, exA x] [rdB v l q e b d n] (fun o s => o = .ret (exA y.1) ∧ s = [rdB v l y.2 e b d n]) :=
 callOk_introT (fun a w => Tryz.call129 a w) Tryz.func129 rfl Tryz.ntmps129 rfl fun B => by
  obtain ⟨xk, xn, xt, xs, xm⟩ := x
  refine go (M := [11]) 9 rfl ⟨rfl, trivial⟩ ?_
  refine S_unfull (t := 11) rfl ⟨.skip, _, .inr ⟨_, _, _, rfl⟩⟩ ?_
  refine pa [] rfl ?_ ?_
  ·(repeat' with_reducible apply AllP_cons) <;> first | exact aC | skip
  refine S_ghost (id := 1) (j := 4) 1 ⟨false, none⟩ rfl rfl rfl (Nat.ne_of_lt (lble rfl)) ⟨_, _, .inl rfl⟩ ?_
  refine S_while (α := RcSt) (fun p => [(0, .ptr 0 v 0), (3, .ptr 1 0 0), (4, .ptr 2 0 0), (5, .int .i64 ((p.ks.length - 1 : Nat) : Int))]) (fun p => [rdB v l p.q e b d n, callX p.w p.ks p.u p.ns, exO, kidB p.w p.ks, namB p.u p.ns])
   (fun p => p.F ≤ F + 1 ∧ p.q.r <:+ l ∧ callR e p.F n p.ks p.ns p.q = some y ∧ p.ks.length + p.F ≤ F + 2 ∧ p.ns.length + p.F ≤ F + 2 ∧ 1 ≤ p.ks.length) (fun p => p.F) ⟨F + 1, [.mk xk xn xt xs xm], [], q, 0, 0⟩
   ⟨Nat.le_refl _, hr, hx, by show 1 + (F + 1) ≤ F + 2; omega, by show 0 + (F + 1) ≤ F + 2; omega, Nat.le_refl _⟩ (.cons rfl (.cons rfl (.cons rfl (.cons rfl (.nil _))))) rfl ?_
  clear hx hr
  rintro ⟨F1, ks, ns, q, w, u⟩ ⟨hF1, hr, hx, hks, hns, hk1⟩
  have hF1 : F1 ≤ F + 1 := hF1
  have hr : q.r <:+ l := hr
  have hx : callR e F1 n ks ns q = some y := hx
  have hks : ks.length + F1 ≤ F + 2 := hks
  have hns : ns.length + F1 ≤ F + 2 := hns
  have hk1 : 1 ≤ ks.length := hk1
  show S cx _ B _ _ [(0, .ptr 0 v 0), (3, .ptr 1 0 0), (4, .ptr 2 0 0), (5, .int .i64 ((ks.length - 1 : Nat) : Int))] [rdB v l q e b d n, callX w ks u ns, exO, kidB w ks, namB u ns]
  have hb := rbadT v l q e b d n [callX w ks u ns, exO, kidB w ks, namB u ns]
  by_cases hbad : q.bad = true
  ·rw [hbad] at hb
   rw [callR_bad hbad] at hx
   cases hx
   refine pa [.k (.bool true), .b false] rfl ?_ ?_
   ·(repeat' with_reducible apply AllP_cons) <;> first | exact aC | skip
   refine S_ret ⟨_, _, rfl, ⟨rfl, trivial⟩, ?_⟩
   exact rfin (exFz (kidFz (by decide) rfl) (namFz (by decide) rfl))
  obtain ⟨G, rfl, hx'⟩ := callR_go hbad hx
  clear hx
  have hx := hx'
  clear hx'
  rw [(Bool.not_eq_true _).mp hbad] at hb
  have hi := risT v l q e b d n [[41]] true true [callX w ks u ns, exO, kidB w ks, namB u ns] (by decide) hr hl
  by_cases c : isR [[41]] q = true
  ·rw [if_pos c] at hx
   rw [c] at hi
   cases hx
   have hwr := rd_next (isR_ne c) hr hl
   refine pa [.k (.bool false), .b true, .k (.bool true), .b true] rfl ?_ ?_
   ·(repeat' with_reducible apply AllP_cons) <;> first | exact aC | skip
   refine S_ret ⟨_, _, rfl, ⟨rfl, trivial⟩, ?_⟩
   show TR 1 _ (.ret _) (rdI v l (IntKind.i64.wrap (((l.length - q.r.length : Nat) : Int) + 1)) q.f e b d n :: _)
   rw [hwr]
   exact rfin (q := q.next) (exFz (kidFz (by decide) rfl) (namFz (by decide) rfl))
  rw [if_neg c] at hx
  rw [(Bool.not_eq_true _).mp c] at hi
  obtain ⟨q2, hq2⟩ : ∃ q2, q2 = if ks.length > 1 then signR e [44] q else q := ⟨_, rfl⟩
  rw [← hq2] at hx
  have hr2 : q2.r <:+ l := by rw [hq2]; exact ite_s (sign_s hr) hr
  refine' S_shareU [(0, .ptr 0 v 0), (3, .ptr 1 0 0), (4, .ptr 2 0 0), (5, .int .i64 ((ks.length - 1 : Nat) : Int)), (34, .ptr 0 v 0)] (fun _ : Unit => [rdB v l q2 e b d n, callX w ks u ns, exO, kidB w ks, namB u ns]) (fun _ => True) (fun cont => ?main) ?rest
  case main =>
   by_cases h : ks.length > 1
   ·rw [if_pos h] at hq2
    have hM := rsignT v l q e b d n [44] [callX w ks u ns, exO, kidB w ks, namB u ns] hr hl
    rw [← hq2] at hM
    refine pa [.k (.bool false), .b true, .k (.bool false), .b false, .b true, .f (.tup []) (fun σ => rdB v l q2 e b d n :: σ.tail)] rfl ?_ ?_
    ·(repeat' with_reducible apply AllP_cons) <;> first | exact aC | skip
    exact cont () _ trivial (.cons rfl (.cons rfl (.cons rfl (.cons rfl (.cons rfl (.nil _))))))
   ·rw [if_neg h] at hq2
    subst hq2
    refine pa [.k (.bool false), .b true, .k (.bool false), .b false, .b false] rfl ?_ ?_
    ·(repeat' with_reducible apply AllP_cons) <;> first | exact aC | skip
    exact cont () _ trivial (.cons rfl (.cons rfl (.cons rfl (.cons rfl (.cons rfl (.nil _))))))
  case rest =>
  rintro _ _
  show S cx _ B _ _ [(0, .ptr 0 v 0), (3, .ptr 1 0 0), (4, .ptr 2 0 0), (5, .int .i64 ((ks.length - 1 : Nat) : Int)), (34, .ptr 0 v 0)] [rdB v l q2 e b d n, callX w ks u ns, exO, kidB w ks, namB u ns]
  clear hq2 hb hi hr c hbad
  cases G with
  | zero => cases hx
  | succ G =>
  rw [callG] at hx
  have hlk := rlookT v l q2 e b d n [callX w ks u ns, exO, kidB w ks, namB u ns] hr2 hl
  have hlk1 := rlook1T v l q2 e b d n [callX w ks u ns, exO, kidB w ks, namB u ns] hr2 hl
  obtain ⟨t, ht⟩ : ∃ t, t = lkT q2 := ⟨_, rfl⟩
  obtain ⟨k0, hk0⟩ : ∃ k, k = lkK q2 := ⟨_, rfl⟩
  obtain ⟨k2, hk2⟩ : ∃ k, k = lkK1 q2 := ⟨_, rfl⟩
  obtain ⟨t2, ht2⟩ : ∃ t, t = lkT1 q2 := ⟨_, rfl⟩
  have hnm : nameR q2 = (k0 == 1 && k2 == 4 && t2 == [61]) := by unfold nameR; rw [hk0, hk2, ht2]
  rw [hnm, ← ht] at hx
  rw [← ht, ← hk0] at hlk
  rw [← ht2, ← hk2] at hlk1
  clear hnm
  have hHT := HasText_ok (st := false) (fl := false) ns t (by omega)
  have hFz : Frzs [rdB v l q2 e b d n, callX w ks u ns, exO, kidB w ks, namB u ns] [.ms 4 u 0 ns.length 1 false, .str t] [.sl false false 1 (texts ns), .str t] := .cons (.ms1 rfl (fun x hx => by obtain ⟨y, _, rfl⟩ := List.mem_map.1 hx; rfl) (texts_len ns) (textsF ns)) (.cons (.refl .str) (.nil _))
  refine' S_shareG (ι := RcSt) [(0, .ptr 0 v 0), (3, .ptr 1 0 0), (4, .ptr 2 0 0), (5, .int .i64 ((ks.length - 1 : Nat) : Int))] (fun p => [rdB v l p.q e b d n, callX w ks p.u p.ns, exO, kidB w ks, namB p.u p.ns])
   (fun p => p.q.r <:+ l ∧ p.ns.length + G ≤ F + 2 ∧ (exprR e G n p.q).bind (fun y => callR e G n (ks ++ [y.1]) p.ns y.2) = some y) (fun cont => ?main) ?rest
  case main =>
   by_cases c2 : (k0 == 1 && k2 == 4 && t2 == [61]) = true
   ·rw [if_pos c2] at hx
    have hc2 := c2
    simp only [Bool.and_eq_true, beq_iff_eq] at hc2
    obtain ⟨⟨z1, z4⟩, e5⟩ := hc2
    have hne3 : q2.next.r ≠ [] := by
     intro h'
     rw [z4] at hk2
     unfold lkK1 at hk2
     have h' : q2.r.tail = [] := h'
     rw [h'] at hk2
     revert hk2
     split <;> simp [hdK]
    rw [z1] at hlk
    rw [z4, e5] at hlk1
    have hbx : 0 + ns.length * 1 = (texts ns).length := by rw [texts_len]; omega
    obtain ⟨q3, hq3⟩ : ∃ q3, q3 = if ns.contains t then failR e 6 q2 else q2 := ⟨_, rfl⟩
    rw [← hq3] at hx
    have hr3 : q3.r <:+ l := by rw [hq3]; exact ite_s (fail_s hr2) hr2
    have hq3r : q3.r = q2.r := by rw [hq3]; split; exact fail_r; rfl
    have hw2 : IntKind.i64.wrap (((l.length - q3.r.length : Nat) : Int) + 2) = ((l.length - q3.next.next.r.length : Nat) : Int) := by
     have h1 := hr3.length_le
     have e1 : q3.next.next.r = q3.r.tail.tail := rfl
     rw [e1, hq3r] at *
     have h2 : q2.next.r.length ≠ 0 := fun h => hne3 (List.eq_nil_of_length_eq_zero h)
     have h2 : q2.r.tail.length ≠ 0 := h2
     rw [List.length_tail, List.length_tail] at *
     rw [IntWalk.i64_in _ ⟨by omega, by omega⟩]; omega
    refine' S_shareU [(0, .ptr 0 v 0), (3, .ptr 1 0 0), (4, .ptr 2 0 0), (5, .int .i64 ((ks.length - 1 : Nat) : Int)), (7, .str t)] (fun _ : Unit => [rdB v l q3 e b d n, callX w ks u ns, exO, kidB w ks, namB u ns]) (fun _ => True) (fun cont3 => ?main3) ?rest3
    case main3 =>
     by_cases c3 : ns.contains t = true
     ·rw [c3] at hHT
      rw [if_pos c3] at hq3
      have hf := rfailT v l q2 e b d n 6 [callX w ks u ns, exO, kidB w ks, namB u ns] hr2 hl
      rw [← hq3] at hf
      refine pa [.k (lookA 1 t), .k (lookA 4 [61]), .b true, .b true, .b true, .v (.bool true), .b true, .f (.tup []) (fun σ => rdB v l q3 e b d n :: σ.tail), .s] rfl ?_ ?_
      ·(repeat' with_reducible apply AllP_cons) <;> first | exact aC | skip
       exact ⟨_, hHT, hFz⟩
      exact cont3 () _ trivial (.cons rfl (.cons rfl (.cons rfl (.cons rfl (.cons rfl (.nil _))))))
     ·rw [(Bool.not_eq_true _).mp c3] at hHT
      rw [if_neg c3] at hq3
      subst hq3
      refine pa [.k (lookA 1 t), .k (lookA 4 [61]), .b true, .b true, .b true, .v (.bool false), .b false, .s] rfl ?_ ?_
      ·(repeat' with_reducible apply AllP_cons) <;> first | exact aC | skip
       exact ⟨_, hHT, hFz⟩
      exact cont3 () _ trivial (.cons rfl (.cons rfl (.cons rfl (.cons rfl (.cons rfl (.nil _))))))
    case rest3 =>
     rintro _ _
     refine pa [] rfl ?_ ?_
     ·(repeat' with_reducible apply AllP_cons) <;> first | exact aC | skip
      show (ns.length + 1) * 16 ≤ 140737488355328
      omega
     refine S_heap [rdB v l q3.next.next e b d n, callX w ks (u + 1) (ns ++ [t]), exO, kidB w ks, namB (u + 1) (ns ++ [t])] ?_ ?_
     ·show [rdI v l (IntKind.i64.wrap (((l.length - q3.r.length : Nat) : Int) + 2)) q3.f e b d n, (0, some (.cells [.int .i64 10, .int .i64 0, .str [], .ms 3 w 0 ks.length 5 false, .ms 4 (u + 1) 0 (ns.length + 1) 1 false] ⟨false, some 54⟩)), exO, kidB w ks, (u + 1, some (.cells (texts ns ++ [.str t]) ⟨false, none⟩))] = _
      rw [hw2]
      unfold callX namB
      rw [List.length_append, nam_snoc]; rfl
     exact cont ⟨0, [], ns ++ [t], q3.next.next, 0, u + 1⟩ _ ⟨next_s (next_s hr3), by show (ns ++ [_]).length + G ≤ F + 2; rw [List.length_append, List.length_singleton]; omega, hx⟩ (.cons rfl (.cons rfl (.cons rfl (.cons rfl (.nil _)))))
   rw [if_neg c2] at hx
   refine' S_shareR [(0, .ptr 0 v 0), (3, .ptr 1 0 0), (4, .ptr 2 0 0), (5, .int .i64 ((ks.length - 1 : Nat) : Int))] [rdB v l q2 e b d n, callX w ks u ns, exO, kidB w ks, namB u ns] (fun cont3 => ?main3) ?rest3
   case main3 =>
    by_cases z1 : k0 = 1
    ·rw [z1] at hlk
     by_cases z4 : k2 = 4
     ·rw [z4] at hlk1
      have e5 : (t2 == [61]) = false := by
       cases hh : (t2 == [61]) with
       | false => rfl
       | true => exact absurd (by rw [z1, z4, hh]; rfl) c2
      refine pa [.k (lookA 1 t), .k (lookA 4 t2), .b true, .b true, .b false, .s] rfl ?_ ?_
      ·(repeat' with_reducible apply AllP_cons) <;> first | exact aC | skip
      exact cont3 _ (.cons rfl (.cons rfl (.cons rfl (.cons rfl (.nil _)))))
     ·have e4 : (((k2 : Nat) : Int) == 4) = false := beq_false_of_ne (by omega)
      refine pa [.k (lookA 1 t), .k (lookA k2 t2), .b true, .b false, .b false, .s] rfl ?_ ?_
      ·(repeat' with_reducible apply AllP_cons) <;> first | exact aC | skip
      exact cont3 _ (.cons rfl (.cons rfl (.cons rfl (.cons rfl (.nil _)))))
    ·have e4 : (((k0 : Nat) : Int) == 1) = false := beq_false_of_ne (by omega)
     refine pa [.k (lookA k0 t), .k (lookA k2 t2), .b false, .b false, .b false, .s] rfl ?_ ?_
     ·(repeat' with_reducible apply AllP_cons) <;> first | exact aC | skip
     exact cont3 _ (.cons rfl (.cons rfl (.cons rfl (.cons rfl (.nil _)))))
   case rest3 =>
    by_cases h0 : ns.length > 0
    ·rw [if_pos h0] at hx
     have hf := rfailT v l q2 e b d n 1 [callX w ks u ns, exO, kidB w ks, namB u ns] hr2 hl
     refine pa [.b true, .f (.tup []) (fun σ => rdB v l (failR e 1 q2) e b d n :: σ.tail)] rfl ?_ ?_
     ·(repeat' with_reducible apply AllP_cons) <;> first | exact aC | skip
     exact cont ⟨0, [], ns, failR e 1 q2, 0, u⟩ _ ⟨fail_s hr2, by show ns.length + G ≤ F + 2; omega, hx⟩ (.cons rfl (.cons rfl (.cons rfl (.cons rfl (.nil _)))))
    ·rw [if_neg h0] at hx
     refine pa [.b false] rfl ?_ ?_
     ·(repeat' with_reducible apply AllP_cons) <;> first | exact aC | skip
     exact cont ⟨0, [], ns, q2, 0, u⟩ _ ⟨hr2, by show ns.length + G ≤ F + 2; omega, hx⟩ (.cons rfl (.cons rfl (.cons rfl (.cons rfl (.nil _)))))
  case rest =>
   rintro ⟨_, _, ns2, q4, _, u2⟩ ⟨hr4, hns2, hx⟩
   have hr4 : q4.r <:+ l := hr4
   have hns2 : ns2.length + G ≤ F + 2 := hns2
   have hx : (exprR e G n q4).bind (fun y => callR e G n (ks ++ [y.1]) ns2 y.2) = some y := hx
   show S cx _ B _ _ [(0, .ptr 0 v 0), (3, .ptr 1 0 0), (4, .ptr 2 0 0), (5, .int .i64 ((ks.length - 1 : Nat) : Int))] [rdB v l q4 e b d n, callX w ks u2 ns2, exO, kidB w ks, namB u2 ns2]
   cases hx1 : exprR e G n q4 with
   | none => rw [hx1] at hx; cases hx
   | some y1 =>
   rw [hx1] at hx
   have hr5 := (allR e l G).expr _ _ hr4 _ hx1
   obtain ⟨⟨yk, yn, yt, ys, ym⟩, q5⟩ := y1
   have hx : callR e G n (ks ++ [.mk yk yn yt ys ym]) ns2 q5 = some y := hx
   have h2 := (he G (by omega)).tail v l q4 e b d n _ q5 [callX w ks u2 ns2, exO, kidB w ks, namB u2 ns2] hr4 hl (by omega) hx1
   have hbx : 0 + ks.length * 5 = (exF ks).length := by rw [exF_len]; omega
   have hwk : IntKind.i64.wrap (((ks.length - 1 : Nat) : Int) + 1) = (((ks ++ [Ex.mk yk yn yt ys ym]).length - 1 : Nat) : Int) := by
    rw [List.length_append, List.length_singleton, IntWalk.i64_in _ ⟨by omega, by omega⟩]; omega
   refine pa [.d 3 5 [] (fun σ => rdB v l q5 e b d n :: σ.tail) [exA (.mk yk yn yt ys ym)]] rfl ?_ ?_
   ·(repeat' with_reducible apply AllP_cons) <;> first | exact aC | skip
    ·exact ⟨_, h2, rfl⟩
    ·show (ks.length + 1) * 80 ≤ 140737488355328
     omega
   refine S_round ⟨G, ks ++ [.mk yk yn yt ys ym], ns2, q5, w + 1, u2⟩ (by show G < G + 1 + 1; omega) ⟨by show G ≤ F + 1; omega, hr5, hx, by show (ks ++ [_]).length + G ≤ F + 2; rw [List.length_append, List.length_singleton]; omega, hns2, by show 1 ≤ (ks ++ [_]).length; simp⟩ (.cons rfl (.cons rfl (.cons rfl (.cons (by show AV.int .i64 (IntKind.i64.wrap (((ks.length - 1 : Nat) : Int) + 1)) = _; rw [hwk]) (.nil _))))) ?_
   show _ = [rdB v l q5 e b d n, callX (w + 1) (ks ++ [.mk yk yn yt ys ym]) u2 ns2, exO, kidB (w + 1) (ks ++ [.mk yk yn yt ys ym]), namB u2 ns2]
   unfold callX kidB
   rw [exF_snoc, List.length_append]; rfl
end Go.Proofs.YtonjhfeabphaaaaGreatDoor
end
section
set_option linter.unusedVariables false
set_option linter.unusedSimpArgs false
set_option maxRecDepth 20000
set_option maxHeartbeats 4000000
namespace Go.Proofs.YtonjhfeabphaaaaGreatDoor
open Go Go.Ab
def Rli (F : Nat) : Prop := ∀ (v : Nat) (l : List Tok) (q : Rd) (e b d n : Nat) (y : Ex × Rd), q.r <:+ l → l.length ≤ 100000 → n + F < 3000000 → listR e F n 7 [] [] q = some y →
 CallOk cx 136 [.ptr 0 v 0] [rdB v l q e b d n] (fun o s => o = .ret (exA y.1) ∧ s = [rdB v l y.2 e b d n])
theorem Rli.tail {F : Nat} (h : Rli F) (v : Nat) (l : List Tok) (q : Rd) (e b d n : Nat) (y : Ex) (q' : Rd) (τ : Heap) (hr : q.r <:+ l) (hl : l.length ≤ 100000) (hn : n + F < 3000000) (hx : listR e F n 7 [] [] q = some (y, q')) :
  CallOk cx 136 [.ptr 0 v 0] (rdB v l q e b d n :: τ) (fun o s => o = .ret (exA y) ∧ s = rdB v l q' e b d n :: τ) :=
 rT (h v l q e b d n (y, q') hr hl hn hx) (exA_free _) (by simp) τ
theorem listR_go {e F n kd : Nat} {tx : List UInt8} {ks : List Ex} {q : Rd} {y : Ex × Rd} (h : ¬ q.bad = true) (hx : listR e F n kd tx ks q = some y) : ∃ G, F = G + 1 ∧ (if isR [[93]] q then some (.mk kd 0 tx ks [], signR e [93] q)
  else if ks.length = 1 ∧ isR [wFor] q = true then eachR e G n ks (kindR e 1 q.next).1 (signR e wIn (kindR e 1 q.next).2)
  else (exprR e G n (if ks.length > 0 then signR e [44] q else q)).bind fun y => listR e G n kd tx (ks ++ [y.1]) y.2) = some y := by
 cases F with
 | zero => unfold listR at hx; rw [if_neg h] at hx; cases hx
 | succ G => rw [listR, if_neg h] at hx; exact ⟨G, rfl, hx⟩
structure RlSt where
 F : Nat
 ks : List Ex
 q : Rd
 w : Nat
structure RlEnd where
 kd : Nat
 tx : List UInt8
 ks : List Ex
 q : Rd
 w : Nat
theorem rlist_ok (F : Nat) (he : ∀ F', F' ≤ F → Rx 64 exprR F') (v : Nat) (l : List Tok) (q : Rd) (e b d n : Nat) (y : Ex × Rd) (hr : q.r <:+ l) (hl : l.length ≤ 100000) (hn : n + F < 3000000) (hx : listR e (F + 1) n 7 [] [] q = some y) :
  CallOk cx 136 [.ptr 0 v 0] [rdB v l q e b d n] (fun o s => o = .ret (exA y.1) ∧ s = [rdB v l y.2 e b d n]) :=
 callOk_introT (fun a w => Tryz.call136 a w) Tryz.func136 rfl Tryz.ntmps136 rfl fun B => by
  have hx : listR e (F + 1) n 7 [] [] q = some y := hx
  refine' S_shareU (ι := RlEnd) [(0, .ptr 0 v 0), (2, .ptr 1 0 0), (3, .ptr 2 0 0), (69, .ptr 0 v 0)] (fun p => [rdB v l p.q e b d n, exO, kidX p.kd p.tx p.w p.ks, kidB p.w p.ks])
   (fun p => p.q.r <:+ l ∧ y = (.mk p.kd 0 p.tx p.ks [], signR e [93] p.q)) (fun cont => ?main) ?rest
  case main =>
   refine pa [] rfl ?_ ?_
   ·(repeat' with_reducible apply AllP_cons) <;> first | exact aC | skip
   refine S_ghost (id := 2) (j := 3) 5 ⟨false, none⟩ rfl rfl rfl (Nat.ne_of_lt (lble rfl)) ⟨_, _, .inl rfl⟩ ?_
   refine S_while (α := RlSt) (fun p => [(0, .ptr 0 v 0), (2, .ptr 1 0 0), (3, .ptr 2 0 0), (4, .int .i64 (p.ks.length : Nat))]) (fun p => [rdB v l p.q e b d n, exO, kidX 7 [] p.w p.ks, kidB p.w p.ks])
    (fun p => p.F ≤ F + 1 ∧ p.q.r <:+ l ∧ listR e p.F n 7 [] p.ks p.q = some y ∧ p.ks.length + p.F ≤ F + 1) (fun p => p.F) ⟨F + 1, [], q, 0⟩ ⟨Nat.le_refl _, hr, hx, by show 0 + (F + 1) ≤ F + 1; omega⟩ (.cons rfl (.cons rfl (.cons rfl (.cons rfl (.nil _))))) rfl ?_
   rintro ⟨F1, ks, q, w⟩ ⟨hF1, hr, hx, hks⟩
   have hF1 : F1 ≤ F + 1 := hF1
   have hr : q.r <:+ l := hr
   have hx : listR e F1 n 7 [] ks q = some y := hx
   have hks : ks.length + F1 ≤ F + 1 := hks
   show S cx _ B _ _ [(0, .ptr 0 v 0), (2, .ptr 1 0 0), (3, .ptr 2 0 0), (4, .int .i64 (ks.length : Nat))] [rdB v l q e b d n, exO, kidX 7 [] w ks, kidB w ks]
   have hb := rbadT v l q e b d n [exO, kidX 7 [] w ks, kidB w ks]
   by_cases hbad : q.bad = true
   ·rw [hbad] at hb
    rw [listR_bad hbad] at hx
    refine pa [.k (.bool true), .b false] rfl ?_ ?_
    ·(repeat' with_reducible apply AllP_cons) <;> first | exact aC | skip
    exact cont ⟨7, [], ks, q, w⟩ _ ⟨hr, by rw [signR_bad hbad]; exact (Option.some.inj hx).symm⟩ (.cons rfl (.cons rfl (.cons rfl (.cons rfl (.nil _)))))
   obtain ⟨G, rfl, hx'⟩ := listR_go hbad hx
   clear hx
   have hx := hx'
   clear hx'
   rw [(Bool.not_eq_true _).mp hbad] at hb
   have hi := risT v l q e b d n [[93]] true true [exO, kidX 7 [] w ks, kidB w ks] (by decide) hr hl
   by_cases c : isR [[93]] q = true
   ·rw [if_pos c] at hx
    rw [c] at hi
    refine pa [.k (.bool false), .b true, .k (.bool true), .b true] rfl ?_ ?_
    ·(repeat' with_reducible apply AllP_cons) <;> first | exact aC | skip
    exact cont ⟨7, [], ks, q, w⟩ _ ⟨hr, (Option.some.inj hx).symm⟩ (.cons rfl (.cons rfl (.cons rfl (.cons rfl (.nil _)))))
   rw [if_neg c] at hx
   rw [(Bool.not_eq_true _).mp c] at hi
   have hi2 := risT v l q e b d n [wFor] true true [exO, kidX 7 [] w ks, kidB w ks] (by decide) hr hl
   by_cases c2 : ks.length = 1 ∧ isR [wFor] q = true
   ·rw [if_pos c2] at hx
    obtain ⟨z1, c2⟩ := c2
    obtain ⟨x0, rfl⟩ : ∃ x0, ks = [x0] := by
     match ks, z1 with
     | [x0], _ => exact ⟨x0, rfl⟩
    rw [c2] at hi2
    have hwr := rd_next (isR_ne c2) hr hl
    cases G with
    | zero => cases hx
    | succ G =>
    rw [eachR] at hx
    refine pa [.k (.bool false), .b true, .k (.bool false), .b false, .b true, .k (.bool true), .b true] rfl ?_ ?_
    ·(repeat' with_reducible apply AllP_cons) <;> first | exact aC | skip
    refine S_heap (rdB v l q.next e b d n :: [exO, kidX 7 [] w [x0], kidB w [x0]]) ?_ ?_
    ·show rdI v l (IntKind.i64.wrap (((l.length - q.r.length : Nat) : Int) + 1)) q.f e b d n :: _ = _
     rw [hwr]; rfl
    have hK := rkindT v l q.next e b d n 1 [exO, kidX 7 [] w [x0], kidB w [x0]] (by decide) (next_s hr) hl
    have hrk : (kindR e 1 q.next).2.r <:+ l := kind_s (next_s hr)
    obtain ⟨qk, hqk⟩ : ∃ qk, qk = (kindR e 1 q.next).2 := ⟨_, rfl⟩
    obtain ⟨t, ht⟩ : ∃ t, t = (kindR e 1 q.next).1 := ⟨_, rfl⟩
    rw [← hqk, ← ht] at hK
    rw [← hqk] at hrk
    rw [← hqk, ← ht] at hx
    have hS := rsignT v l qk e b d n wIn [exO, kidX 9 t w [x0], kidB w [x0]] hrk hl
    have hrs : (signR e wIn qk).r <:+ l := sign_s hrk
    obtain ⟨q2, hq2⟩ : ∃ q2, q2 = signR e wIn qk := ⟨_, rfl⟩
    rw [← hq2] at hS hx hrs
    cases hx1 : exprR e G n q2 with
    | none => rw [hx1] at hx; cases hx
    | some y1 =>
    rw [hx1] at hx
    have hr5 := (allR e l G).expr _ _ hrs _ hx1
    obtain ⟨⟨yk, yn, yt, ys, ym⟩, q5⟩ := y1
    have h2 := (he G (by omega)).tail v l q2 e b d n _ q5 [exO, kidX 9 t w [x0], kidB w [x0]] hrs hl (by omega) hx1
    have hbx : 0 + [x0].length * 5 = (exF [x0]).length := by rw [exF_len]; omega
    refine pa [.f (.str t) (fun σ => rdB v l qk e b d n :: σ.tail), .f (.tup []) (fun σ => rdB v l q2 e b d n :: σ.tail), .d 3 5 [] (fun σ => rdB v l q5 e b d n :: σ.tail) [exA (.mk yk yn yt ys ym)]] rfl ?_ ?_
    ·(repeat' with_reducible apply AllP_cons) <;> first | exact aC | skip
     exact ⟨_, h2, rfl⟩
    refine S_heap [rdB v l q5 e b d n, exO, kidX 9 t (w + 1) [x0, .mk yk yn yt ys ym], kidB (w + 1) [x0, .mk yk yn yt ys ym]] (kid_snoc _ 9 t (w + 1) [x0] (.mk yk yn yt ys ym)) ?_
    obtain ⟨z, hz⟩ : ∃ z, z = Ex.mk yk yn yt ys ym := ⟨_, rfl⟩
    rw [← hz] at hx ⊢
    have hx : (if isR [wIf] q5 then (exprR e G n q5.next).bind fun z2 => some (.mk 9 0 t [x0, z, z2.1] [], signR e [93] z2.2)
     else some (.mk 9 0 t [x0, z] [], signR e [93] q5)) = some y := hx
    clear h2 hx1
    have hi3 := risT v l q5 e b d n [wIf] true true [exO, kidX 9 t (w + 1) [x0, z], kidB (w + 1) [x0, z]] (by decide) hr5 hl
    by_cases c3 : isR [wIf] q5 = true
    ·rw [if_pos c3] at hx
     rw [c3] at hi3
     have hwr := rd_next (isR_ne c3) hr5 hl
     cases hx1 : exprR e G n q5.next with
     | none => rw [hx1] at hx; cases hx
     | some y1 =>
     rw [hx1] at hx
     have hr6 := (allR e l G).expr _ _ (next_s hr5) _ hx1
     obtain ⟨⟨yk, yn, yt, ys, ym⟩, q6⟩ := y1
     have h2 := (he G (by omega)).tail v l q5.next e b d n _ q6 [exO, kidX 9 t (w + 1) [x0, z], kidB (w + 1) [x0, z]] (next_s hr5) hl (by omega) hx1
     have hbx : 0 + [x0, z].length * 5 = (exF [x0, z]).length := by rw [exF_len]; omega
     refine pa [.k (.bool true), .b true] rfl ?_ ?_
     ·(repeat' with_reducible apply AllP_cons) <;> first | exact aC | skip
     refine S_heap (rdB v l q5.next e b d n :: [exO, kidX 9 t (w + 1) [x0, z], kidB (w + 1) [x0, z]]) ?_ ?_
     ·show rdI v l (IntKind.i64.wrap (((l.length - q5.r.length : Nat) : Int) + 1)) q5.f e b d n :: _ = _
      rw [hwr]; rfl
     refine pa [.d 3 5 [] (fun σ => rdB v l q6 e b d n :: σ.tail) [exA (.mk yk yn yt ys ym)]] rfl ?_ ?_
     ·(repeat' with_reducible apply AllP_cons) <;> first | exact aC | skip
      exact ⟨_, h2, rfl⟩
     refine S_heap [rdB v l q6 e b d n, exO, kidX 9 t (w + 2) [x0, z, .mk yk yn yt ys ym], kidB (w + 2) [x0, z, .mk yk yn yt ys ym]] (kid_snoc _ 9 t (w + 2) [x0, z] (.mk yk yn yt ys ym)) ?_
     exact cont ⟨9, t, [x0, z, .mk yk yn yt ys ym], q6, w + 2⟩ _ ⟨hr6, (Option.some.inj hx).symm⟩ (.cons rfl (.cons rfl (.cons rfl (.cons rfl (.nil _)))))
    ·rw [if_neg c3] at hx
     rw [(Bool.not_eq_true _).mp c3] at hi3
     refine pa [.k (.bool false), .b false] rfl ?_ ?_
     ·(repeat' with_reducible apply AllP_cons) <;> first | exact aC | skip
     exact cont ⟨9, t, [x0, z], q5, w + 1⟩ _ ⟨hr5, (Option.some.inj hx).symm⟩ (.cons rfl (.cons rfl (.cons rfl (.cons rfl (.nil _)))))
   rw [if_neg c2] at hx
   obtain ⟨q2, hq2⟩ : ∃ q2, q2 = if ks.length > 0 then signR e [44] q else q := ⟨_, rfl⟩
   rw [← hq2] at hx
   have hr2 : q2.r <:+ l := by rw [hq2]; exact ite_s (sign_s hr) hr
   refine' S_share [(0, .ptr 0 v 0), (2, .ptr 1 0 0), (3, .ptr 2 0 0), (4, .int .i64 (ks.length : Nat))] [rdB v l q2 e b d n, exO, kidX 7 [] w ks, kidB w ks] (fun cont2 => ?main2) ?rest2
   case main2 =>
    by_cases z0 : ks.length = 0
    ·obtain rfl := List.eq_nil_of_length_eq_zero z0
     have hq2 : q2 = q := hq2
     subst hq2
     refine pa [.k (.bool false), .b true, .k (.bool false), .b false, .b false, .b false, .b false] rfl ?_ ?_
     ·(repeat' with_reducible apply AllP_cons) <;> first | exact aC | skip
     exact cont2 _ (.cons rfl (.cons rfl (.cons rfl (.cons rfl (.nil _)))))
    have hM := rsignT v l q e b d n [44] [exO, kidX 7 [] w ks, kidB w ks] hr hl
    rw [if_pos (by omega)] at hq2
    rw [← hq2] at hM
    have e0 : decide (((ks.length : Nat) : Int) > 0) = true := decide_eq_true (by omega)
    by_cases z1 : ks.length = 1
    ·have e1 : (((ks.length : Nat) : Int) == 1) = true := by rw [z1]; rfl
     have c3 : isR [wFor] q = false := (Bool.not_eq_true _).mp fun h => c2 ⟨z1, h⟩
     rw [c3] at hi2
     refine pa [.k (.bool false), .b true, .k (.bool false), .b false, .b true, .k (.bool false), .b false, .b true, .f (.tup []) (fun σ => rdB v l q2 e b d n :: σ.tail)] rfl ?_ ?_
     ·(repeat' with_reducible apply AllP_cons) <;> first | exact aC | skip
     exact cont2 _ (.cons rfl (.cons rfl (.cons rfl (.cons rfl (.nil _)))))
    ·have e1 : (((ks.length : Nat) : Int) == 1) = false := beq_false_of_ne (by omega)
     refine pa [.k (.bool false), .b true, .k (.bool false), .b false, .b false, .b false, .b true, .f (.tup []) (fun σ => rdB v l q2 e b d n :: σ.tail)] rfl ?_ ?_
     ·(repeat' with_reducible apply AllP_cons) <;> first | exact aC | skip
     exact cont2 _ (.cons rfl (.cons rfl (.cons rfl (.cons rfl (.nil _)))))
   case rest2 =>
    cases hx1 : exprR e G n q2 with
    | none => rw [hx1] at hx; cases hx
    | some y1 =>
    rw [hx1] at hx
    have hr5 := (allR e l G).expr _ _ hr2 _ hx1
    obtain ⟨⟨yk, yn, yt, ys, ym⟩, q5⟩ := y1
    have hx : listR e G n 7 [] (ks ++ [.mk yk yn yt ys ym]) q5 = some y := hx
    have h2 := (he G (by omega)).tail v l q2 e b d n _ q5 [exO, kidX 7 [] w ks, kidB w ks] hr2 hl (by omega) hx1
    have hbx : 0 + ks.length * 5 = (exF ks).length := by rw [exF_len]; omega
    have hwk : IntKind.i64.wrap (((ks.length : Nat) : Int) + 1) = (((ks ++ [Ex.mk yk yn yt ys ym]).length : Nat) : Int) := by
     rw [List.length_append, List.length_singleton, IntWalk.i64_in _ ⟨by omega, by omega⟩]; omega
    refine pa [.d 3 5 [] (fun σ => rdB v l q5 e b d n :: σ.tail) [exA (.mk yk yn yt ys ym)]] rfl ?_ ?_
    ·(repeat' with_reducible apply AllP_cons) <;> first | exact aC | skip
     ·exact ⟨_, h2, rfl⟩
     ·show (ks.length + 1) * 80 ≤ 140737488355328
      omega
    refine S_round ⟨G, ks ++ [.mk yk yn yt ys ym], q5, w + 1⟩ (Nat.lt_succ_self _) ⟨by show G ≤ F + 1; omega, hr5, hx, by show (ks ++ [_]).length + G ≤ F + 1; rw [List.length_append, List.length_singleton]; omega⟩ (.cons rfl (.cons rfl (.cons rfl (.cons (by show AV.int .i64 (IntKind.i64.wrap (((ks.length : Nat) : Int) + 1)) = _; rw [hwk]) (.nil _))))) ?_
    exact kid_snoc _ 7 [] (w + 1) ks (.mk yk yn yt ys ym)
  case rest =>
   rintro ⟨kd, tx, ks, q, w⟩ ⟨hr, hy⟩
   have hr : q.r <:+ l := hr
   have hy : y = (.mk kd 0 tx ks [], signR e [93] q) := hy
   subst hy
   show S cx _ B _ _ [(0, .ptr 0 v 0), (2, .ptr 1 0 0), (3, .ptr 2 0 0), (69, .ptr 0 v 0)] [rdB v l q e b d n, exO, kidX kd tx w ks, kidB w ks]
   have hM := rsignT v l q e b d n [93] [exO, kidX kd tx w ks, kidB w ks] hr hl
   refine pa [.f (.tup []) (fun σ => rdB v l (signR e [93] q) e b d n :: σ.tail)] rfl ?_ ?_
   ·(repeat' with_reducible apply AllP_cons) <;> first | exact aC | skip
   refine S_ret ⟨_, _, rfl, ⟨rfl, trivial⟩, ?_⟩
   exact rfin (exFz (kidFz (by decide) rfl) .nils)
end Go.Proofs.YtonjhfeabphaaaaGreatDoor
end
section
set_option linter.unusedVariables false
set_option linter.unusedSimpArgs false
set_option maxRecDepth 20000
set_option maxHeartbeats 4000000
namespace Go.Proofs.YtonjhfeabphaaaaGreatDoor
open Go Go.Ab
theorem dictR_go {e F n : Nat} {ks : List Ex} {q : Rd} {y : Ex × Rd} (h : ¬ q.bad = true) (hx : dictR e F n ks q = some y) : ∃ G, F = G + 1 ∧ (if isR [[125]] q then some (.mk 8 0 [] ks [], signR e [125] q)
  else (exprR e G n (if ks.length > 0 then signR e [44] q else q)).bind fun y => (exprR e G n (signR e [58] y.2)).bind fun z => dictR e G n (ks ++ [y.1] ++ [z.1]) z.2) = some y := by
 cases F with
 | zero => unfold dictR at hx; rw [if_neg h] at hx; cases hx
 | succ G => rw [dictR, if_neg h] at hx; exact ⟨G, rfl, hx⟩
structure RdSt where
 F : Nat
 m : Nat
 ks : List Ex
 q : Rd
 w : Nat
def kidX0 (kd : Nat) : Nat × Option Box := (0, some (.cells [.int .i64 (kd : Nat), .int .i64 0, .str [], .nils, .nils] ⟨false, some 54⟩))
theorem ratom_ok (F : Nat) (he : ∀ F', F' ≤ F → Rx 64 exprR F') (hli : Rli F) : Rx 128 atomR (F + 1) := fun v l q e b d n y hr hl hn hx =>
 callOk_introT (fun a w => Tryz.call128 a w) Tryz.func128 rfl Tryz.ntmps128 rfl fun B => by
  rw [atomR] at hx
  have hlk := rlookT v l q e b d n [exO] hr hl
  by_cases k1 : lkK q = 1
  ·rw [if_pos k1] at hx
   have hwr := rd_next (lkK_ne k1 (by decide)) hr hl
   rw [k1] at hlk
   obtain ⟨t, ht⟩ : ∃ t, t = lkT q := ⟨_, rfl⟩
   rw [← ht] at hx hlk
   cases hx
   refine pa [.k (lookA 1 t), .b true] rfl ?_ ?_
   ·(repeat' with_reducible apply AllP_cons) <;> first | exact aC | skip
   refine S_ret ⟨_, _, rfl, ⟨rfl, trivial⟩, ?_⟩
   show TR 1 _ (.ret _) (rdI v l (IntKind.i64.wrap (((l.length - q.r.length : Nat) : Int) + 1)) q.f e b d n :: _)
   rw [hwr]
   exact rfin (q := q.next) (exFz (kd := 6) (nm := 0) (ks := []) (ns := []) .nils .nils)
  rw [if_neg k1] at hx
  have e1 : (((lkK q : Nat) : Int) == 1) = false := beq_false_of_ne (by omega)
  by_cases k2 : lkK q = 2
  ·rw [if_pos k2] at hx
   have hne := lkK_ne k2 (by decide)
   have hwr := rd_next hne hr hl
   obtain ⟨t, u, hq⟩ : ∃ t u, q.r = t :: u := by
    cases h : q.r with
    | nil => exact absurd h hne
    | cons t u => exact ⟨t, u, rfl⟩
   have hx : some (Ex.mk 4 ((q.r.head?.map Tok.num).getD 0) [] [] [], q.next) = some y := hx
   rw [hq] at hx
   have hx : some (Ex.mk 4 t.num [] [] [], q.next) = some y := hx
   cases hx
   obtain ⟨tt, htt⟩ : ∃ tt, tt = lkT q := ⟨_, rfl⟩
   rw [k2, ← htt] at hlk
   have hg : (l.map tokA)[(((l.length - q.r.length : Nat) : Nat) : Int).toNat]? = some (tokA t) := by
    rw [hq]; exact suf_get (by rw [← hq]; exact hr)
   have hlt : l.length - q.r.length < l.length := by rw [hq]; exact suf_lt (by rw [← hq]; exact hr)
   have hml : (l.map tokA).length = l.length := by simp
   have hw1 : IntKind.i64.wrap (IntKind.i64.wrap (((l.length - q.r.length : Nat) : Int) + 1) - 1) = ((l.length - q.r.length : Nat) : Int) := by
    rw [IntWalk.i64_in (((l.length - q.r.length : Nat) : Int) + 1) ⟨by omega, by omega⟩, IntWalk.i64_in _ ⟨by omega, by omega⟩]; omega
   have h0 : (0 : Int) ≤ IntKind.i64.wrap (IntKind.i64.wrap (((l.length - q.r.length : Nat) : Int) + 1) - 1) := by rw [hw1]; omega
   have hg1 : (l.map tokA)[(IntKind.i64.wrap (IntKind.i64.wrap (((l.length - q.r.length : Nat) : Int) + 1) - 1)).toNat]? = some (tokA t) := by rw [hw1]; exact hg
   refine pa [.k (lookA 2 tt), .b false, .b true, .v (tokA t)] rfl ?_ ?_
   ·(repeat' with_reducible apply AllP_cons) <;> first | exact aC | skip
   refine S_ret ⟨_, _, rfl, ⟨rfl, trivial⟩, ?_⟩
   show TR 1 _ (.ret _) (rdI v l (IntKind.i64.wrap (((l.length - q.r.length : Nat) : Int) + 1)) q.f e b d n :: _)
   rw [hwr]
   exact rfin (q := q.next) (exFz (kd := 4) (nm := t.num) (ks := []) (ns := []) .nils .nils)
  rw [if_neg k2] at hx
  have e2 : (((lkK q : Nat) : Int) == 2) = false := beq_false_of_ne (by omega)
  by_cases k3 : lkK q = 3
  ·rw [if_pos k3] at hx
   have hwr := rd_next (lkK_ne k3 (by decide)) hr hl
   rw [k3] at hlk
   obtain ⟨t, ht⟩ : ∃ t, t = lkT q := ⟨_, rfl⟩
   rw [← ht] at hx hlk
   cases hx
   refine pa [.k (lookA 3 t), .b false, .b false, .b true] rfl ?_ ?_
   ·(repeat' with_reducible apply AllP_cons) <;> first | exact aC | skip
   refine S_ret ⟨_, _, rfl, ⟨rfl, trivial⟩, ?_⟩
   show TR 1 _ (.ret _) (rdI v l (IntKind.i64.wrap (((l.length - q.r.length : Nat) : Int) + 1)) q.f e b d n :: _)
   rw [hwr]
   exact rfin (q := q.next) (exFz (kd := 5) (nm := 0) (ks := []) (ns := []) .nils .nils)
  rw [if_neg k3] at hx
  have e3 : (((lkK q : Nat) : Int) == 3) = false := beq_false_of_ne (by omega)
  obtain ⟨t, ht⟩ : ∃ t, t = lkT q := ⟨_, rfl⟩
  obtain ⟨k0, hk0⟩ : ∃ k, k = lkK q := ⟨_, rfl⟩
  rw [← ht] at hx
  rw [← ht, ← hk0] at hlk
  rw [← hk0] at e1 e2 e3
  have hi1 := risT v l q e b d n [wNone, wTrue, wFalse] true true [exO] (by decide) hr hl
  by_cases c1 : isR [wNone, wTrue, wFalse] q = true
  ·rw [if_pos c1] at hx
   rw [c1] at hi1
   have hwr := rd_next (isR_ne c1) hr hl
   cases hx
   have fin : ∀ k, TR 1 (fun o s => o = .ret (exA (.mk k 0 [] [] [])) ∧ s = [rdB v l q.next e b d n]) (.ret (.agg [.int .i64 (k : Nat), .int .i64 0, .str [], .nils, .nils])) (rdI v l (IntKind.i64.wrap (((l.length - q.r.length : Nat) : Int) + 1)) q.f e b d n :: [(0, some (.cells [.int .i64 (k : Nat), .int .i64 0, .str [], .nils, .nils] ⟨false, some 54⟩))]) := fun k => by
    rw [hwr]
    exact rfin (q := q.next) (exFz (kd := k) (nm := 0) (ks := []) (ns := []) .nils .nils)
   unfold atomW
   by_cases w2 : t = wTrue
   ·subst w2
    rw [if_neg (by decide), if_pos (by decide)]
    refine pa [.k (lookA k0 wTrue), .b false, .b false, .b false, .k (.bool true), .b true, .b true, .b false] rfl ?_ ?_
    ·(repeat' with_reducible apply AllP_cons) <;> first | exact aC | skip
    exact S_ret ⟨_, _, rfl, ⟨rfl, trivial⟩, fin 2⟩
   ·have w2' : (t == wTrue) = false := beq_false_of_ne w2
    by_cases w3 : t = wFalse
    ·subst w3
     rw [if_pos (by decide)]
     refine pa [.k (lookA k0 wFalse), .b false, .b false, .b false, .k (.bool true), .b true, .b false, .b true] rfl ?_ ?_
     ·(repeat' with_reducible apply AllP_cons) <;> first | exact aC | skip
     exact S_ret ⟨_, _, rfl, ⟨rfl, trivial⟩, fin 3⟩
    ·have w3' : (t == wFalse) = false := beq_false_of_ne w3
     rw [w2', w3', if_neg (by decide), if_neg (by decide)]
     refine pa [.k (lookA k0 t), .b false, .b false, .b false, .k (.bool true), .b true, .b false, .b false] rfl ?_ ?_
     ·(repeat' with_reducible apply AllP_cons) <;> first | exact aC | skip
     exact S_ret ⟨_, _, rfl, ⟨rfl, trivial⟩, fin 1⟩
  rw [if_neg c1] at hx
  rw [(Bool.not_eq_true _).mp c1] at hi1
  have hi2 := risT v l q e b d n [[40]] true true [exO] (by decide) hr hl
  by_cases c2 : isR [[40]] q = true
  ·rw [if_pos c2] at hx
   rw [c2] at hi2
   have hwr := rd_next (isR_ne c2) hr hl
   cases hx1 : exprR e F n q.next with
   | none => rw [hx1] at hx; cases hx
   | some y1 =>
   rw [hx1] at hx
   have hr1 := (allR e l F).expr _ _ (next_s hr) _ hx1
   obtain ⟨⟨yk, yn, yt, ys, ym⟩, q1⟩ := y1
   cases hx
   have h2 := (he F (Nat.le_refl _)).tail v l q.next e b d n _ q1 [exO] (next_s hr) hl (by omega) hx1
   have h3 := rsignT v l q1 e b d n [41] [exO, exB (.mk yk yn yt ys ym)] hr1 hl
   refine pa [.k (lookA k0 t), .b false, .b false, .b false, .k (.bool false), .b false, .k (.bool true), .b true] rfl ?_ ?_
   ·(repeat' with_reducible apply AllP_cons) <;> first | exact aC | skip
   refine S_heap (rdB v l q.next e b d n :: [exO]) ?_ ?_
   ·show rdI v l (IntKind.i64.wrap (((l.length - q.r.length : Nat) : Int) + 1)) q.f e b d n :: _ = _
    rw [hwr]; rfl
   refine pa [.f (exA (.mk yk yn yt ys ym)) (fun σ => rdB v l q1 e b d n :: σ.tail), .f (.tup []) (fun σ => rdB v l (signR e [41] q1) e b d n :: σ.tail)] rfl ?_ ?_
   ·(repeat' with_reducible apply AllP_cons) <;> first | exact aC | skip
   refine S_ret ⟨_, _, rfl, ⟨rfl, trivial⟩, ?_⟩
   exact rfin (.low (Low.free (exA_free (st := true) (.mk yk yn yt ys ym))))
  rw [if_neg c2] at hx
  rw [(Bool.not_eq_true _).mp c2] at hi2
  have hi3 := risT v l q e b d n [[91]] true true [exO] (by decide) hr hl
  by_cases c3 : isR [[91]] q = true
  ·rw [if_pos c3] at hx
   rw [c3] at hi3
   have hwr := rd_next (isR_ne c3) hr hl
   obtain ⟨⟨yk, yn, yt, ys, ym⟩, q1⟩ := y
   have h2 := hli.tail v l q.next e b d n _ q1 [exO] (next_s hr) hl (by omega) hx
   refine pa [.k (lookA k0 t), .b false, .b false, .b false, .k (.bool false), .b false, .k (.bool false), .b false, .k (.bool true), .b true] rfl ?_ ?_
   ·(repeat' with_reducible apply AllP_cons) <;> first | exact aC | skip
   refine S_heap (rdB v l q.next e b d n :: [exO]) ?_ ?_
   ·show rdI v l (IntKind.i64.wrap (((l.length - q.r.length : Nat) : Int) + 1)) q.f e b d n :: _ = _
    rw [hwr]; rfl
   refine pa [.f (exA (.mk yk yn yt ys ym)) (fun σ => rdB v l q1 e b d n :: σ.tail)] rfl ?_ ?_
   ·(repeat' with_reducible apply AllP_cons) <;> first | exact aC | skip
   refine S_ret ⟨_, _, rfl, ⟨rfl, trivial⟩, ?_⟩
   exact rfin (.low (Low.free (exA_free (st := true) (.mk yk yn yt ys ym))))
  rw [if_neg c3] at hx
  rw [(Bool.not_eq_true _).mp c3] at hi3
  have hi4 := risT v l q e b d n [[123]] true true [exO] (by decide) hr hl
  by_cases c4 : isR [[123]] q = true
  ·rw [if_pos c4] at hx
   rw [c4] at hi4
   have hwr := rd_next (isR_ne c4) hr hl
   refine pa [.k (lookA k0 t), .b false, .b false, .b false, .k (.bool false), .b false, .k (.bool false), .b false, .k (.bool false), .b false, .k (.bool true), .b true] rfl ?_ ?_
   ·(repeat' with_reducible apply AllP_cons) <;> first | exact aC | skip
   refine S_heap (rdB v l q.next e b d n :: [exO, kidX0 8]) ?_ ?_
   ·show rdI v l (IntKind.i64.wrap (((l.length - q.r.length : Nat) : Int) + 1)) q.f e b d n :: _ = _
    rw [hwr]; rfl
   refine S_ghost (id := 2) (j := 3) 5 ⟨false, none⟩ rfl rfl rfl (Nat.ne_of_lt (lble rfl)) ⟨_, _, .inl rfl⟩ ?_
   refine' S_shareU (ι := RlEnd) [(0, .ptr 0 v 0), (2, .ptr 1 0 0), (7, .ptr 2 0 0), (147, .ptr 0 v 0)] (fun p => [rdB v l p.q e b d n, exO, kidX 8 [] p.w p.ks, kidB p.w p.ks])
    (fun p => p.q.r <:+ l ∧ y = (.mk 8 0 [] p.ks [], signR e [125] p.q)) (fun cont => ?main) ?rest
   case main =>
    refine S_while (α := RdSt) (fun p => [(0, .ptr 0 v 0), (2, .ptr 1 0 0), (7, .ptr 2 0 0), (8, .int .i64 (p.m : Nat))]) (fun p => [rdB v l p.q e b d n, exO, kidX 8 [] p.w p.ks, kidB p.w p.ks])
     (fun p => p.F ≤ F ∧ p.q.r <:+ l ∧ dictR e p.F n p.ks p.q = some y ∧ p.m + p.F ≤ F ∧ p.ks.length = 2 * p.m) (fun p => p.F) ⟨F, 0, [], q.next, 0⟩ ⟨Nat.le_refl _, next_s hr, hx, by show 0 + F ≤ F; omega, rfl⟩ (.cons rfl (.cons rfl (.cons rfl (.cons rfl (.nil _))))) rfl ?_
    rintro ⟨F1, m, ks, q, w⟩ ⟨hF1, hr, hx, hm, hks⟩
    have hF1 : F1 ≤ F := hF1
    have hr : q.r <:+ l := hr
    have hx : dictR e F1 n ks q = some y := hx
    have hm : m + F1 ≤ F := hm
    have hks : ks.length = 2 * m := hks
    show S cx _ B _ _ [(0, .ptr 0 v 0), (2, .ptr 1 0 0), (7, .ptr 2 0 0), (8, .int .i64 (m : Nat))] [rdB v l q e b d n, exO, kidX 8 [] w ks, kidB w ks]
    have hb := rbadT v l q e b d n [exO, kidX 8 [] w ks, kidB w ks]
    by_cases hbad : q.bad = true
    ·rw [hbad] at hb
     rw [dictR_bad hbad] at hx
     refine pa [.k (.bool true), .b false] rfl ?_ ?_
     ·(repeat' with_reducible apply AllP_cons) <;> first | exact aC | skip
     exact cont ⟨8, [], ks, q, w⟩ _ ⟨hr, by rw [signR_bad hbad]; exact (Option.some.inj hx).symm⟩ (.cons rfl (.cons rfl (.cons rfl (.cons rfl (.nil _)))))
    obtain ⟨G, rfl, hx'⟩ := dictR_go hbad hx
    clear hx
    have hx := hx'
    clear hx'
    rw [(Bool.not_eq_true _).mp hbad] at hb
    have hi := risT v l q e b d n [[125]] true true [exO, kidX 8 [] w ks, kidB w ks] (by decide) hr hl
    by_cases c : isR [[125]] q = true
    ·rw [if_pos c] at hx
     rw [c] at hi
     refine pa [.k (.bool false), .b true, .k (.bool true), .b true] rfl ?_ ?_
     ·(repeat' with_reducible apply AllP_cons) <;> first | exact aC | skip
     exact cont ⟨8, [], ks, q, w⟩ _ ⟨hr, (Option.some.inj hx).symm⟩ (.cons rfl (.cons rfl (.cons rfl (.cons rfl (.nil _)))))
    rw [if_neg c] at hx
    rw [(Bool.not_eq_true _).mp c] at hi
    obtain ⟨q2, hq2⟩ : ∃ q2, q2 = if ks.length > 0 then signR e [44] q else q := ⟨_, rfl⟩
    rw [← hq2] at hx
    have hr2 : q2.r <:+ l := by rw [hq2]; exact ite_s (sign_s hr) hr
    refine' S_share [(0, .ptr 0 v 0), (2, .ptr 1 0 0), (7, .ptr 2 0 0), (8, .int .i64 (m : Nat))] [rdB v l q2 e b d n, exO, kidX 8 [] w ks, kidB w ks] (fun cont2 => ?main2) ?rest2
    case main2 =>
     by_cases z0 : m = 0
     ·rw [if_neg (by omega)] at hq2
      have e0 : decide (((m : Nat) : Int) > 0) = false := decide_eq_false (by omega)
      refine pa [.k (.bool false), .b true, .k (.bool false), .b false, .b false] rfl ?_ ?_
      ·(repeat' with_reducible apply AllP_cons) <;> first | exact aC | skip
      rw [← hq2]
      exact cont2 _ (.cons rfl (.cons rfl (.cons rfl (.cons rfl (.nil _)))))
     have hM := rsignT v l q e b d n [44] [exO, kidX 8 [] w ks, kidB w ks] hr hl
     rw [if_pos (by omega)] at hq2
     rw [← hq2] at hM
     have e0 : decide (((m : Nat) : Int) > 0) = true := decide_eq_true (by omega)
     refine pa [.k (.bool false), .b true, .k (.bool false), .b false, .b true, .f (.tup []) (fun σ => rdB v l q2 e b d n :: σ.tail)] rfl ?_ ?_
     ·(repeat' with_reducible apply AllP_cons) <;> first | exact aC | skip
     exact cont2 _ (.cons rfl (.cons rfl (.cons rfl (.cons rfl (.nil _)))))
    case rest2 =>
     cases hx1 : exprR e G n q2 with
     | none => rw [hx1] at hx; cases hx
     | some y1 =>
     rw [hx1] at hx
     have hr5 := (allR e l G).expr _ _ hr2 _ hx1
     obtain ⟨⟨yk, yn, yt, ys, ym⟩, q5⟩ := y1
     have hx : (exprR e G n (signR e [58] q5)).bind (fun z => dictR e G n (ks ++ [.mk yk yn yt ys ym] ++ [z.1]) z.2) = some y := hx
     have h2 := (he G (by omega)).tail v l q2 e b d n _ q5 [exO, kidX 8 [] w ks, kidB w ks] hr2 hl (by omega) hx1
     have hbx : 0 + ks.length * 5 = (exF ks).length := by rw [exF_len]; omega
     refine pa [.d 3 5 [] (fun σ => rdB v l q5 e b d n :: σ.tail) [exA (.mk yk yn yt ys ym)]] rfl ?_ ?_
     ·(repeat' with_reducible apply AllP_cons) <;> first | exact aC | skip
      ·exact ⟨_, h2, rfl⟩
      ·show (ks.length + 1) * 80 ≤ 140737488355328
       omega
     obtain ⟨ks2, hk2⟩ : ∃ ks2, ks2 = ks ++ [Ex.mk yk yn yt ys ym] := ⟨_, rfl⟩
     have hkl : ks2.length = 2 * m + 1 := by rw [hk2, List.length_append, List.length_singleton]; omega
     refine S_heap [rdB v l q5 e b d n, exO, kidX 8 [] (w + 1) ks2, kidB (w + 1) ks2] (by rw [hk2]; exact kid_snoc _ 8 [] (w + 1) ks (.mk yk yn yt ys ym)) ?_
     rw [← hk2] at hx
     have hS := rsignT v l q5 e b d n [58] [exO, kidX 8 [] (w + 1) ks2, kidB (w + 1) ks2] hr5 hl
     have hrs : (signR e [58] q5).r <:+ l := sign_s hr5
     obtain ⟨q6, hq6⟩ : ∃ q6, q6 = signR e [58] q5 := ⟨_, rfl⟩
     rw [← hq6] at hS hx hrs
     cases hx2 : exprR e G n q6 with
     | none => rw [hx2] at hx; cases hx
     | some y2 =>
     rw [hx2] at hx
     have hr7 := (allR e l G).expr _ _ hrs _ hx2
     obtain ⟨⟨zk, zn, zt, zs, zm⟩, q7⟩ := y2
     have hx : dictR e G n (ks2 ++ [.mk zk zn zt zs zm]) q7 = some y := hx
     have h3 := (he G (by omega)).tail v l q6 e b d n _ q7 [exO, kidX 8 [] (w + 1) ks2, kidB (w + 1) ks2] hrs hl (by omega) hx2
     have hbx2 : 0 + ks2.length * 5 = (exF ks2).length := by rw [exF_len]; omega
     have hwk : IntKind.i64.wrap (((m : Nat) : Int) + 1) = ((m + 1 : Nat) : Int) := by
      rw [IntWalk.i64_in _ ⟨by omega, by omega⟩]; omega
     refine pa [.f (.tup []) (fun σ => rdB v l q6 e b d n :: σ.tail), .d 3 5 [] (fun σ => rdB v l q7 e b d n :: σ.tail) [exA (.mk zk zn zt zs zm)]] rfl ?_ ?_
     ·(repeat' with_reducible apply AllP_cons) <;> first | exact aC | skip
      ·exact ⟨_, h3, rfl⟩
      ·show (ks2.length + 1) * 80 ≤ 140737488355328
       omega
     refine S_round ⟨G, m + 1, ks2 ++ [.mk zk zn zt zs zm], q7, w + 2⟩ (Nat.lt_succ_self _) ⟨by show G ≤ F; omega, hr7, hx, by show m + 1 + G ≤ F; omega, by show (ks2 ++ [_]).length = 2 * (m + 1); rw [List.length_append, List.length_singleton]; omega⟩ (.cons rfl (.cons rfl (.cons rfl (.cons (by show AV.int .i64 (IntKind.i64.wrap (((m : Nat) : Int) + 1)) = _; rw [hwk]) (.nil _))))) ?_
     exact kid_snoc _ 8 [] (w + 2) ks2 (.mk zk zn zt zs zm)
   case rest =>
    rintro ⟨_, _, ks, q, w⟩ ⟨hr, hy⟩
    have hr : q.r <:+ l := hr
    have hy : y = (.mk 8 0 [] ks [], signR e [125] q) := hy
    subst hy
    show S cx _ B _ _ [(0, .ptr 0 v 0), (2, .ptr 1 0 0), (7, .ptr 2 0 0), (147, .ptr 0 v 0)] [rdB v l q e b d n, exO, kidX 8 [] w ks, kidB w ks]
    have hM := rsignT v l q e b d n [125] [exO, kidX 8 [] w ks, kidB w ks] hr hl
    refine pa [.f (.tup []) (fun σ => rdB v l (signR e [125] q) e b d n :: σ.tail)] rfl ?_ ?_
    ·(repeat' with_reducible apply AllP_cons) <;> first | exact aC | skip
    refine S_ret ⟨_, _, rfl, ⟨rfl, trivial⟩, ?_⟩
    exact rfin (exFz (kidFz (by decide) rfl) .nils)
  rw [if_neg c4] at hx
  rw [(Bool.not_eq_true _).mp c4] at hi4
  cases hx
  have hf := rfailT v l q e b d n 1 [exO] hr hl
  refine pa [.k (lookA k0 t), .b false, .b false, .b false, .k (.bool false), .b false, .k (.bool false), .b false, .k (.bool false), .b false, .k (.bool false), .b false, .f (.tup []) (fun σ => rdB v l (failR e 1 q) e b d n :: σ.tail)] rfl ?_ ?_
  ·(repeat' with_reducible apply AllP_cons) <;> first | exact aC | skip
  refine S_ret ⟨_, _, rfl, ⟨rfl, trivial⟩, ?_⟩
  exact rfin (exFz (kd := 0) (nm := 0) (ks := []) (ns := []) .nils .nils)
structure AllE (F : Nat) : Prop where
 expr : Rx 64 exprR F
 lev : ∀ k, k ≤ 5 → RdLv k F
 post : Rx 119 postA F
 call : Rcl F
 atom : Rx 128 atomR F
 list : Rli F
theorem rexpr_0 : Rx 64 exprR 0 := fun v l q e b d n y hr hl hn hx =>
 callOk_introT (fun a w => Tryz.call64 a w) Tryz.func64 rfl Tryz.ntmps64 rfl fun B => by
  have hx : (if q.bad then some (Ex.zero, q) else none) = some y := hx
  by_cases hbad : q.bad = true
  ·rw [if_pos hbad] at hx
   cases hx
   have h1 : CallOk cx 98 [.ptr 0 v 0, .int .i64 (0 : Nat)] (rdB v l q e b d (n + 1) :: [exO]) (fun o s => o = .ret (exA .zero) ∧ s = rdB v l q e b d (n + 1) :: [exO]) := rT (rlev_bad 0 0 v l q e b d (n + 1) hbad) (exA_free _) (by intro y hy; simp at hy; subst hy; exact .int) _
   have h2 := rinT v l q e b d n [exO] (by omega) hr hl
   rw [inR_bad hbad] at h2
   have hw : IntKind.i64.wrap (((n + 1 : Nat) : Int) - 1) = ((n : Nat) : Int) := by rw [IntWalk.i64_in _ ⟨by omega, by omega⟩]; omega
   refine pa [.f (.tup []) (fun σ => rdB v l q e b d (n + 1) :: σ.tail), .f (exA .zero) (fun σ => rdB v l q e b d (n + 1) :: σ.tail)] rfl ?_ ?_
   ·(repeat' with_reducible apply AllP_cons) <;> first | exact aC | skip
   refine S_ret ⟨_, _, rfl, ⟨rfl, trivial⟩, ?_⟩
   show TR 1 _ (.ret (exA .zero)) (rdI v l ((l.length - q.r.length : Nat) : Int) q.f e b d (IntKind.i64.wrap (((n + 1 : Nat) : Int) - 1)) :: _)
   rw [hw]
   exact rfin (q := q) (.low (Low.free (exA_free (st := true) _)))
  ·rw [if_neg hbad] at hx; cases hx
theorem rlev_0 (k : Nat) : RdLv k 0 := fun v l q e b d n y hr hl hn hx => by
 have hx : (if q.bad then some (Ex.zero, q) else none) = some y := hx
 by_cases hbad : q.bad = true
 ·rw [if_pos hbad] at hx
  cases hx
  exact rlev_bad k 0 v l q e b d n hbad
 ·rw [if_neg hbad] at hx; cases hx
theorem rcall_0 : Rcl 0 := fun v l q e b d n x y hr hl hn hx => by
 have hx : (if q.bad then some (Ex.mk 10 0 [] [x] [], q) else none) = some y := hx
 by_cases hbad : q.bad = true
 ·rw [if_pos hbad, ← callR_bad (e := e) (F := 1) (n := n) hbad] at hx
  exact rcall_ok 0 (fun F' h => by obtain rfl : F' = 0 := (by omega); exact rexpr_0) v l q e b d n x y hr hl (by omega) hx
 ·rw [if_neg hbad] at hx; cases hx
theorem rlist_0 : Rli 0 := fun v l q e b d n y hr hl hn hx => by
 have hx : (if q.bad then some (Ex.mk 7 0 [] [] [], q) else none) = some y := hx
 by_cases hbad : q.bad = true
 ·rw [if_pos hbad, ← listR_bad (e := e) (F := 1) (n := n) hbad] at hx
  exact rlist_ok 0 (fun F' h => by obtain rfl : F' = 0 := (by omega); exact rexpr_0) v l q e b d n y hr hl (by omega) hx
 ·rw [if_neg hbad] at hx; cases hx
theorem allE (F : Nat) : ∀ F', F' ≤ F → AllE F' := by
 induction F with
 | zero =>
  intro F' h
  obtain rfl : F' = 0 := by omega
  exact ⟨rexpr_0, fun k _ => rlev_0 k, fun _ _ _ _ _ _ _ _ _ _ _ h => (by cases h), rcall_0, fun _ _ _ _ _ _ _ _ _ _ _ h => (by cases h), rlist_0⟩
 | succ F ih =>
  intro F' h
  rcases Nat.lt_or_ge F' (F + 1) with h' | h'
  ·exact ih F' (by omega)
  obtain rfl : F' = F + 1 := by omega
  have ihF := ih F (Nat.le_refl _)
  refine ⟨rexpr_ok F (ihF.lev 0 (by omega)), fun k hk => ?_, rpost_ok F ihF.atom (fun F' h => (ih F' h).expr) (fun F' h => (ih F' h).call), (fun v l q e b d n x y hr hl hn hx => rcall_ok F (fun F' h => (ih F' h).expr) v l q e b d n x y hr hl (by omega) hx), ratom_ok F (fun F' h => (ih F' h).expr) ihF.list, fun v l q e b d n y hr hl hn hx => rlist_ok F (fun F' h => (ih F' h).expr) v l q e b d n y hr hl (by omega) hx⟩
  match k, hk with
  | 0, _ => exact rlev_b 0 F (by decide) (fun F' h => (ih F' h).lev 1 (by omega))
  | 1, _ => exact rlev_b 1 F (by decide) (fun F' h => (ih F' h).lev 2 (by omega))
  | 2, _ => exact rlev_2 F (ihF.lev 2 (by omega)) (ihF.lev 3 (by omega))
  | 3, _ => exact rlev_b 3 F (by decide) (fun F' h => (ih F' h).lev 4 (by omega))
  | 4, _ => exact rlev_b 4 F (by decide) (fun F' h => (ih F' h).lev 5 (by omega))
  | 5, _ => exact rlev_5 F (ihF.lev 5 (by omega)) ihF.post
theorem rexprT (F : Nat) (v : Nat) (l : List Tok) (q : Rd) (e b d n : Nat) (y : Ex) (q' : Rd) (τ : Heap) (hr : q.r <:+ l) (hl : l.length ≤ 100000) (hn : n + F ≤ 3000000) (hx : exprR e F n q = some (y, q')) :
  CallOk cx 64 [.ptr 0 v 0] (rdB v l q e b d n :: τ) (fun o s => o = .ret (exA y) ∧ s = rdB v l q' e b d n :: τ) :=
 (allE F F (Nat.le_refl _)).expr.tail v l q e b d n y q' τ hr hl hn hx
end Go.Proofs.YtonjhfeabphaaaaGreatDoor
end
section
set_option linter.unusedVariables false
set_option linter.unusedSimpArgs false
set_option maxRecDepth 20000
namespace Go.Proofs.YtonjhfeabphaaaaGreatDoor
open Go Go.Ab
theorem RsEnd.ret0 {s : List UInt8} {x : Flt ⊕ (Nat × Nat × List Nat × List Tok)} {v : Nat} {r : AV} {σ : Heap} (h : RsEnd s x v (.ret r) σ) : ∃ n : Nat, r = .int .i64 n := by
 cases x with
 | inl e => exact ⟨e.1, Out.ret.inj h.1⟩
 | inr q => obtain ⟨_, _, h, _⟩ := h; exact ⟨0, Out.ret.inj h⟩
def rsA (v u w : Nat) (s : List UInt8) (i o : Int) (ins : List Nat) (out : List Tok) : Heap := [(v, some (.cells [.str s, .int .i64 i, .int .i64 o, insV u ins, outV w out] ⟨false, some 79⟩)), insB u ins, outB w out]
theorem S_shareO {n : Nat} {B : Bs} {Q : Post} {k k' : List AI} {fr : Fr} {σ : Heap} {all : Array Oper} {l : List Oper} {K : List Nat} (F : Fr) (σ' : Heap) (hm : (∀ fr, Weak fr F → S cx n B (.ops all l K :: k') Q fr σ') → S cx n B k Q fr σ) (hk : S cx n B (.ops all l K :: k') Q F σ') : S cx n B k Q fr σ :=
 hm fun _ hw => S_ops_weak hw hk
theorem opens_iff (t : List UInt8) : t ∈ opens ↔ t = [40] ∨ t = [91] ∨ t = [123] := by simp [opens]
theorem closes_iff (t : List UInt8) : t ∈ closes ↔ t = [41] ∨ t = [93] ∨ t = [125] := by simp [closes]
def NatR (t : List UInt8) (n : Nat) : Prop := (natOf t ≤ 9007199254740991 → n = natOf t) ∧ (9007199254740991 < natOf t → 9007199254740991 < n) ∧ n ≤ 90071992547409920
theorem oneLet_ok (v u w : Nat) (s : List UInt8) (i o : Nat) (ins : List Nat) (out : List Tok) (hi : i < s.length) (hs : s.length ≤ 1048576) (ho : o ≤ 30) (hl : out.length ≤ 900000) (c0 : isLet s[i] = true) :
  CallOk cx 61 [.ptr 0 v 0] (rsH v u w s i o ins out) (RsEnd s (endS (oneS s i o) ins out) v) :=
 callOk_intro (fun a w => Tryz.call61 a w) Tryz.func61 rfl Tryz.ntmps61 rfl fun B => by
  have hgc : (((s.getD ((i : Nat) : Int).toNat 0).toNat : Nat) : Int) = ((s[i].toNat : Nat) : Int) := by rw [Int.toNat_natCast, getD_byte hi]
  have hi2 : (0 : Int) ≤ ((i : Nat) : Int) ∧ ((i : Nat) : Int) < ((s.length : Nat) : Int) := by omega
  have hgd : s.getD i 0 = s[i] := getD_byte hi
  have letA : ∀ (c : UInt8) (x : Int) σ, x = ((c.toNat : Nat) : Int) → ∃ args', Calc cx 91 args' (.bool (isLet c)) ∧ Frzs σ [.int .u8 x] args' := fun c x σ h => by
   rw [h]; exact ⟨_, IsLetterByte_ok c, .cons (.refl .int) (.nil _)⟩
  have digA : ∀ (c : UInt8) (x : Int) σ, x = ((c.toNat : Nat) : Int) → ∃ args', Calc cx 92 args' (.bool (isDg c)) ∧ Frzs σ [.int .u8 x] args' := fun c x σ h => by
   rw [h]; exact ⟨_, IsDigitByte_ok c, .cons (.refl .int) (.nil _)⟩
  have hLet := fun σ => letA s[i] _ σ hgc
  have hDig := fun σ => digA s[i] _ σ hgc
  unfold oneS
  rw [hgd]
  by_cases c1 : isLet s[i] = true
  ·rw [if_pos c1]
   rw [c1] at hLet
   obtain ⟨J, hJ⟩ : ∃ J, J = stopAt (fun c => isLet c || isDg c) s i := ⟨_, rfl⟩
   obtain ⟨t, ht⟩ : ∃ t, t = cutT s i J := ⟨_, rfl⟩
   have hJl := stopAt_le (p := fun c => isLet c || isDg c) (s := s) (i := i) (by omega)
   rw [← hJ, ← ht]
   rw [← hJ] at hJl
   refine pa [.v (.bool true), .b true] rfl ?_ ?_
   ·(repeat' with_reducible apply AllP_cons) <;> first | exact aC | skip
    exact hLet _
   refine S_while (α := Nat) (fun j => [(0, .ptr 0 v 0), (3, .int .i64 i)]) (fun j => rsH v u w s j o ins out) (fun j => i ≤ j ∧ j ≤ s.length ∧ stopAt (fun c => isLet c || isDg c) s j = J) (fun j => s.length - j) i
    ⟨Nat.le_refl _, by show i ≤ s.length; omega, hJ.symm⟩ (.cons rfl (.cons rfl (.nil _))) rfl ?_
   rintro j ⟨h1, h2, h3⟩
   have h1 : i ≤ j := h1
   have h2 : j ≤ s.length := h2
   have hwj : IntKind.i64.wrap ((j : Nat) + 1) = ((j + 1 : Nat) : Int) := by rw [IntWalk.i64_in _ ⟨by omega, by omega⟩]; omega
   have hcut : cutL (some ((i : Nat) : Int)) (some ((J : Nat) : Int)) s = t := by
    rw [ht]; show (s.take ((J : Nat) : Int).toNat).drop ((i : Nat) : Int).toNat = _
    rw [Int.toNat_natCast, Int.toNat_natCast]; rfl
   have hJ2 : ((i : Nat) : Int) ≤ ((J : Nat) : Int) ∧ ((J : Nat) : Int) ≤ ((s.length : Nat) : Int) := by omega
   by_cases hlt : j < s.length
   ·have hgj : (((s.getD ((j : Nat) : Int).toNat 0).toNat : Nat) : Int) = ((s[j].toNat : Nat) : Int) := by rw [Int.toNat_natCast, getD_byte hlt]
    have hj2 : (0 : Int) ≤ ((j : Nat) : Int) ∧ ((j : Nat) : Int) < ((s.length : Nat) : Int) := by omega
    have hL := fun σ => letA s[j] _ σ hgj
    have hD := fun σ => digA s[j] _ σ hgj
    by_cases l1 : isLet s[j] = true
    ·rw [l1] at hL
     refine pa [.b true, .v (.bool true), .b true, .b true] rfl ?_ ?_
     ·(repeat' with_reducible apply AllP_cons) <;> first | exact aC | skip
      exact hL _
     refine S_round (j + 1) (by show s.length - (j + 1) < s.length - j; omega) ⟨by show i ≤ j + 1; omega, hlt, by rw [← h3]; exact (stopAt_yes hlt (by rw [l1]; rfl)).symm⟩ (.cons rfl (.cons rfl (.nil _))) ?_
     show rsA v u w s (IntKind.i64.wrap ((j : Nat) + 1)) (o : Nat) ins out = _
     rw [hwj]; rfl
    ·rw [Bool.not_eq_true] at l1
     rw [l1] at hL
     by_cases l2 : isDg s[j] = true
     ·rw [l2] at hD
      refine pa [.b true, .v (.bool false), .b false, .v (.bool true), .b true] rfl ?_ ?_
      ·(repeat' with_reducible apply AllP_cons) <;> first | exact aC | skip
       ·exact hL _
       ·exact hD _
      refine S_round (j + 1) (by show s.length - (j + 1) < s.length - j; omega) ⟨by show i ≤ j + 1; omega, hlt, by rw [← h3]; exact (stopAt_yes hlt (by rw [l2, l1]; rfl)).symm⟩ (.cons rfl (.cons rfl (.nil _))) ?_
      show rsA v u w s (IntKind.i64.wrap ((j : Nat) + 1)) (o : Nat) ins out = _
      rw [hwj]; rfl
     ·rw [Bool.not_eq_true] at l2
      rw [l2] at hD
      have hjJ : j = J := by rw [← h3]; exact (stopAt_no hlt (by rw [l1, l2]; rfl)).symm
      subst hjJ
      have hW : ∀ σ, ∃ args', Calc cx 93 args' (.bool (decide (t ∈ words14))) ∧ Frzs σ [.str (cutL (some ((i : Nat) : Int)) (some ((j : Nat) : Int)) s)] args' := fun σ => by
       rw [hcut]; exact ⟨_, IsSourceWord_ok t, .cons (.refl .str) (.nil _)⟩
      have hp : ∀ k : Nat, CallOk cx 62 [.ptr 0 v 0, .int .i64 k, .str (cutL (some ((i : Nat) : Int)) (some ((j : Nat) : Int)) s), .int .i64 i] (rsH v u w s j o ins out) (fun e σ => e = .ret (.tup []) ∧ σ = rsH v u (w + 1) s j o ins (out ++ [⟨k, t, 0, i⟩])) := fun k => by
       rw [hcut]; exact rputH v u w s j o ins out k t i (by omega)
      by_cases hm : t ∈ words14
      ·rw [if_pos hm]
       rw [decide_eq_true hm] at hW
       refine pa [.b true, .v (.bool false), .b false, .v (.bool false), .b false, .v (.bool true), .b true, .c (.tup []) (rsH v u (w + 1) s j o ins (out ++ [⟨5, t, 0, i⟩]))] rfl ?_ ?_
       ·(repeat' with_reducible apply AllP_cons) <;> first | exact aC | skip
        all_goals first | exact hL _ | exact hD _ | exact hW _ | exact hp 5
       exact S_ret ⟨_, _, rfl, trivial, u, w + 1, rfl, rfl⟩
      ·rw [if_neg hm]
       rw [decide_eq_false hm] at hW
       refine pa [.b true, .v (.bool false), .b false, .v (.bool false), .b false, .v (.bool false), .b false, .c (.tup []) (rsH v u (w + 1) s j o ins (out ++ [⟨1, t, 0, i⟩]))] rfl ?_ ?_
       ·(repeat' with_reducible apply AllP_cons) <;> first | exact aC | skip
        all_goals first | exact hL _ | exact hD _ | exact hW _ | exact hp 1
       exact S_ret ⟨_, _, rfl, trivial, u, w + 1, rfl, rfl⟩
   ·have hjJ : j = J := by rw [← h3]; exact (stopAt_end (by omega)).symm
    subst hjJ
    have hL := hLet
    have hD := hDig
    have hW : ∀ σ, ∃ args', Calc cx 93 args' (.bool (decide (t ∈ words14))) ∧ Frzs σ [.str (cutL (some ((i : Nat) : Int)) (some ((j : Nat) : Int)) s)] args' := fun σ => by
     rw [hcut]; exact ⟨_, IsSourceWord_ok t, .cons (.refl .str) (.nil _)⟩
    have hp : ∀ k : Nat, CallOk cx 62 [.ptr 0 v 0, .int .i64 k, .str (cutL (some ((i : Nat) : Int)) (some ((j : Nat) : Int)) s), .int .i64 i] (rsH v u w s j o ins out) (fun e σ => e = .ret (.tup []) ∧ σ = rsH v u (w + 1) s j o ins (out ++ [⟨k, t, 0, i⟩])) := fun k => by
     rw [hcut]; exact rputH v u w s j o ins out k t i (by omega)
    by_cases hm : t ∈ words14
    ·rw [if_pos hm]
     rw [decide_eq_true hm] at hW
     refine pa [.b false, .b false, .v (.bool true), .b true, .c (.tup []) (rsH v u (w + 1) s j o ins (out ++ [⟨5, t, 0, i⟩]))] rfl ?_ ?_
     ·(repeat' with_reducible apply AllP_cons) <;> first | exact aC | skip
      all_goals first | exact hL _ | exact hD _ | exact hW _ | exact hp 5
     exact S_ret ⟨_, _, rfl, trivial, u, w + 1, rfl, rfl⟩
    ·rw [if_neg hm]
     rw [decide_eq_false hm] at hW
     refine pa [.b false, .b false, .v (.bool false), .b false, .c (.tup []) (rsH v u (w + 1) s j o ins (out ++ [⟨1, t, 0, i⟩]))] rfl ?_ ?_
     ·(repeat' with_reducible apply AllP_cons) <;> first | exact aC | skip
      all_goals first | exact hL _ | exact hD _ | exact hW _ | exact hp 1
     exact S_ret ⟨_, _, rfl, trivial, u, w + 1, rfl, rfl⟩
  ·exact absurd c0 c1
theorem oneDig_ok (v u w : Nat) (s : List UInt8) (i o : Nat) (ins : List Nat) (out : List Tok) (hi : i < s.length) (hs : s.length ≤ 1048576) (ho : o ≤ 30) (hl : out.length ≤ 900000) (c1 : ¬ isLet s[i] = true) (c2 : isDg s[i] = true) :
  CallOk cx 61 [.ptr 0 v 0] (rsH v u w s i o ins out) (RsEnd s (endS (oneS s i o) ins out) v) :=
 callOk_intro (fun a w => Tryz.call61 a w) Tryz.func61 rfl Tryz.ntmps61 rfl fun B => by
  have hgc : (((s.getD ((i : Nat) : Int).toNat 0).toNat : Nat) : Int) = ((s[i].toNat : Nat) : Int) := by rw [Int.toNat_natCast, getD_byte hi]
  have hi2 : (0 : Int) ≤ ((i : Nat) : Int) ∧ ((i : Nat) : Int) < ((s.length : Nat) : Int) := by omega
  have hgd : s.getD i 0 = s[i] := getD_byte hi
  have letA : ∀ (c : UInt8) (x : Int) σ, x = ((c.toNat : Nat) : Int) → ∃ args', Calc cx 91 args' (.bool (isLet c)) ∧ Frzs σ [.int .u8 x] args' := fun c x σ h => by
   rw [h]; exact ⟨_, IsLetterByte_ok c, .cons (.refl .int) (.nil _)⟩
  have digA : ∀ (c : UInt8) (x : Int) σ, x = ((c.toNat : Nat) : Int) → ∃ args', Calc cx 92 args' (.bool (isDg c)) ∧ Frzs σ [.int .u8 x] args' := fun c x σ h => by
   rw [h]; exact ⟨_, IsDigitByte_ok c, .cons (.refl .int) (.nil _)⟩
  have hLet := fun σ => letA s[i] _ σ hgc
  have hDig := fun σ => digA s[i] _ σ hgc
  unfold oneS
  rw [hgd]
  ·rw [if_neg c1]
   rw [Bool.not_eq_true] at c1
   rw [c1] at hLet
   ·rw [if_pos c2]
    rw [c2] at hDig
    obtain ⟨J, hJ⟩ : ∃ J, J = stopAt isDg s i := ⟨_, rfl⟩
    obtain ⟨t, ht⟩ : ∃ t, t = cutT s i J := ⟨_, rfl⟩
    have hJl := stopAt_lt (p := isDg) hi (by rw [hgd]; exact c2)
    rw [← hJ, ← ht]
    rw [← hJ] at hJl
    refine pa [.v (.bool false), .b false, .v (.bool true), .b true] rfl ?_ ?_
    ·(repeat' with_reducible apply AllP_cons) <;> first | exact aC | skip
     ·exact hLet _
     ·exact hDig _
    refine S_while (α := Nat × Nat) (fun (j, n) => [(0, .ptr 0 v 0), (3, .int .i64 i), (4, .int .u8 (((s.getD ((i : Nat) : Int).toNat 0).toNat : Nat) : Int)), (6, .int .i64 n)]) (fun (j, n) => rsH v u w s j o ins out) (fun (j, n) => i ≤ j ∧ j ≤ s.length ∧ stopAt isDg s j = J ∧ NatR (cutT s i j) n) (fun (j, n) => s.length - j) (i, 0)
     ⟨Nat.le_refl _, by omega, hJ.symm, by have : cutT s i i = [] := (by simp [cutT]); rw [this]; exact ⟨fun _ => rfl, fun h => absurd h (by decide), by decide⟩⟩ (.cons rfl (.cons rfl (.cons rfl (.cons rfl (.nil _))))) rfl ?_
    rintro ⟨j, n⟩ ⟨h1, h2, h3, hn⟩
    have h1 : i ≤ j := h1
    have h2 : j ≤ s.length := h2
    show S cx _ B _ _ [(0, .ptr 0 v 0), (3, .int .i64 i), (4, .int .u8 (((s.getD ((i : Nat) : Int).toNat 0).toNat : Nat) : Int)), (6, .int .i64 n)] (rsH v u w s j o ins out)
    have hwj : IntKind.i64.wrap ((j : Nat) + 1) = ((j + 1 : Nat) : Int) := by rw [IntWalk.i64_in _ ⟨by omega, by omega⟩]; omega
    have hcut : cutL (some ((i : Nat) : Int)) (some ((J : Nat) : Int)) s = t := by
     rw [ht]; show (s.take ((J : Nat) : Int).toNat).drop ((i : Nat) : Int).toNat = _
     rw [Int.toNat_natCast, Int.toNat_natCast]; rfl
    have hJ2 : ((i : Nat) : Int) ≤ ((J : Nat) : Int) ∧ ((J : Nat) : Int) ≤ ((s.length : Nat) : Int) := by omega
    by_cases hgo : ∃ h : j < s.length, isDg s[j] = true
    ·obtain ⟨hlt, l2⟩ := hgo
     have hgj : (((s.getD ((j : Nat) : Int).toNat 0).toNat : Nat) : Int) = ((s[j].toNat : Nat) : Int) := by rw [Int.toNat_natCast, getD_byte hlt]
     have hj2 : (0 : Int) ≤ ((j : Nat) : Int) ∧ ((j : Nat) : Int) < ((s.length : Nat) : Int) := by omega
     have hD := fun σ => digA s[j] _ σ hgj
     rw [l2] at hD
     have hd : 48 ≤ s[j].toNat ∧ s[j].toNat ≤ 57 := by simpa [isDg] using l2
     have hsn : cutT s i (j + 1) = cutT s i j ++ [s[j]] := by
      rw [cutT, List.take_succ_eq_append_getElem hlt, List.drop_append_of_le_length (by simp; omega)]; rfl
     have hst : stopAt isDg s (j + 1) = J := by rw [← h3]; exact (stopAt_yes hlt l2).symm
     by_cases hsm : n ≤ 9007199254740991
     ·refine pa [.b true, .v (.bool true), .b true, .b true] rfl ?_ ?_
      ·(repeat' with_reducible apply AllP_cons) <;> first | exact aC | skip
       exact hD _
      refine S_round (j + 1, 10 * n + s[j].toNat - 48) (by show s.length - (j + 1) < s.length - j; omega) ⟨by show i ≤ j + 1; omega, hlt, hst, ?_⟩ (.cons rfl (.cons rfl (.cons rfl (.cons ?_ (.nil _))))) ?_
      ·show NatR (cutT s i (j + 1)) (10 * n + s[j].toNat - 48)
       obtain ⟨q1, q2, q3⟩ := hn
       rw [hsn]
       refine ⟨fun h => ?_, fun h => ?_, by omega⟩
       ·rw [natOf_snoc] at h ⊢
        have := q1 (by omega)
        omega
       ·rw [natOf_snoc] at h
        by_cases hq : natOf (cutT s i j) ≤ 9007199254740991
        ·have := q1 hq; omega
        ·have := q2 (by omega); omega
      ·show AV.int .i64 (IntKind.i64.wrap (IntKind.i64.wrap (IntKind.i64.wrap (10 * ((n : Nat) : Int)) + IntKind.i64.wrap (((s.getD ((j : Nat) : Int).toNat 0).toNat : Nat) : Int)) - 48)) = .int .i64 ((10 * n + s[j].toNat - 48 : Nat) : Int)
       rw [hgj, IntWalk.i64_in (10 * ((n : Nat) : Int)) ⟨by omega, by omega⟩, IntWalk.i64_in ((s[j].toNat : Nat) : Int) ⟨by omega, by omega⟩, IntWalk.i64_in (10 * ((n : Nat) : Int) + _) ⟨by omega, by omega⟩, IntWalk.i64_in _ ⟨by omega, by omega⟩]
       congr 1; omega
      ·show rsA v u w s (IntKind.i64.wrap ((j : Nat) + 1)) (o : Nat) ins out = _
       rw [hwj]; rfl
     ·refine pa [.b true, .v (.bool true), .b true, .b false] rfl ?_ ?_
      ·(repeat' with_reducible apply AllP_cons) <;> first | exact aC | skip
       exact hD _
      refine S_round (j + 1, n) (by show s.length - (j + 1) < s.length - j; omega) ⟨by show i ≤ j + 1; omega, hlt, hst, ?_⟩ (.cons rfl (.cons rfl (.cons rfl (.cons rfl (.nil _))))) ?_
      ·show NatR (cutT s i (j + 1)) n
       obtain ⟨q1, q2, q3⟩ := hn
       rw [hsn]
       refine ⟨fun h => ?_, fun h => by omega, q3⟩
       rw [natOf_snoc] at h
       have := q1 (by omega)
       omega
      ·show rsA v u w s (IntKind.i64.wrap ((j : Nat) + 1)) (o : Nat) ins out = _
       rw [hwj]; rfl
    ·have hjJ : j = J := by
      by_cases hlt : j < s.length
      ·have l2 : isDg s[j] = false := by
        cases e : isDg s[j] with
        | false => rfl
        | true => exact absurd ⟨hlt, e⟩ hgo
       rw [← h3]; exact (stopAt_no hlt l2).symm
      ·rw [← h3]; exact (stopAt_end (by omega)).symm
     subst hjJ
     rw [← ht] at hn
     refine' S_shareO [(0, .ptr 0 v 0), (3, .int .i64 i), (4, .int .u8 (((s.getD ((i : Nat) : Int).toNat 0).toNat : Nat) : Int)), (6, .int .i64 n), (186, .bool (decide (((n : Nat) : Int) > 9007199254740991)))] (rsH v u w s j o ins out) (fun cont => ?main) ?rest
     case main =>
      by_cases hlt : j < s.length
      ·have hgj : (((s.getD ((j : Nat) : Int).toNat 0).toNat : Nat) : Int) = ((s[j].toNat : Nat) : Int) := by rw [Int.toNat_natCast, getD_byte hlt]
       have hj2 : (0 : Int) ≤ ((j : Nat) : Int) ∧ ((j : Nat) : Int) < ((s.length : Nat) : Int) := by omega
       have hD := fun σ => digA s[j] _ σ hgj
       have l2 : isDg s[j] = false := by
        cases e : isDg s[j] with
        | false => rfl
        | true => exact absurd ⟨hlt, e⟩ hgo
       rw [l2] at hD
       refine pa [.b true, .v (.bool false), .b false] rfl ?_ ?_
       ·(repeat' with_reducible apply AllP_cons) <;> first | exact aC | skip
        exact hD _
       exact cont _ (.cons rfl (.cons rfl (.cons rfl (.cons rfl (.cons rfl (.nil _))))))
      ·refine pa [.b false, .b false] rfl ?_ ?_
       ·(repeat' with_reducible apply AllP_cons) <;> first | exact aC | skip
       exact cont _ (.cons rfl (.cons rfl (.cons rfl (.cons rfl (.cons rfl (.nil _))))))
     case rest =>
      have hnr := hn
      by_cases hb : 9007199254740991 < natOf t
      ·rw [if_pos (.inl hb)]
       have hbig := hnr.2.1 hb
       refine pa [.b true, .b true] rfl ?_ ?_
       ·(repeat' with_reducible apply AllP_cons) <;> first | exact aC | skip
       exact S_ret ⟨_, _, rfl, trivial, rfl, u, w, o, ins, out, rfl⟩
      ·have hnn : n = natOf t := hnr.1 (by omega)
       have hsm : n ≤ 9007199254740991 := by omega
       by_cases z : s[i] = 48
       ·have ez : ((((s.getD ((i : Nat) : Int).toNat 0).toNat : Nat) : Int) == 48) = true := by rw [hgc, z]; rfl
        by_cases z2 : i + 1 < j
        ·rw [if_pos (.inr ⟨z, z2⟩)]
         have ew : decide (((j : Nat) : Int) > IntKind.i64.wrap (((i : Nat) : Int) + 1)) = true := by rw [IntWalk.i64_in _ ⟨by omega, by omega⟩]; exact decide_eq_true (by omega)
         refine pa [.b false, .b true, .b true] rfl ?_ ?_
         ·(repeat' with_reducible apply AllP_cons) <;> first | exact aC | skip
         exact S_ret ⟨_, _, rfl, trivial, rfl, u, w, o, ins, out, rfl⟩
        ·rw [if_neg (by rintro (h | ⟨_, h⟩); exact hb h; exact z2 h)]
         have ew : decide (((j : Nat) : Int) > IntKind.i64.wrap (((i : Nat) : Int) + 1)) = false := by rw [IntWalk.i64_in _ ⟨by omega, by omega⟩]; exact decide_eq_false (by omega)
         refine pa [.b false, .b true, .b false] rfl ?_ ?_
         ·(repeat' with_reducible apply AllP_cons) <;> first | exact aC | skip
         refine S_drawCN [rsB v s j o (insV u ins) (outV w out), insB u ins, (w + 1, some (Box.cells (out.flatMap tokC ++ [.int .i64 2, .str (cutL (some ((i : Nat) : Int)) (some ((j : Nat) : Int)) s), .int .i64 (n : Nat), .int .i64 i]) ⟨false, none⟩))] 19 22 [] [.ms 2 (w + 1) 0 (out.length + 1) 4 false] rfl rfl rfl rfl rfl ?_ ?_
         ·(repeat' with_reducible apply AllP_cons) <;> first | exact aC | skip
          ·show 0 + out.length * 4 = _; rw [tokC_len]; omega
          ·show (out.length + 1) * 40 ≤ 140737488355328; omega
         refine pa [] rfl ?_ ?_
         ·(repeat' with_reducible apply AllP_cons) <;> first | exact aC | skip
         refine S_ret ⟨_, _, rfl, trivial, u, w + 1, rfl, ?_⟩
         show [rsB v s j o (insV u ins) (.ms 2 (w + 1) 0 (out.length + 1) 4 false), insB u ins, (w + 1, some (Box.cells (out.flatMap tokC ++ [.int .i64 2, .str (cutL (some ((i : Nat) : Int)) (some ((j : Nat) : Int)) s), .int .i64 (n : Nat), .int .i64 i]) ⟨false, none⟩))] = _
         rw [hcut, hnn]
         unfold rsH outV outB
         rw [List.length_append, List.flatMap_append]; rfl
       ·rw [if_neg (by rintro (h | ⟨h, _⟩); exact hb h; exact z h)]
        have ez : ((((s.getD ((i : Nat) : Int).toNat 0).toNat : Nat) : Int) == 48) = false := by rw [hgc]; exact beq_false_of_ne (fun h => z (UInt8.toNat_inj.1 (by show s[i].toNat = 48; omega)))
        refine pa [.b false, .b false, .b false] rfl ?_ ?_
        ·(repeat' with_reducible apply AllP_cons) <;> first | exact aC | skip
        refine S_drawCN [rsB v s j o (insV u ins) (outV w out), insB u ins, (w + 1, some (Box.cells (out.flatMap tokC ++ [.int .i64 2, .str (cutL (some ((i : Nat) : Int)) (some ((j : Nat) : Int)) s), .int .i64 (n : Nat), .int .i64 i]) ⟨false, none⟩))] 19 22 [] [.ms 2 (w + 1) 0 (out.length + 1) 4 false] rfl rfl rfl rfl rfl ?_ ?_
        ·(repeat' with_reducible apply AllP_cons) <;> first | exact aC | skip
         ·show 0 + out.length * 4 = _; rw [tokC_len]; omega
         ·show (out.length + 1) * 40 ≤ 140737488355328; omega
        refine pa [] rfl ?_ ?_
        ·(repeat' with_reducible apply AllP_cons) <;> first | exact aC | skip
        refine S_ret ⟨_, _, rfl, trivial, u, w + 1, rfl, ?_⟩
        show [rsB v s j o (insV u ins) (.ms 2 (w + 1) 0 (out.length + 1) 4 false), insB u ins, (w + 1, some (Box.cells (out.flatMap tokC ++ [.int .i64 2, .str (cutL (some ((i : Nat) : Int)) (some ((j : Nat) : Int)) s), .int .i64 (n : Nat), .int .i64 i]) ⟨false, none⟩))] = _
        rw [hcut, hnn]
        unfold rsH outV outB
        rw [List.length_append, List.flatMap_append]; rfl
theorem oneSig_ok (v u w : Nat) (s : List UInt8) (i o : Nat) (ins : List Nat) (out : List Tok) (hi : i < s.length) (hs : s.length ≤ 1048576) (ho : o ≤ 30) (hl : out.length ≤ 900000) (c1 : ¬ isLet s[i] = true) (c2 : ¬ isDg s[i] = true) :
  CallOk cx 61 [.ptr 0 v 0] (rsH v u w s i o ins out) (RsEnd s (endS (oneS s i o) ins out) v) :=
 callOk_intro (fun a w => Tryz.call61 a w) Tryz.func61 rfl Tryz.ntmps61 rfl fun B => by
  have hgc : (((s.getD ((i : Nat) : Int).toNat 0).toNat : Nat) : Int) = ((s[i].toNat : Nat) : Int) := by rw [Int.toNat_natCast, getD_byte hi]
  have hi2 : (0 : Int) ≤ ((i : Nat) : Int) ∧ ((i : Nat) : Int) < ((s.length : Nat) : Int) := by omega
  have hgd : s.getD i 0 = s[i] := getD_byte hi
  have letA : ∀ (c : UInt8) (x : Int) σ, x = ((c.toNat : Nat) : Int) → ∃ args', Calc cx 91 args' (.bool (isLet c)) ∧ Frzs σ [.int .u8 x] args' := fun c x σ h => by
   rw [h]; exact ⟨_, IsLetterByte_ok c, .cons (.refl .int) (.nil _)⟩
  have digA : ∀ (c : UInt8) (x : Int) σ, x = ((c.toNat : Nat) : Int) → ∃ args', Calc cx 92 args' (.bool (isDg c)) ∧ Frzs σ [.int .u8 x] args' := fun c x σ h => by
   rw [h]; exact ⟨_, IsDigitByte_ok c, .cons (.refl .int) (.nil _)⟩
  have hLet := fun σ => letA s[i] _ σ hgc
  have hDig := fun σ => digA s[i] _ σ hgc
  unfold oneS
  rw [hgd]
  ·rw [if_neg c1]
   rw [Bool.not_eq_true] at c1
   rw [c1] at hLet
   ·rw [if_neg c2]
    rw [Bool.not_eq_true] at c2
    rw [c2] at hDig
    by_cases c3 : s[i] = 34
    ·rw [if_pos c3]
     have e3 : ((((s.getD ((i : Nat) : Int).toNat 0).toNat : Nat) : Int) == 34) = true := by rw [hgc, c3]; rfl
     refine pa [.v (.bool false), .b false, .v (.bool false), .b false, .b true] rfl ?_ ?_
     ·(repeat' with_reducible apply AllP_cons) <;> first | exact aC | skip
      ·exact hLet _
      ·exact hDig _
     refine S_call rfl rfl rfl (quoted_ok v u w s i o ins out hi hs hl) (fun r σ' h => ?_) (fun r σ' h => ?_)
     ·obtain ⟨m, rfl⟩ := h.ret0
      refine pa [] rfl trivial ?_
      exact S_ret ⟨_, _, rfl, trivial, h⟩
     ·unfold RsEnd at h
      split at h
      ·cases h.1
      ·obtain ⟨_, _, h, _⟩ := h; cases h
    ·rw [if_neg c3]
     have e3 : ((((s.getD ((i : Nat) : Int).toNat 0).toNat : Nat) : Int) == 34) = false := by rw [hgc]; exact beq_false_of_ne (fun h => c3 (UInt8.toNat_inj.1 (by show s[i].toNat = 34; omega)))
     have hSg : ∀ σ, ∃ args', Calc cx 95 args' (.str ((signAt s i).getD [])) ∧ Frzs σ [.str s, .int .i64 i] args' := fun σ => ⟨_, SignAt_ok s i hi hs, .cons (.refl .str) (.cons (.refl .int) (.nil _))⟩
     have hw1 : IntKind.i64.wrap ((o : Nat) + 1) = ((o + 1 : Nat) : Int) := by rw [IntWalk.i64_in _ ⟨by omega, by omega⟩]; omega
     cases hsg : signAt s i with
     | none =>
      rw [hsg] at hSg
      refine pa [.v (.bool false), .b false, .v (.bool false), .b false, .b false, .v (.str []), .b true] rfl ?_ ?_
      ·(repeat' with_reducible apply AllP_cons) <;> first | exact aC | skip
       ·exact hLet _
       ·exact hDig _
       ·exact hSg _
      exact S_ret ⟨_, _, rfl, trivial, rfl, u, w, o, ins, out, rfl⟩
     | some t =>
      rw [hsg] at hSg
      simp only [Option.getD_some] at hSg
      have htl := signAt_le hsg
      have hwt : IntKind.i64.wrap ((i : Nat) + ((t.length : Nat) : Int)) = ((i + t.length : Nat) : Int) := by rw [IntWalk.i64_in _ ⟨by omega, by omega⟩]; omega
      have ht0 : (t == []) = false := beq_false_of_ne (fun h => by rw [h] at htl; simp at htl; omega)
      refine pa [.v (.bool false), .b false, .v (.bool false), .b false, .b false, .v (.str t)] rfl ?_ ?_
      ·(repeat' with_reducible apply AllP_cons) <;> first | exact aC | skip
       ·exact hLet _
       ·exact hDig _
       ·exact hSg _
      simp only
      by_cases q0 : t = [40]
      ·subst q0
       rw [if_pos (by decide)]
       by_cases o1 : 30 ≤ o
       ·rw [if_pos o1]
        refine pa [.b false, .b true, .b true, .b true] rfl ?_ ?_
        ·(repeat' with_reducible apply AllP_cons) <;> first | exact aC | skip
        exact S_ret ⟨_, _, rfl, trivial, rfl, u, w, o, ins, out, rfl⟩
       ·rw [if_neg o1]
        refine pa [.b false, .b true, .b true, .b false] rfl ?_ ?_
        ·(repeat' with_reducible apply AllP_cons) <;> first | exact aC | skip
        refine S_heap (rsH v u w s i (o + 1) ins out) ?_ ?_
        ·show rsA v u w s i (IntKind.i64.wrap ((o : Nat) + 1)) ins out = _
         rw [hw1]; rfl
        refine pa [.c (.tup []) (rsH v u (w + 1) s i (o + 1) ins (out ++ [⟨4, ([40] : List UInt8), 0, i⟩]))] rfl ?_ ?_
        ·(repeat' with_reducible apply AllP_cons) <;> first | exact aC | skip
         exact rputH v u w s i (o + 1) ins out 4 ([40] : List UInt8) i (by omega)
        refine S_heap (rsH v u (w + 1) s (i + ([40] : List UInt8).length) (o + 1) ins (out ++ [⟨4, ([40] : List UInt8), 0, i⟩])) ?_ ?_
        ·show rsA v u (w + 1) s (IntKind.i64.wrap ((i : Nat) + ((([40] : List UInt8).length : Nat) : Int))) (((o + 1) : Nat) : Int) ins (out ++ [⟨4, ([40] : List UInt8), 0, i⟩]) = _
         rw [hwt]; rfl
        exact S_ret ⟨_, _, rfl, trivial, u, w + 1, rfl, rfl⟩
      have n0 : (t == [40]) = false := beq_false_of_ne q0
      by_cases q1 : t = [91]
      ·subst q1
       rw [if_pos (by decide)]
       by_cases o1 : 30 ≤ o
       ·rw [if_pos o1]
        refine pa [.b false, .b false, .b true, .b true, .b true] rfl ?_ ?_
        ·(repeat' with_reducible apply AllP_cons) <;> first | exact aC | skip
        exact S_ret ⟨_, _, rfl, trivial, rfl, u, w, o, ins, out, rfl⟩
       ·rw [if_neg o1]
        refine pa [.b false, .b false, .b true, .b true, .b false] rfl ?_ ?_
        ·(repeat' with_reducible apply AllP_cons) <;> first | exact aC | skip
        refine S_heap (rsH v u w s i (o + 1) ins out) ?_ ?_
        ·show rsA v u w s i (IntKind.i64.wrap ((o : Nat) + 1)) ins out = _
         rw [hw1]; rfl
        refine pa [.c (.tup []) (rsH v u (w + 1) s i (o + 1) ins (out ++ [⟨4, ([91] : List UInt8), 0, i⟩]))] rfl ?_ ?_
        ·(repeat' with_reducible apply AllP_cons) <;> first | exact aC | skip
         exact rputH v u w s i (o + 1) ins out 4 ([91] : List UInt8) i (by omega)
        refine S_heap (rsH v u (w + 1) s (i + ([91] : List UInt8).length) (o + 1) ins (out ++ [⟨4, ([91] : List UInt8), 0, i⟩])) ?_ ?_
        ·show rsA v u (w + 1) s (IntKind.i64.wrap ((i : Nat) + ((([91] : List UInt8).length : Nat) : Int))) (((o + 1) : Nat) : Int) ins (out ++ [⟨4, ([91] : List UInt8), 0, i⟩]) = _
         rw [hwt]; rfl
        exact S_ret ⟨_, _, rfl, trivial, u, w + 1, rfl, rfl⟩
      have n1 : (t == [91]) = false := beq_false_of_ne q1
      by_cases q2 : t = [123]
      ·subst q2
       rw [if_pos (by decide)]
       by_cases o1 : 30 ≤ o
       ·rw [if_pos o1]
        refine pa [.b false, .b false, .b false, .b true, .b true] rfl ?_ ?_
        ·(repeat' with_reducible apply AllP_cons) <;> first | exact aC | skip
        exact S_ret ⟨_, _, rfl, trivial, rfl, u, w, o, ins, out, rfl⟩
       ·rw [if_neg o1]
        refine pa [.b false, .b false, .b false, .b true, .b false] rfl ?_ ?_
        ·(repeat' with_reducible apply AllP_cons) <;> first | exact aC | skip
        refine S_heap (rsH v u w s i (o + 1) ins out) ?_ ?_
        ·show rsA v u w s i (IntKind.i64.wrap ((o : Nat) + 1)) ins out = _
         rw [hw1]; rfl
        refine pa [.c (.tup []) (rsH v u (w + 1) s i (o + 1) ins (out ++ [⟨4, ([123] : List UInt8), 0, i⟩]))] rfl ?_ ?_
        ·(repeat' with_reducible apply AllP_cons) <;> first | exact aC | skip
         exact rputH v u w s i (o + 1) ins out 4 ([123] : List UInt8) i (by omega)
        refine S_heap (rsH v u (w + 1) s (i + ([123] : List UInt8).length) (o + 1) ins (out ++ [⟨4, ([123] : List UInt8), 0, i⟩])) ?_ ?_
        ·show rsA v u (w + 1) s (IntKind.i64.wrap ((i : Nat) + ((([123] : List UInt8).length : Nat) : Int))) (((o + 1) : Nat) : Int) ins (out ++ [⟨4, ([123] : List UInt8), 0, i⟩]) = _
         rw [hwt]; rfl
        exact S_ret ⟨_, _, rfl, trivial, u, w + 1, rfl, rfl⟩
      have n2 : (t == [123]) = false := beq_false_of_ne q2
      rw [if_neg (by rw [opens_iff]; rintro (h | h | h); exact q0 h; exact q1 h; exact q2 h)]
      by_cases q3 : t = [41]
      ·subst q3
       rw [if_pos (by decide)]
       by_cases o1 : o = 0
       ·rw [if_pos o1]
        refine pa [.b false, .b false, .b false, .b false, .b true, .b true, .b true] rfl ?_ ?_
        ·(repeat' with_reducible apply AllP_cons) <;> first | exact aC | skip
        exact S_ret ⟨_, _, rfl, trivial, rfl, u, w, o, ins, out, rfl⟩
       ·rw [if_neg o1]
        have hwm : IntKind.i64.wrap ((o : Nat) - 1) = ((o - 1 : Nat) : Int) := by rw [IntWalk.i64_in _ ⟨by omega, by omega⟩]; omega
        refine pa [.b false, .b false, .b false, .b false, .b true, .b true, .b false] rfl ?_ ?_
        ·(repeat' with_reducible apply AllP_cons) <;> first | exact aC | skip
        refine S_heap (rsH v u w s i (o - 1) ins out) ?_ ?_
        ·show rsA v u w s i (IntKind.i64.wrap ((o : Nat) - 1)) ins out = _
         rw [hwm]; rfl
        refine pa [.c (.tup []) (rsH v u (w + 1) s i (o - 1) ins (out ++ [⟨4, ([41] : List UInt8), 0, i⟩]))] rfl ?_ ?_
        ·(repeat' with_reducible apply AllP_cons) <;> first | exact aC | skip
         exact rputH v u w s i (o - 1) ins out 4 ([41] : List UInt8) i (by omega)
        refine S_heap (rsH v u (w + 1) s (i + ([41] : List UInt8).length) (o - 1) ins (out ++ [⟨4, ([41] : List UInt8), 0, i⟩])) ?_ ?_
        ·show rsA v u (w + 1) s (IntKind.i64.wrap ((i : Nat) + ((([41] : List UInt8).length : Nat) : Int))) (((o - 1) : Nat) : Int) ins (out ++ [⟨4, ([41] : List UInt8), 0, i⟩]) = _
         rw [hwt]; rfl
        exact S_ret ⟨_, _, rfl, trivial, u, w + 1, rfl, rfl⟩
      have n3 : (t == [41]) = false := beq_false_of_ne q3
      by_cases q4 : t = [93]
      ·subst q4
       rw [if_pos (by decide)]
       by_cases o1 : o = 0
       ·rw [if_pos o1]
        refine pa [.b false, .b false, .b false, .b false, .b false, .b true, .b true, .b true] rfl ?_ ?_
        ·(repeat' with_reducible apply AllP_cons) <;> first | exact aC | skip
        exact S_ret ⟨_, _, rfl, trivial, rfl, u, w, o, ins, out, rfl⟩
       ·rw [if_neg o1]
        have hwm : IntKind.i64.wrap ((o : Nat) - 1) = ((o - 1 : Nat) : Int) := by rw [IntWalk.i64_in _ ⟨by omega, by omega⟩]; omega
        refine pa [.b false, .b false, .b false, .b false, .b false, .b true, .b true, .b false] rfl ?_ ?_
        ·(repeat' with_reducible apply AllP_cons) <;> first | exact aC | skip
        refine S_heap (rsH v u w s i (o - 1) ins out) ?_ ?_
        ·show rsA v u w s i (IntKind.i64.wrap ((o : Nat) - 1)) ins out = _
         rw [hwm]; rfl
        refine pa [.c (.tup []) (rsH v u (w + 1) s i (o - 1) ins (out ++ [⟨4, ([93] : List UInt8), 0, i⟩]))] rfl ?_ ?_
        ·(repeat' with_reducible apply AllP_cons) <;> first | exact aC | skip
         exact rputH v u w s i (o - 1) ins out 4 ([93] : List UInt8) i (by omega)
        refine S_heap (rsH v u (w + 1) s (i + ([93] : List UInt8).length) (o - 1) ins (out ++ [⟨4, ([93] : List UInt8), 0, i⟩])) ?_ ?_
        ·show rsA v u (w + 1) s (IntKind.i64.wrap ((i : Nat) + ((([93] : List UInt8).length : Nat) : Int))) (((o - 1) : Nat) : Int) ins (out ++ [⟨4, ([93] : List UInt8), 0, i⟩]) = _
         rw [hwt]; rfl
        exact S_ret ⟨_, _, rfl, trivial, u, w + 1, rfl, rfl⟩
      have n4 : (t == [93]) = false := beq_false_of_ne q4
      by_cases q5 : t = [125]
      ·subst q5
       rw [if_pos (by decide)]
       by_cases o1 : o = 0
       ·rw [if_pos o1]
        refine pa [.b false, .b false, .b false, .b false, .b false, .b false, .b true, .b true] rfl ?_ ?_
        ·(repeat' with_reducible apply AllP_cons) <;> first | exact aC | skip
        exact S_ret ⟨_, _, rfl, trivial, rfl, u, w, o, ins, out, rfl⟩
       ·rw [if_neg o1]
        have hwm : IntKind.i64.wrap ((o : Nat) - 1) = ((o - 1 : Nat) : Int) := by rw [IntWalk.i64_in _ ⟨by omega, by omega⟩]; omega
        refine pa [.b false, .b false, .b false, .b false, .b false, .b false, .b true, .b false] rfl ?_ ?_
        ·(repeat' with_reducible apply AllP_cons) <;> first | exact aC | skip
        refine S_heap (rsH v u w s i (o - 1) ins out) ?_ ?_
        ·show rsA v u w s i (IntKind.i64.wrap ((o : Nat) - 1)) ins out = _
         rw [hwm]; rfl
        refine pa [.c (.tup []) (rsH v u (w + 1) s i (o - 1) ins (out ++ [⟨4, ([125] : List UInt8), 0, i⟩]))] rfl ?_ ?_
        ·(repeat' with_reducible apply AllP_cons) <;> first | exact aC | skip
         exact rputH v u w s i (o - 1) ins out 4 ([125] : List UInt8) i (by omega)
        refine S_heap (rsH v u (w + 1) s (i + ([125] : List UInt8).length) (o - 1) ins (out ++ [⟨4, ([125] : List UInt8), 0, i⟩])) ?_ ?_
        ·show rsA v u (w + 1) s (IntKind.i64.wrap ((i : Nat) + ((([125] : List UInt8).length : Nat) : Int))) (((o - 1) : Nat) : Int) ins (out ++ [⟨4, ([125] : List UInt8), 0, i⟩]) = _
         rw [hwt]; rfl
        exact S_ret ⟨_, _, rfl, trivial, u, w + 1, rfl, rfl⟩
      have n5 : (t == [125]) = false := beq_false_of_ne q5
      rw [if_neg (by rw [closes_iff]; rintro (h | h | h); exact q3 h; exact q4 h; exact q5 h)]
      refine pa [.b false, .b false, .b false, .b false, .b false, .b false, .b false] rfl ?_ ?_
      ·(repeat' with_reducible apply AllP_cons) <;> first | exact aC | skip
      refine pa [.c (.tup []) (rsH v u (w + 1) s i o ins (out ++ [⟨4, t, 0, i⟩]))] rfl ?_ ?_
      ·(repeat' with_reducible apply AllP_cons) <;> first | exact aC | skip
       exact rputH v u w s i o ins out 4 t i (by omega)
      refine S_heap (rsH v u (w + 1) s (i + t.length) o ins (out ++ [⟨4, t, 0, i⟩])) ?_ ?_
      ·show rsA v u (w + 1) s (IntKind.i64.wrap ((i : Nat) + ((t.length : Nat) : Int))) ((o : Nat) : Int) ins (out ++ [⟨4, t, 0, i⟩]) = _
       rw [hwt]; rfl
      exact S_ret ⟨_, _, rfl, trivial, u, w + 1, rfl, rfl⟩
theorem one_ok (v u w : Nat) (s : List UInt8) (i o : Nat) (ins : List Nat) (out : List Tok) (hi : i < s.length) (hs : s.length ≤ 1048576) (ho : o ≤ 30) (hl : out.length ≤ 900000) :
  CallOk cx 61 [.ptr 0 v 0] (rsH v u w s i o ins out) (RsEnd s (endS (oneS s i o) ins out) v) := by
 by_cases c1 : isLet s[i] = true
 ·exact oneLet_ok v u w s i o ins out hi hs ho hl c1
 ·by_cases c2 : isDg s[i] = true
  ·exact oneDig_ok v u w s i o ins out hi hs ho hl c1 c2
  ·exact oneSig_ok v u w s i o ins out hi hs ho hl c1 c2
end Go.Proofs.YtonjhfeabphaaaaGreatDoor
end
section
set_option linter.unusedVariables false
set_option linter.unusedSimpArgs false
set_option maxRecDepth 20000
namespace Go.Proofs.YtonjhfeabphaaaaGreatDoor
open Go Go.Ab
theorem hasH (v u w : Nat) (s : List UInt8) (i o : Nat) (ins : List Nat) (out : List Tok) (c : UInt8) (hs : s.length ≤ 1048576) (t : Bool) (h : (s[i]? == some c) = t) :
  CallOk cx 60 [.ptr 0 v 0, .int .u8 (c.toNat : Nat)] (rsH v u w s i o ins out) (fun r σ => r = .ret (.bool t) ∧ σ = rsH v u w s i o ins out) := by
 rw [← h]; exact has_ok v u w _ _ s i o _ _ c hs
theorem gapH (v u w : Nat) (s : List UInt8) (i o : Nat) (ins : List Nat) (out : List Tok) (hi : i ≤ s.length) (hs : s.length ≤ 1048576) :
  CallOk cx 58 [.ptr 0 v 0] (rsH v u w s i o ins out) (fun r σ => r = .ret (.int .i64 (gapE s i - i : Nat)) ∧ σ = rsH v u w s (gapC s i) o ins out) :=
 gap_ok v u w _ _ s i o _ _ hi hs
def AlR (s : List UInt8) (x : Flt ⊕ List Tok) (v : Nat) : Out → Heap → Prop := fun e σ => match x with
 | .inl x => e = .ret (.int .i64 (x.1 : Nat)) ∧ ∃ u w o ins out, σ = rsH v u w s x.2 o ins out
 | .inr l => ∃ u w i o ins, e = .ret (.int .i64 0) ∧ σ = rsH v u w s i o ins l
theorem furS_err {n i : Nat} {ins : List Nat} {e : Flt} (h : furS n i ins = .inl e) : 0 < e.1 ∧ e.1 ≤ 4 := by
 unfold furS at h
 split at h
 ·split at h
  ·cases h; simp
  ·cases h
 ·split at h
  ·cases h
  ·cases h; simp
theorem oneS_err {s : List UInt8} {i o : Nat} {e : Flt} (h : oneS s i o = .inl e) : 0 < e.1 ∧ e.1 ≤ 4 := by
 unfold oneS at h
 split at h
 ·cases h
 ·split at h
  ·split at h
   ·cases h; simp
   ·cases h
  ·split at h
   ·split at h
    ·cases h; simp
    ·cases h
   ·split at h
    ·cases h; simp
    ·split at h
     ·split at h
      ·cases h; simp
      ·cases h
     ·split at h
      ·split at h
       ·cases h; simp
       ·cases h
      ·cases h
theorem oneS_at {s : List UInt8} {i o : Nat} {e : Flt} (hi : i < s.length) (h : oneS s i o = .inl e) : i ≤ e.2 ∧ e.2 ≤ s.length := by
 unfold oneS at h
 split at h
 ·cases h
 ·split at h
  ·split at h
   ·cases h; simp; omega
   ·cases h
  ·split at h
   ·split at h
    ·rename_i p hq
     cases h
     have := quoteS_ge _ _ (Nat.le_refl _) hq
     rw [List.length_drop] at this
     simp only; omega
    ·cases h
   ·split at h
    ·cases h; simp; omega
    ·split at h
     ·split at h
      ·cases h; simp; omega
      ·cases h
     ·split at h
      ·split at h
       ·cases h; simp; omega
       ·cases h
      ·cases h
structure MSt where
 ins : List Nat
 f : Nat
 j : Nat
 o : Nat
 u : Nat
 w : Nat
 out : List Tok
 er : Nat
theorem rall_ok (v u w : Nat) (s : List UInt8) (hs : s.length ≤ 6000) :
  CallOk cx 37 [.ptr 0 v 0] (rsH v u w s 0 0 [0] []) (AlR s (allF (s.length + 1) s 0 [0] []) v) :=
 callOk_intro (fun a w => Tryz.call37 a w) Tryz.func37 rfl Tryz.ntmps37 rfl fun B => by
  refine pa [] rfl trivial ?_
  refine S_while (α := ASt) (fun q => [(0, .ptr 0 v 0)]) (fun q => rsH v q.u q.w s q.i 0 q.ins q.out)
   (fun q => q.i ≤ s.length ∧ Insok q.ins ∧ q.ins.length ≤ 31 ∧ q.out.length + q.ins.length ≤ 4 * q.i + 1 ∧ s.length - q.i < q.f ∧ allF q.f s q.i q.ins q.out = allF (s.length + 1) s 0 [0] []) (fun q => q.f) ⟨s.length + 1, 0, u, w, [0], []⟩
   ⟨Nat.zero_le _, ⟨List.pairwise_singleton _ _, rfl⟩, lble rfl, lble rfl, by show s.length - 0 < s.length + 1; omega, rfl⟩ (.cons rfl (.nil _)) rfl ?_
  rintro ⟨f, i, u', w', ins, out⟩ ⟨h1, h2, h3, h4, h5, h6⟩
  simp only at h1 h2 h3 h4 h5 h6
  show S cx _ B _ _ [(0, .ptr 0 v 0)] (rsH v u' w' s i 0 ins out)
  obtain ⟨f, rfl⟩ : ∃ g, f = g + 1 := ⟨f - 1, by omega⟩
  rw [allF] at h6
  obtain ⟨J, hJ⟩ : ∃ J, J = gapC s i := ⟨_, rfl⟩
  have hg := gapC_le (s := s) (i := i) h1
  have hgp := gapH v u' w' s i 0 ins out h1 (by omega)
  rw [← hJ] at h6 hg hgp
  by_cases hge : s.length ≤ J
  ·rw [if_pos hge, furS_zero h2] at h6
   refine pa [.c (.int .i64 (gapE s i - i : Nat)) (rsH v u' w' s J 0 ins out), .b true] rfl ?_ ?_
   ·(repeat' with_reducible apply AllP_cons) <;> first | exact aC | skip
   refine S_call rfl rfl rfl (further_ok v u' w' s J 0 ins out 0 h2 h3 (by omega)) (fun r σ' h => ?_) (fun r σ' h => ?_)
   ·unfold begS at h
    rw [furS_zero h2] at h
    obtain ⟨u2, w2, hr, rfl⟩ := h
    cases hr
    refine pa [] rfl trivial ?_
    refine S_ret ⟨_, _, rfl, trivial, ?_⟩
    rw [← h6]
    exact ⟨u2, w2, _, _, _, rfl, rfl⟩
   ·unfold begS at h
    rw [furS_zero h2] at h
    obtain ⟨_, _, hr, _⟩ := h; cases hr
  ·have hJl : J < s.length := by omega
   have hs0 : s[J]? = some s[J] := List.getElem?_eq_getElem hJl
   rw [if_neg hge, hs0] at h6
   by_cases hc : s[J] = 10
   ·rw [if_pos (by rw [hc])] at h6
    have hwj : IntKind.i64.wrap ((J : Nat) + 1) = ((J + 1 : Nat) : Int) := by rw [IntWalk.i64_in _ ⟨by omega, by omega⟩]; omega
    refine pa [.c (.int .i64 (gapE s i - i : Nat)) (rsH v u' w' s J 0 ins out), .b false, .k (.bool true), .b true] rfl ?_ ?_
    ·(repeat' with_reducible apply AllP_cons) <;> first | exact aC | skip
     exact hasH v u' w' s J 0 ins out 10 (by omega) true (by rw [hs0, hc]; rfl)
    refine S_round ⟨f, J + 1, u', w', ins, out⟩ (by show f < f + 1; omega) ⟨hJl, h2, h3, by show out.length + ins.length ≤ 4 * (J + 1) + 1; omega, by show s.length - (J + 1) < f; omega, h6⟩ (.cons rfl (.nil _)) ?_
    show rsA v u' w' s (IntKind.i64.wrap ((J : Nat) + 1)) ((0 : Nat) : Int) ins out = _
    rw [hwj]; rfl
   ·rw [if_neg (by simpa using hc)] at h6
    have hgE : J = gapE s i := by
     rcases gapC_or (s := s) (i := i) (by rw [← hJ]; exact hJl) with h | h
     ·exact absurd (by simpa [← hJ] using h) hc
     ·rw [hJ]; exact h
    refine pa [.c (.int .i64 (gapE s i - i : Nat)) (rsH v u' w' s J 0 ins out), .b false, .k (.bool false), .b false] rfl ?_ ?_
    ·(repeat' with_reducible apply AllP_cons) <;> first | exact aC | skip
     exact hasH v u' w' s J 0 ins out 10 (by omega) false (by rw [hs0]; exact beq_false_of_ne (by simpa using hc))
    refine S_call rfl rfl rfl (further_ok v u' w' s J 0 ins out (gapE s i - i) h2 h3 (by omega)) (fun r σ' h => ?_) (fun r σ' h => ?_)
    rotate_left
    ·unfold begS at h
     cases hx : furS (gapE s i - i) J ins with
     | inl e => rw [hx] at h; cases h.1
     | inr q => rw [hx] at h; obtain ⟨_, _, h, _⟩ := h; cases h
    unfold begS at h
    cases hx : furS (gapE s i - i) J ins with
    | inl e =>
     rw [hx] at h h6
     obtain ⟨hr, u2, w2, o2, ins2, out2, rfl⟩ := h
     cases hr
     have hee := furS_err hx
     refine pa [] rfl trivial ?_
     refine S_while (α := Unit) (fun _ => [(0, .ptr 0 v 0), (4, .int .i64 (e.1 : Nat))]) (fun _ => rsH v u2 w2 s e.2 o2 ins2 out2) (fun _ => True) (fun _ => 0) () trivial (.cons rfl (.cons rfl (.nil _))) rfl ?_
     rintro _ _
     refine pa [.b false, .b false, .b false, .b false, .b false, .b true] rfl ?_ ?_
     ·(repeat' with_reducible apply AllP_cons) <;> first | exact aC | skip
      exact bne_iff_ne.2 (by omega)
     refine S_ret ⟨_, _, rfl, trivial, ?_⟩
     rw [← h6]
     exact ⟨rfl, u2, w2, o2, ins2, out2, rfl⟩
    | inr q =>
     obtain ⟨ins', l⟩ := q
     rw [hx] at h h6
     obtain ⟨u2, w2, hr, rfl⟩ := h
     cases hr
     obtain ⟨k1, k2, k3, k4⟩ := furS_ok h2 h3 hx
     simp only at h6
     refine pa [] rfl trivial ?_
     refine S_while (α := MSt) (fun q => [(0, .ptr 0 v 0), (4, .int .i64 (q.er : Nat))]) (fun q => rsH v q.u q.w s q.j q.o q.ins q.out)
      (fun q => q.j ≤ s.length ∧ q.er ≤ 4 ∧ (q.er = 0 → q.o ≤ 30 ∧ q.out.length + (s.length - q.j) ≤ 800000 ∧ s.length - q.j < q.f ∧ lineF q.f s q.j q.o q.out = lineF (s.length + 1) s J 0 (out ++ l) ∧ q.ins = ins') ∧ (q.er ≠ 0 → lineF (s.length + 1) s J 0 (out ++ l) = .inl (q.er, q.j))) (fun q => if q.er = 0 then s.length - q.j + 1 else 0) ⟨ins', s.length + 1, J, 0, u2, w2, out ++ l, 0⟩
      ⟨by show J ≤ s.length; omega, Nat.zero_le _, fun _ => ⟨Nat.zero_le _, by simp; omega, by show s.length - J < s.length + 1; omega, rfl, rfl⟩, fun h => absurd rfl h⟩ (.cons rfl (.cons rfl (.nil _))) rfl ?_
     rintro ⟨ins3, g, j, o', u3, w3, out', er⟩ ⟨q1, q2, q3, q4⟩
     simp only at q1 q2 q3 q4
     show S cx _ B _ _ [(0, .ptr 0 v 0), (4, .int .i64 (er : Nat))] (rsH v u3 w3 s j o' ins3 out')
     by_cases her : er = 0
     ·subst her
      obtain ⟨qo, q5, q6, q7, rfl⟩ := q3 rfl
      obtain ⟨g, rfl⟩ : ∃ g', g = g' + 1 := ⟨g - 1, by omega⟩
      rw [lineF] at q7
      have hwj : IntKind.i64.wrap ((j : Nat) + 1) = ((j + 1 : Nat) : Int) := by rw [IntWalk.i64_in _ ⟨by omega, by omega⟩]; omega
      by_cases hlt : j < s.length
      ·have hs1 : s[j]? = some s[j] := List.getElem?_eq_getElem hlt
       rw [hs1] at q7
       by_cases hc1 : s[j] = 10
       ·have hh := hasH v u3 w3 s j o' ins3 out' 10 (by omega) true (by rw [hs1, hc1]; rfl)
        by_cases hop : 0 < o'
        ·rw [if_pos ⟨hlt, .inr hop⟩, if_pos (by rw [hc1])] at q7
         have hg1 := gapC_le (s := s) (i := j + 1) (by omega)
         refine pa [.b true, .b true, .k (.bool true), .b false, .b true, .k (.bool true), .b true, .b true] rfl ?_ ?_
         ·(repeat' with_reducible apply AllP_cons) <;> first | exact aC | skip
         refine S_heap (rsH v u3 w3 s (j + 1) o' ins3 out') ?_ ?_
         ·show rsA v u3 w3 s (IntKind.i64.wrap ((j : Nat) + 1)) ((o' : Nat) : Int) ins3 out' = _
          rw [hwj]; rfl
         refine pa [.c (.int .i64 (gapE s (j + 1) - (j + 1) : Nat)) (rsH v u3 w3 s (gapC s (j + 1)) o' ins3 out')] rfl ?_ ?_
         ·(repeat' with_reducible apply AllP_cons) <;> first | exact aC | skip
          exact gapH v u3 w3 s (j + 1) o' ins3 out' (by omega) (by omega)
         exact S_round ⟨ins3, g, gapC s (j + 1), o', u3, w3, out', 0⟩ (by show s.length - gapC s (j + 1) + 1 < s.length - j + 1; omega) ⟨hg1.2, Nat.zero_le _, fun _ => ⟨qo, by show out'.length + (s.length - gapC s (j + 1)) ≤ 800000; omega, by show s.length - gapC s (j + 1) < g; omega, q7, rfl⟩, fun h => absurd rfl h⟩ (.cons rfl (.cons rfl (.nil _))) rfl
        ·rw [if_neg (by rintro ⟨_, h | h⟩; exact h (by rw [hc1]); exact hop h), if_neg hop, if_pos hlt] at q7
         rw [← q7] at h6
         refine pa [.b true, .b true, .k (.bool true), .b false, .b false, .b true, .b false, .b false, .c (.tup []) (rsH v u3 (w3 + 1) s j o' ins3 (out' ++ [tokLine j])), .b true] rfl ?_ ?_
         ·(repeat' with_reducible apply AllP_cons) <;> first | exact aC | skip
          exact rputH v u3 w3 s j o' ins3 out' 6 [] j (by omega)
         refine S_heap (rsH v u3 (w3 + 1) s (j + 1) 0 ins3 (out' ++ [tokLine j])) ?_ ?_
         ·show rsA v u3 (w3 + 1) s (IntKind.i64.wrap ((j : Nat) + 1)) ((o' : Nat) : Int) ins3 (out' ++ [tokLine j]) = _
          rw [hwj, show o' = 0 by omega]; rfl
         have hb := lineF_le (s.length + 1) (by omega) q7.symm
         have hb4 := hb.2.2.2 hJl
         have hb5 := hb.2.2.1
         simp only [List.length_append] at hb5
         exact S_round ⟨f, (j + 1), u3, w3 + 1, ins3, out' ++ [tokLine j]⟩ (by show f < f + 1; omega) ⟨hb.2.1, k1, k2, by show (out' ++ [tokLine j]).length + ins3.length ≤ 4 * (j + 1) + 1; simp only [List.length_append]; omega, by show s.length - (j + 1) < f; omega, h6⟩ (.cons rfl (.nil _)) rfl
       ·have hh := hasH v u3 w3 s j o' ins3 out' 10 (by omega) false (by rw [hs1]; exact beq_false_of_ne (by simpa using hc1))
        rw [if_pos ⟨hlt, .inl (by simpa using hc1)⟩, if_neg (by simpa using hc1)] at q7
        refine pa [.b true, .b true, .k (.bool false), .b true, .b true, .k (.bool false), .b false] rfl ?_ ?_
        ·(repeat' with_reducible apply AllP_cons) <;> first | exact aC | skip
        refine S_call rfl rfl rfl (one_ok v u3 w3 s j o' ins3 out' hlt (by omega) qo (by omega)) (fun r σ' h => ?_) (fun r σ' h => ?_)
        rotate_left
        ·cases hx : oneS s j o' with
         | inl e => rw [hx] at h; cases h.1
         | inr q => rw [hx] at h; obtain ⟨_, _, h, _⟩ := h; cases h
        cases hx : oneS s j o' with
        | inl e =>
         rw [hx] at h q7
         obtain ⟨hr, u4, w4, o4, ins4, out4, rfl⟩ := h
         cases hr
         have hee := oneS_err hx
         refine pa [.b false] rfl ?_ ?_
         ·(repeat' with_reducible apply AllP_cons) <;> first | exact aC | skip
         exact S_round ⟨ins4, g, e.2, o4, u4, w4, out4, e.1⟩ (by show (if e.1 = 0 then s.length - e.2 + 1 else 0) < s.length - j + 1; rw [if_neg (by omega)]; omega) ⟨(oneS_at hlt hx).2, hee.2, fun h => absurd h (by show e.1 ≠ 0; omega), fun _ => q7.symm⟩ (.cons rfl (.cons rfl (.nil _))) rfl
        | inr q =>
         obtain ⟨t, j2, o2⟩ := q
         rw [hx] at h q7
         obtain ⟨u4, w4, hr, rfl⟩ := h
         cases hr
         have hb := oneS_le hlt hx
         have hb2 := oneS_o hx qo
         have hg1 := gapC_le (s := s) (i := j2) (by omega)
         refine pa [.b true, .c (.int .i64 (gapE s j2 - j2 : Nat)) (rsH v u4 w4 s (gapC s j2) o2 ins3 (out' ++ [t]))] rfl ?_ ?_
         ·(repeat' with_reducible apply AllP_cons) <;> first | exact aC | skip
          exact gapH v u4 w4 s j2 o2 ins3 (out' ++ [t]) (by omega) (by omega)
         exact S_round ⟨ins3, g, gapC s j2, o2, u4, w4, out' ++ [t], 0⟩ (by show s.length - gapC s j2 + 1 < s.length - j + 1; omega) ⟨hg1.2, Nat.zero_le _, fun _ => ⟨hb2, by show (out' ++ [t]).length + (s.length - gapC s j2) ≤ 800000; simp; omega, by show s.length - gapC s j2 < g; omega, q7, rfl⟩, fun h => absurd rfl h⟩ (.cons rfl (.cons rfl (.nil _))) rfl
      ·rw [if_neg (fun h => hlt h.1), if_neg hlt] at q7
       by_cases hop : 0 < o'
       ·rw [if_pos hop] at q7
        rw [← q7] at h6
        refine pa [.b true, .b false, .b false, .b true, .b true, .b true] rfl ?_ ?_
        ·(repeat' with_reducible apply AllP_cons) <;> first | exact aC | skip
        refine S_ret ⟨_, _, rfl, trivial, ?_⟩
        rw [← h6]
        exact ⟨rfl, u3, w3, o', ins3, out', rfl⟩
       ·rw [if_neg hop] at q7
        rw [← q7] at h6
        refine pa [.b true, .b false, .b false, .b true, .b false, .b false, .c (.tup []) (rsH v u3 (w3 + 1) s j o' ins3 (out' ++ [tokLine j])), .b false] rfl ?_ ?_
        ·(repeat' with_reducible apply AllP_cons) <;> first | exact aC | skip
         exact rputH v u3 w3 s j o' ins3 out' 6 [] j (by omega)
        refine S_heap (rsH v u3 (w3 + 1) s j 0 ins3 (out' ++ [tokLine j])) ?_ ?_
        ·rw [show o' = 0 by omega]
        have hb := lineF_le (s.length + 1) (by omega) q7.symm
        have hb4 := hb.2.2.2 hJl
        have hb5 := hb.2.2.1
        simp only [List.length_append] at hb5
        exact S_round ⟨f, j, u3, w3 + 1, ins3, out' ++ [tokLine j]⟩ (by show f < f + 1; omega) ⟨hb.2.1, k1, k2, by show (out' ++ [tokLine j]).length + ins3.length ≤ 4 * j + 1; simp only [List.length_append]; omega, by show s.length - j < f; omega, h6⟩ (.cons rfl (.nil _)) rfl
     ·have q4 := q4 her
      rw [q4] at h6
      refine pa [.b false, .b false, .b false, .b false, .b false, .b true] rfl ?_ ?_
      ·(repeat' with_reducible apply AllP_cons) <;> first | exact aC | skip
       exact bne_iff_ne.2 (by omega)
      refine S_ret ⟨_, _, rfl, trivial, ?_⟩
      rw [← h6]
      exact ⟨rfl, u3, w3, o', ins3, out', rfl⟩
end Go.Proofs.YtonjhfeabphaaaaGreatDoor
end
section
set_option linter.unusedVariables false
set_option linter.unusedSimpArgs false
set_option maxRecDepth 20000
namespace Go.Proofs.YtonjhfeabphaaaaGreatDoor
open Go Go.Ab
theorem lineF_err : ∀ (f : Nat) {s : List UInt8} {i o : Nat} {out : List Tok} {e : Flt}, s.length - i < f → i ≤ s.length → lineF f s i o out = .inl e → 0 < e.1
 | 0, s, i, o, out, e, hf, hi, h => by omega
 | f + 1, s, i, o, out, e, hf, hi, h => by
  rw [lineF] at h
  split at h
  ·rename_i hc
   split at h
   ·have hg := gapC_le (s := s) (i := i + 1) (by omega)
    exact lineF_err f (by omega) hg.2 h
   ·split at h
    ·rename_i hx
     cases h; exact (oneS_err hx).1
    ·rename_i t j o' hx
     have hb := oneS_le hc.1 hx
     have hg := gapC_le (s := s) (i := j) (by omega)
     exact lineF_err f (by omega) hg.2 h
  ·split at h
   ·cases h; simp
   ·cases h
theorem allF_err : ∀ (f : Nat) {s : List UInt8} {i : Nat} {ins : List Nat} {out : List Tok} {e : Flt}, s.length - i < f → i ≤ s.length → allF f s i ins out = .inl e → 0 < e.1
 | 0, s, i, ins, out, e, hf, hi, h => by omega
 | f + 1, s, i, ins, out, e, hf, hi, h => by
  rw [allF] at h
  have hg := gapC_le hi
  split at h
  ·split at h
   ·rename_i hx; cases h; exact (furS_err hx).1
   ·cases h
  ·rename_i hlt
   split at h
   ·exact allF_err f (by omega) (by omega) h
   ·rename_i hc
    split at h
    ·rename_i hx; cases h; exact (furS_err hx).1
    ·split at h
     ·rename_i hy
      cases h; exact lineF_err _ (by omega) hg.2 hy
     ·rename_i hy
      have hb := lineF_le _ hg.2 hy
      have := hb.2.2.2 (by omega)
      exact allF_err f (by omega) hb.2.1 h
theorem SourceTokens_ok (s : List UInt8) : Calc cx 23 [.str s] (splitAV (splitS s)) :=
 pure_intro (fun a w => Tryz.call23 a w) Tryz.func23 rfl Tryz.ntmps23 rfl (splitAV_free _) fun B => by
  unfold splitS
  by_cases hb : 6000 < s.length
  ·rw [if_pos hb]
   refine pa [.b true] rfl ?_ ?_
   ·(repeat' with_reducible apply AllP_cons) <;> first | exact aC | skip
   refine S_ret ⟨_, _, rfl, ⟨rfl, trivial⟩, _, rfl, ?_⟩
   exact Fzs.tup (.cons .nils (.cons (.refl (flt_free (2, 0))) .nil))
  ·rw [if_neg hb]
   refine ab 1000 rfl trivial ?_
   refine S_cond rfl (fun h => absurd (of_decide_eq_true h) (by omega)) (fun _ => ?_)
   refine go (M := [11]) 5 rfl trivial ?_
   refine S_unfull (t := 11) rfl ⟨.skip, _, .inr ⟨_, _, _, rfl⟩⟩ ?_
   refine pa [] rfl ?_ ?_
   ·(repeat' with_reducible apply AllP_cons) <;> first | exact aC | skip
   refine S_heap [xf (0, 0), insB 0 [0], (0, some (.cells [.str s, .int .i64 0, .int .i64 0, .ms 1 0 0 1 1 false, .nils] ⟨false, some 79⟩))] rfl ?_
   refine S_ghost (id := 2) (j := 4) 4 ⟨false, none⟩ rfl rfl rfl (Nat.ne_of_lt (lble rfl)) ⟨.skip, _, .inr ⟨_, _, _, rfl⟩⟩ ?_
   refine S_callf [2, 1, 3] (rall_ok 0 0 0 s (by omega)) rfl (.cons (.ptr rfl) (.nil _)) (Part.mk' (es := [(0, some (.cells [.str s, .int .i64 0, .int .i64 0, .ms 1 0 0 1 1 false, .ms 3 0 0 0 4 false] ⟨false, some 79⟩)), insB 0 [0], outB 0 []]) rfl rfl
    (.cons (.live (.cells (.cons (.free .str) (.cons (.free .int) (.cons (.free .int) (.cons (.ms rfl) (.cons (.ms rfl) (.nil _)))))))) (.cons (.live (.cells (.free (ints_free [0])))) (.cons (.live (.cells (.nil _))) (.nil _))))) rfl rfl ?_ ?_
   rotate_left
   ·intro y σ1 h
    cases hx : allF (s.length + 1) s 0 [0] [] with
    | inl e => rw [hx] at h; cases h.1
    | inr l => rw [hx] at h; obtain ⟨_, _, _, _, _, h1, _⟩ := h; cases h1
   intro y σ1 h
   cases hx : allF (s.length + 1) s 0 [0] [] with
   | inl e =>
    rw [hx] at h
    obtain ⟨h1, u, w, o, ins, out, rfl⟩ := h
    cases h1
    refine ⟨.int .i64 (e.1 : Nat), [(0, some (.cells [.str s, .int .i64 e.2, .int .i64 o, .ms 1 u 0 ins.length 1 false, .ms 3 w 0 out.length 4 false] ⟨false, some 79⟩)), insB u ins, outB w out],
     .cons (.live (.cells (.cons (.free .str) (.cons (.free .int) (.cons (.free .int) (.cons (.ms rfl) (.cons (.ms rfl) (.nil _)))))))) (.cons (.live (.cells (.free (ints_free ins)))) (.cons (.live (.cells (.free (tok_cells_free out)))) (.nil _))), .free .int, ?_⟩
    refine pa [.b true] rfl ?_ ?_
    ·(repeat' with_reducible apply AllP_cons) <;> first | exact aC | skip
     exact bne_iff_ne.2 (by have := allF_err _ (by omega) (Nat.zero_le _) hx; omega)
    refine S_ret ⟨_, _, rfl, ⟨rfl, trivial⟩, _, rfl, ?_⟩
    exact Fzs.tup (.cons .nils (.cons (.refl (flt_free e)) .nil))
   | inr l =>
    rw [hx] at h
    obtain ⟨u, w, i, o, ins, h1, rfl⟩ := h
    cases h1
    refine ⟨.int .i64 0, [(0, some (.cells [.str s, .int .i64 i, .int .i64 o, .ms 1 u 0 ins.length 1 false, .ms 3 w 0 l.length 4 false] ⟨false, some 79⟩)), insB u ins, outB w l],
     .cons (.live (.cells (.cons (.free .str) (.cons (.free .int) (.cons (.free .int) (.cons (.ms rfl) (.cons (.ms rfl) (.nil _)))))))) (.cons (.live (.cells (.free (ints_free ins)))) (.cons (.live (.cells (.free (tok_cells_free l)))) (.nil _))), .free .int, ?_⟩
    refine pa [.b false] rfl ?_ ?_
    ·(repeat' with_reducible apply AllP_cons) <;> first | exact aC | skip
    refine S_ret ⟨_, _, rfl, ⟨rfl, trivial⟩, _, rfl, ?_⟩
    refine Fzs.tup (.cons ?_ (.cons (.refl (flt_free (0, 0))) .nil))
    refine .ms rfl (by rw [tokC_len]; omega) ?_ ?_ (by simp) (toks_free l)
    ·rw [toks_cells, List.drop_zero, List.take_of_length_le (by rw [tokC_len]; omega)]
    ·intro x hx; obtain ⟨t, _, rfl⟩ := List.mem_map.1 hx; rfl
end Go.Proofs.YtonjhfeabphaaaaGreatDoor
end
section
set_option linter.unusedVariables false
set_option linter.unusedSimpArgs false
set_option maxRecDepth 20000
set_option maxHeartbeats 4000000
namespace Go.Proofs.YtonjhfeabphaaaaGreatDoor
open Go Go.Ab
theorem IsSourceName_ok (s : List UInt8) (hs : s.length ≤ 1048576) : Calc cx 99 [.str s] (.bool (isNm s)) :=
 pure_intro (fun a w => Tryz.call99 a w) Tryz.func99 rfl Tryz.ntmps99 rfl .bool fun B => by
  refine pa [] rfl ?_ ?_
  ·(repeat' with_reducible apply AllP_cons) <;> first | exact aC | skip
  refine S_while (α := Nat) (fun i => [(0, .str s), (3, .int .i64 (i : Nat))]) (fun _ => []) (fun i => i ≤ s.length ∧ ∀ j (h : j < s.length), j < i → (isLet s[j] || (isDg s[j] && j != 0)) = true) (fun i => s.length - i) 0
   ⟨Nat.zero_le _, fun j _ h => absurd h (by omega)⟩ (.cons rfl (.cons rfl (.nil _))) rfl ?_
  rintro i ⟨hi, hN⟩
  have hi : i ≤ s.length := hi
  by_cases hlt : i < s.length
  ·have hgc : (((s.getD ((i : Nat) : Int).toNat 0).toNat : Nat) : Int) = ((s[i].toNat : Nat) : Int) := by rw [Int.toNat_natCast, getD_byte hlt]
   have hL := IsLetterByte_ok s[i]
   have hD := IsDigitByte_ok s[i]
   have fz : ∀ σ, Frzs σ [.int .u8 (((s.getD ((i : Nat) : Int).toNat 0).toNat : Nat) : Int)] [.int .u8 ((s[i].toNat : Nat) : Int)] := fun σ => by rw [hgc]; exact .cons (.refl .int) (.nil _)
   by_cases c1 : isLet s[i] = true
   ·rw [c1] at hL
    refine pa [.b true, .v (.bool true), .b false, .b false] rfl ?_ ?_
    ·(repeat' with_reducible apply AllP_cons) <;> first | exact aC | skip
     exact ⟨_, hL, fz _⟩
    refine S_round (i + 1) (by show s.length - (i + 1) < s.length - i; omega) ⟨hlt, fun j hj h => ?_⟩ (.cons rfl (.cons (ai64 rfl (by omega)) (.nil _))) rfl
    rcases Nat.lt_or_ge j i with h' | h'
    ·exact hN j hj h'
    ·obtain rfl : j = i := by omega
     rw [c1]; rfl
   have c1 := (Bool.not_eq_true _).mp c1
   rw [c1] at hL
   have bad : ∀ h0 : (isDg s[i] && i != 0) = false, isNm s = false := fun h0 => by
    rw [← Bool.not_eq_true, isNm_iff]
    rintro ⟨_, k1, k2, _⟩
    have := k2 s[i] (List.getElem_mem hlt)
    rw [c1, Bool.false_or] at this
    rw [this, Bool.true_and] at h0
    have hi0 : i = 0 := by simpa using h0
    subst hi0
    rw [getD_byte hlt, c1] at k1; cases k1
   by_cases i0 : i = 0
   ·have e0 : (((i : Nat) : Int) == 0) = true := by rw [i0]; rfl
    refine pa [.b true, .v (.bool false), .b true, .b true, .b true] rfl ?_ ?_
    ·(repeat' with_reducible apply AllP_cons) <;> first | exact aC | skip
     exact ⟨_, hL, fz _⟩
    refine S_retc .bool rfl trivial ?_
    rw [bad (by subst i0; simp)]; rfl
   have e0 : (((i : Nat) : Int) == 0) = false := beq_false_of_ne (by omega)
   by_cases c2 : isDg s[i] = true
   ·rw [c2] at hD
    refine pa [.b true, .v (.bool false), .b true, .b false, .v (.bool true), .b false] rfl ?_ ?_
    ·(repeat' with_reducible apply AllP_cons) <;> first | exact aC | skip
     ·exact ⟨_, hL, fz _⟩
     ·exact ⟨_, hD, fz _⟩
    refine S_round (i + 1) (by show s.length - (i + 1) < s.length - i; omega) ⟨hlt, fun j hj h => ?_⟩ (.cons rfl (.cons (ai64 rfl (by omega)) (.nil _))) rfl
    rcases Nat.lt_or_ge j i with h' | h'
    ·exact hN j hj h'
    ·obtain rfl : j = i := by omega
     rw [c2, c1]; simpa using i0
   ·rw [(Bool.not_eq_true _).mp c2] at hD
    refine pa [.b true, .v (.bool false), .b true, .b false, .v (.bool false), .b true] rfl ?_ ?_
    ·(repeat' with_reducible apply AllP_cons) <;> first | exact aC | skip
     ·exact ⟨_, hL, fz _⟩
     ·exact ⟨_, hD, fz _⟩
    refine S_retc .bool rfl trivial ?_
    rw [bad (by rw [(Bool.not_eq_true _).mp c2]; rfl)]; rfl
  ·obtain rfl : i = s.length := by omega
   by_cases s0 : s = []
   ·subst s0
    refine pa [.b false, .b false] rfl ?_ ?_
    ·(repeat' with_reducible apply AllP_cons) <;> first | exact aC | skip
    exact S_retc .bool rfl trivial rfl
   have hpos : 0 < s.length := List.length_pos_iff.2 s0
   have hW := IsSourceWord_ok s
   have e0 : decide (((s.length : Nat) : Int) > 0) = true := decide_eq_true (by omega)
   have hv : isNm s = !decide (s ∈ words14) := by
    rw [Bool.eq_iff_iff, isNm_iff, Bool.not_eq_true', decide_eq_false_iff_not]
    refine ⟨fun h => h.2.2.2, fun h => ⟨s0, ?_, fun c hc => ?_, h⟩⟩
    ·rw [getD_byte hpos]
     have := hN 0 hpos hpos
     simpa using this
    ·obtain ⟨j, hj, rfl⟩ := List.getElem_of_mem hc
     have := hN j hj hj
     simp only [Bool.or_eq_true, Bool.and_eq_true] at this ⊢
     exact this.imp id And.left
   refine pa [.b false, .b true, .v (.bool (decide (s ∈ words14)))] rfl ?_ ?_
   ·(repeat' with_reducible apply AllP_cons) <;> first | exact aC | skip
    exact ⟨_, hW, .cons (.refl .str) (.nil _)⟩
   refine S_retc .bool rfl trivial ?_
   rw [hv]; rfl
theorem namesR_go {e F : Nat} {ns : List (List UInt8)} {q : Rd} {y : List (List UInt8) × Rd} (h : ¬ q.bad = true) (hx : namesR e F ns q = some y) : ∃ G, F = G + 1 ∧ (let x := kindR e 3 (if lkK q = 3 ∧ isNm (lkT q) = false then failR e 1 q else q)
   if isR [[44]] x.2 then namesR e G (ns ++ [x.1]) x.2.next else some (ns ++ [x.1], x.2)) = some y := by
 cases F with
 | zero => unfold namesR at hx; rw [if_neg h] at hx; cases hx
 | succ G => rw [namesR, if_neg h] at hx; exact ⟨G, rfl, hx⟩
theorem paramR_go {e F : Nat} {ns : List (List UInt8)} {q : Rd} {y : List (List UInt8) × Rd} (h : ¬ q.bad = true) (hx : paramR e F ns q = some y) : ∃ G, F = G + 1 ∧ (if ns.length = 0 ∧ lkK q ≠ 1 then some (ns, q)
  else let x := kindR e 1 (if lkK q = 1 ∧ ns.contains (lkT q) = true then failR e 6 q else q)
   if isR [[44]] x.2 then paramR e G (ns ++ [x.1]) x.2.next else some (ns ++ [x.1], x.2)) = some y := by
 cases F with
 | zero => unfold paramR at hx; rw [if_neg h] at hx; cases hx
 | succ G => rw [paramR, if_neg h] at hx; exact ⟨G, rfl, hx⟩
theorem namesR_bad {e : Nat} : ∀ {F : Nat} {ns : List (List UInt8)} {q : Rd}, q.bad = true → namesR e F ns q = some (ns, q)
 | 0, _, _, h => if_pos h
 | F + 1, _, _, h => by unfold namesR; rw [if_pos h]
theorem paramR_bad {e : Nat} : ∀ {F : Nat} {ns : List (List UInt8)} {q : Rd}, q.bad = true → paramR e F ns q = some (ns, q)
 | 0, _, _, h => if_pos h
 | F + 1, _, _, h => by unfold paramR; rw [if_pos h]
theorem lkT_len {l : List Tok} {q : Rd} (hT : ∀ t ∈ l, t.text.length ≤ 6000) (hr : q.r <:+ l) : (lkT q).length ≤ 6000 := by
 unfold lkT
 split
 ·exact Nat.zero_le _
 ·cases h : q.r with
  | nil => exact Nat.zero_le _
  | cons t u => exact hT t (hr.subset (by rw [h]; exact List.mem_cons_self ..))
structure RnSt where
 F : Nat
 ns : List (List UInt8)
 q : Rd
 w : Nat
theorem rload_ok (F : Nat) (v : Nat) (l : List Tok) (q : Rd) (e b d n : Nat) (y : St × Rd) (hF : F ≤ 3000000) (hr : q.r <:+ l) (hl : l.length ≤ 100000) (hT : ∀ t ∈ l, t.text.length ≤ 6000) (hx : loadR e F b q = some y) :
  CallOk cx 69 [.ptr 0 v 0] [rdB v l q e b d n] (fun o s => o = .ret (stA y.1) ∧ s = [rdB v l y.2 e b d n]) :=
 callOk_introT (fun a w => Tryz.call69 a w) Tryz.func69 rfl Tryz.ntmps69 rfl fun B => by
  unfold loadR at hx
  obtain ⟨q1, hq1⟩ : ∃ q1, q1 = if b > 0 then failR e 4 q else q := ⟨_, rfl⟩
  have hr1 : q1.r <:+ l := by rw [hq1]; exact ite_s (fail_s hr) hr
  rw [← hq1] at hx
  refine' S_shareU [(0, .ptr 0 v 0), (2, .ptr 1 0 0)] (fun _ : Unit => [rdB v l q1 e b d n, stO2]) (fun _ => True) (fun cont => ?main) ?rest
  case main =>
   by_cases h : b > 0
   ·rw [if_pos h] at hq1
    have e0 : decide (((b : Nat) : Int) > 0) = true := decide_eq_true (by omega)
    have hf := rfailT v l q e b d n 4 [stO2] hr hl
    rw [← hq1] at hf
    refine pa [.b true, .f (.tup []) (fun σ => rdB v l q1 e b d n :: σ.tail), .s] rfl ?_ ?_
    ·(repeat' with_reducible apply AllP_cons) <;> first | exact aC | skip
    exact cont () _ trivial (.cons rfl (.cons rfl (.nil _)))
   ·rw [if_neg h] at hq1
    have e0 : decide (((b : Nat) : Int) > 0) = false := decide_eq_false (by omega)
    subst hq1
    refine pa [.b false, .s] rfl ?_ ?_
    ·(repeat' with_reducible apply AllP_cons) <;> first | exact aC | skip
    exact cont () _ trivial (.cons rfl (.cons rfl (.nil _)))
  case rest =>
  rintro _ _
  have h2 := rsignT v l q1 e b d n wLoad [stO2] hr1 hl
  have hr2 : (signR e wLoad q1).r <:+ l := sign_s hr1
  generalize signR e wLoad q1 = q2 at h2 hx hr2
  have h3 := rsignT v l q2 e b d n [40] [stO2] hr2 hl
  have hr3 : (signR e [40] q2).r <:+ l := sign_s hr2
  generalize signR e [40] q2 = q3 at h3 hx hr3
  have h4 := rkindT v l q3 e b d n 3 [stO2] (by decide) hr3 hl
  have hr4 : (kindR e 3 q3).2.r <:+ l := kind_s hr3
  generalize (kindR e 3 q3) = x at h4 hx hr4
  obtain ⟨tx, q4⟩ := x
  have hr4 : q4.r <:+ l := hr4
  have hx : (namesR e F [] (signR e [44] q4)).bind (fun y => some (.mk 4 tx y.1 .zero [] [], signR e [41] y.2)) = some y := hx
  refine pa [.f (.tup []) (fun σ => rdB v l q2 e b d n :: σ.tail), .f (.tup []) (fun σ => rdB v l q3 e b d n :: σ.tail), .f (.str tx) (fun σ => rdB v l q4 e b d n :: σ.tail)] rfl ?_ ?_
  ·(repeat' with_reducible apply AllP_cons) <;> first | exact aC | skip
  refine S_ghost (id := 2) (j := 2) 1 ⟨false, none⟩ rfl rfl rfl (Nat.ne_of_lt (lble rfl)) ⟨.skip, _, .inr ⟨_, _, _, rfl⟩⟩ ?_
  refine S_heap [rdB v l q4 e b d n, stO2, stX 4 tx 0 [] .nils, namB 0 []] rfl ?_
  have h5 := rsignT v l q4 e b d n [44] [stO2, stX 4 tx 0 [] .nils, namB 0 []] hr4 hl
  have hr5 : (signR e [44] q4).r <:+ l := sign_s hr4
  generalize signR e [44] q4 = q5 at h5 hx hr5
  cases hx1 : namesR e F [] q5 with
  | none => rw [hx1] at hx; cases hx
  | some z =>
  rw [hx1] at hx
  obtain ⟨nz, qz⟩ := z
  cases hx
  refine pa [.f (.tup []) (fun σ => rdB v l q5 e b d n :: σ.tail)] rfl ?_ ?_
  ·(repeat' with_reducible apply AllP_cons) <;> first | exact aC | skip
  refine' S_shareU [(0, .ptr 0 v 0), (2, .ptr 1 0 0), (3, .ptr 2 0 0), (57, .ptr 0 v 0)] (fun w : Nat => [rdB v l qz e b d n, stO2, stX 4 tx w nz .nils, namB w nz]) (fun _ => qz.r <:+ l) (fun cont => ?main) ?rest
  case main =>
   refine S_while (α := RnSt) (fun p => [(0, .ptr 0 v 0), (2, .ptr 1 0 0), (3, .ptr 2 0 0)]) (fun p => [rdB v l p.q e b d n, stO2, stX 4 tx p.w p.ns .nils, namB p.w p.ns])
    (fun p => p.F ≤ F ∧ p.q.r <:+ l ∧ namesR e p.F p.ns p.q = some (nz, qz) ∧ p.ns.length + p.F ≤ F) (fun p => p.F) ⟨F, [], q5, 0⟩ ⟨Nat.le_refl _, hr5, hx1, by show 0 + F ≤ F; omega⟩ (.cons rfl (.cons rfl (.cons rfl (.nil _)))) rfl ?_
   rintro ⟨F1, ns, q, w⟩ ⟨hF1, hr, hx, hns⟩
   have hF1 : F1 ≤ F := hF1
   have hr : q.r <:+ l := hr
   have hx : namesR e F1 ns q = some (nz, qz) := hx
   have hns : ns.length + F1 ≤ F := hns
   show S cx _ B _ _ [(0, .ptr 0 v 0), (2, .ptr 1 0 0), (3, .ptr 2 0 0)] [rdB v l q e b d n, stO2, stX 4 tx w ns .nils, namB w ns]
   have hb := rbadT v l q e b d n [stO2, stX 4 tx w ns .nils, namB w ns]
   by_cases hbad : q.bad = true
   ·rw [hbad] at hb
    rw [namesR_bad hbad] at hx
    cases hx
    refine pa [.k (.bool true), .b false] rfl ?_ ?_
    ·(repeat' with_reducible apply AllP_cons) <;> first | exact aC | skip
    exact cont w _ hr (.cons rfl (.cons rfl (.cons rfl (.cons rfl (.nil _)))))
   obtain ⟨G, rfl, hx'⟩ := namesR_go hbad hx
   clear hx
   have hx := hx'
   clear hx'
   rw [(Bool.not_eq_true _).mp hbad] at hb
   have hlk := rlookT v l q e b d n [stO2, stX 4 tx w ns .nils, namB w ns] hr hl
   have hlen := lkT_len hT hr
   obtain ⟨t, ht⟩ : ∃ t, t = lkT q := ⟨_, rfl⟩
   obtain ⟨k0, hk0⟩ : ∃ k, k = lkK q := ⟨_, rfl⟩
   rw [← ht, ← hk0] at hlk hx
   rw [← ht] at hlen
   have hNm := IsSourceName_ok t (by omega)
   obtain ⟨q2, hq2⟩ : ∃ q2, q2 = if k0 = 3 ∧ isNm t = false then failR e 1 q else q := ⟨_, rfl⟩
   have hx : (if isR [[44]] (kindR e 3 q2).2 then namesR e G (ns ++ [(kindR e 3 q2).1]) (kindR e 3 q2).2.next else some (ns ++ [(kindR e 3 q2).1], (kindR e 3 q2).2)) = some (nz, qz) := by
    rw [hq2]; exact hx
   have hr2 : q2.r <:+ l := by rw [hq2]; exact ite_s (fail_s hr) hr
   refine' S_share [(0, .ptr 0 v 0), (2, .ptr 1 0 0), (3, .ptr 2 0 0)] [rdB v l q2 e b d n, stO2, stX 4 tx w ns .nils, namB w ns] (fun cont2 => ?main2) ?rest2
   case main2 =>
    by_cases k3 : k0 = 3
    ·rw [k3] at hlk hq2
     by_cases nm : isNm t = true
     ·rw [nm] at hNm
      rw [if_neg (fun h => by rw [nm] at h; cases h.2)] at hq2
      subst hq2
      refine pa [.k (.bool false), .b true, .k (lookA 3 t), .b true, .v (.bool true), .b false] rfl ?_ ?_
      ·(repeat' with_reducible apply AllP_cons) <;> first | exact aC | skip
       exact ⟨_, hNm, .cons (.refl .str) (.nil _)⟩
      exact cont2 _ (.cons rfl (.cons rfl (.cons rfl (.nil _))))
     ·rw [(Bool.not_eq_true _).mp nm] at hNm
      rw [if_pos ⟨rfl, (Bool.not_eq_true _).mp nm⟩] at hq2
      have hf := rfailT v l q e b d n 1 [stO2, stX 4 tx w ns .nils, namB w ns] hr hl
      rw [← hq2] at hf
      refine pa [.k (.bool false), .b true, .k (lookA 3 t), .b true, .v (.bool false), .b true, .f (.tup []) (fun σ => rdB v l q2 e b d n :: σ.tail)] rfl ?_ ?_
      ·(repeat' with_reducible apply AllP_cons) <;> first | exact aC | skip
       exact ⟨_, hNm, .cons (.refl .str) (.nil _)⟩
      exact cont2 _ (.cons rfl (.cons rfl (.cons rfl (.nil _))))
    ·have e3 : (((k0 : Nat) : Int) == 3) = false := beq_false_of_ne (by omega)
     rw [if_neg (fun h => k3 h.1)] at hq2
     subst hq2
     refine pa [.k (.bool false), .b true, .k (lookA k0 t), .b false, .b false] rfl ?_ ?_
     ·(repeat' with_reducible apply AllP_cons) <;> first | exact aC | skip
     exact cont2 _ (.cons rfl (.cons rfl (.cons rfl (.nil _))))
   case rest2 =>
    have hK := rkindT v l q2 e b d n 3 [stO2, stX 4 tx w ns .nils, namB w ns] (by decide) hr2 hl
    have hr3 : (kindR e 3 q2).2.r <:+ l := kind_s hr2
    obtain ⟨xx, hxx⟩ : ∃ xx, xx = kindR e 3 q2 := ⟨_, rfl⟩
    rw [← hxx] at hK hr3 hx
    obtain ⟨t3, q3⟩ := xx
    have hr3 : q3.r <:+ l := hr3
    have hx : (if isR [[44]] q3 then namesR e G (ns ++ [t3]) q3.next else some (ns ++ [t3], q3)) = some (nz, qz) := hx
    have hbx : 0 + ns.length * 1 = (texts ns).length := by rw [texts_len]; omega
    refine pa [.d 3 5 [] (fun σ => rdB v l q3 e b d n :: σ.tail) [.str t3]] rfl ?_ ?_
    ·(repeat' with_reducible apply AllP_cons) <;> first | exact aC | skip
     ·exact ⟨_, hK, rfl⟩
     ·show (ns.length + 1) * 16 ≤ 140737488355328
      omega
    refine S_heap [rdB v l q3 e b d n, stO2, stX 4 tx (w + 1) (ns ++ [t3]) .nils, namB (w + 1) (ns ++ [t3])] ?_ ?_
    ·show [rdB v l q3 e b d n, stO2, (0, some (.cells [.int .i64 4, .str tx, .ms 3 (w + 1) 0 (ns.length + 1) 1 false, .int .i64 0, .int .i64 0, .str [], .nils, .nils, .nils, .nils] ⟨false, some 56⟩)), (w + 1, some (.cells (texts ns ++ [.str t3]) ⟨false, none⟩))] = _
     unfold stX namB
     rw [List.length_append, nam_snoc]; rfl
    have hi := risT v l q3 e b d n [[44]] true true [stO2, stX 4 tx (w + 1) (ns ++ [t3]) .nils, namB (w + 1) (ns ++ [t3])] (by decide) hr3 hl
    by_cases c6 : isR [[44]] q3 = true
    ·rw [if_pos c6] at hx
     rw [c6] at hi
     have hwr := rd_next (isR_ne c6) hr3 hl
     refine pa [.k (.bool true), .b false] rfl ?_ ?_
     ·(repeat' with_reducible apply AllP_cons) <;> first | exact aC | skip
     refine S_round ⟨G, ns ++ [t3], q3.next, w + 1⟩ (Nat.lt_succ_self _) ⟨by show G ≤ F; omega, next_s hr3, hx, by show (ns ++ [_]).length + G ≤ F; rw [List.length_append, List.length_singleton]; omega⟩ (.cons rfl (.cons rfl (.cons rfl (.nil _)))) ?_
     show rdI v l (IntKind.i64.wrap (((l.length - q3.r.length : Nat) : Int) + 1)) q3.f e b d n :: _ = _
     rw [hwr]; rfl
    ·rw [if_neg c6] at hx
     rw [(Bool.not_eq_true _).mp c6] at hi
     cases hx
     refine pa [.k (.bool false), .b true] rfl ?_ ?_
     ·(repeat' with_reducible apply AllP_cons) <;> first | exact aC | skip
     exact cont (w + 1) _ hr3 (.cons rfl (.cons rfl (.cons rfl (.cons rfl (.nil _)))))
  case rest =>
   intro w hrz
   show S cx _ B _ _ [(0, .ptr 0 v 0), (2, .ptr 1 0 0), (3, .ptr 2 0 0), (57, .ptr 0 v 0)] [rdB v l qz e b d n, stO2, stX 4 tx w nz .nils, namB w nz]
   have hM := rsignT v l qz e b d n [41] [stO2, stX 4 tx w nz .nils, namB w nz] hrz hl
   refine pa [.f (.tup []) (fun σ => rdB v l (signR e [41] qz) e b d n :: σ.tail)] rfl ?_ ?_
   ·(repeat' with_reducible apply AllP_cons) <;> first | exact aC | skip
   refine S_ret ⟨_, _, rfl, ⟨rfl, trivial⟩, ?_⟩
   exact rfin (stFz10 (namFz (by decide) rfl) .nils .nils .nils .nils)
end Go.Proofs.YtonjhfeabphaaaaGreatDoor
end
section
set_option linter.unusedVariables false
set_option linter.unusedSimpArgs false
set_option maxRecDepth 20000
set_option maxHeartbeats 4000000
namespace Go.Proofs.YtonjhfeabphaaaaGreatDoor
open Go Go.Ab
theorem paramR_s (e : Nat) (r : List Tok) : ∀ (F : Nat) (ns : List (List UInt8)) (q : Rd), q.r <:+ r → Sr r (paramR e F ns q)
 | 0, ns, q, h => .base h
 | F + 1, ns, q, h => by
  rw [paramR]
  exact .ite (.some h) (.ite (.some h) (.ite (paramR_s e r F _ _ (next_s (kind_s (ite_s (fail_s h) h)))) (.some (kind_s (ite_s (fail_s h) h)))))
theorem namesR_s (e : Nat) (r : List Tok) : ∀ (F : Nat) (ns : List (List UInt8)) (q : Rd), q.r <:+ r → Sr r (namesR e F ns q)
 | 0, ns, q, h => .base h
 | F + 1, ns, q, h => by
  rw [namesR]
  exact .ite (.some h) (.ite (namesR_s e r F _ _ (next_s (kind_s (ite_s (fail_s h) h)))) (.some (kind_s (ite_s (fail_s h) h))))
theorem loadR_s (e : Nat) (r : List Tok) (F b : Nat) (q : Rd) (h : q.r <:+ r) : Sr r (loadR e F b q) :=
 (namesR_s e r F _ _ (sign_s (kind_s (sign_s (sign_s (ite_s (fail_s h) h)))))).bind fun y hy => .some (sign_s hy)
theorem smallR_s (e : Nat) (r : List Tok) (F d b : Nat) (q : Rd) (h : q.r <:+ r) : Sr r (smallR e F d b q) := by
 unfold smallR
 have h2 := next_s (ite_s (c := d = 0) (fail_s (e := e) (k := 4) h) h)
 exact .ite (.some (next_s h)) (.ite (.ite (((allR e r F).expr _ _ h2).bind fun y hy => .some hy) (.some h2)) (.ite (loadR_s e r F b q h) (.ite (((allR e r F).expr _ _ (sign_s (kind_s h))).bind fun y hy => .some hy) (((allR e r F).expr _ _ h).bind fun y hy => .some hy))))
structure AllRS (e : Nat) (r : List Tok) (F : Nat) : Prop where
 stmts : ∀ b d l q, q.r <:+ r → Sr r (stmtsR e F b d l q)
 block : ∀ b d q, q.r <:+ r → Sr r (blockR e F b d q)
 dfn : ∀ b d q, q.r <:+ r → Sr r (defR e F b d q)
 stmt : ∀ b d q, q.r <:+ r → Sr r (stmtR e F b d q)
theorem allRS (e : Nat) (r : List Tok) (F : Nat) : AllRS e r F := by
 induction F with
 | zero => exact ⟨fun _ _ _ _ h => by unfold stmtsR; exact .ite (.some h) .none, fun _ _ _ h => .base h, fun _ _ _ _ => .none, fun _ _ _ _ => .none⟩
 | succ F ih =>
  refine ⟨?_, ?_, ?_, ?_⟩
  ·intro b d l q h; rw [stmtsR]; exact .ite (.some h) ((ih.stmt _ _ _ h).bind fun y hy => ih.stmts _ _ _ _ hy)
  ·intro b d q h; rw [blockR]; exact (ih.stmts _ _ _ _ (kind_s (kind_s (sign_s h)))).bind fun y hy => .some (kind_s hy)
  ·intro b d q h; rw [defR]; exact (paramR_s e r F _ _ (sign_s (kind_s (sign_s (ite_s (fail_s h) h))))).bind fun y hy => (ih.block _ _ _ (sign_s hy)).bind fun z hz => .some hz
  ·intro b d q h; rw [stmtR]
   refine .ite (ih.dfn _ _ _ h) (.ite (((allR e r F).expr _ _ (next_s h)).bind fun x hx => (ih.block _ _ _ hx).bind fun y hy => .ite ((ih.block _ _ _ (next_s hy)).bind fun z hz => .some hz) (.some hy)) (.ite (((allR e r F).expr _ _ (sign_s (kind_s (next_s h)))).bind fun x hx => (ih.block _ _ _ hx).bind fun y hy => .some hy) ((smallR_s e r F d b q h).bind fun y hy => .some (kind_s hy))))
def Rst (f : FuncId) (x : Nat → Nat → Nat → Nat → Rd → Option (St × Rd)) (F : Nat) : Prop := ∀ (v : Nat) (l : List Tok) (q : Rd) (e b d : Nat) (y : St × Rd), q.r <:+ l → l.length ≤ 100000 → (∀ t ∈ l, t.text.length ≤ 6000) → b + F ≤ 3000000 → d + F ≤ 3000000 → x e F b d q = some y →
 CallOk cx f [.ptr 0 v 0] [rdB v l q e b d 0] (fun o s => o = .ret (stA y.1) ∧ s = [rdB v l y.2 e b d 0])
def Rbl (F : Nat) : Prop := ∀ (v : Nat) (l : List Tok) (q : Rd) (e b d : Nat) (y : List St × Rd), q.r <:+ l → l.length ≤ 100000 → (∀ t ∈ l, t.text.length ≤ 6000) → b + F < 3000000 → d + F ≤ 3000000 → blockR e F b d q = some y →
 CallOk cx 65 [.ptr 0 v 0] [rdB v l q e b d 0] (fun o s => o = .ret (stsA y.1) ∧ s = [rdB v l y.2 e b d 0])
def Rss (F : Nat) : Prop := ∀ (v : Nat) (l : List Tok) (q : Rd) (e b d : Nat) (y : List St × Rd), q.r <:+ l → l.length ≤ 100000 → (∀ t ∈ l, t.text.length ≤ 6000) → b + F ≤ 3000000 → d + F ≤ 3000000 → stmtsR e F b d [] q = some y →
 CallOk cx 24 [.ptr 0 v 0] [rdB v l q e b d 0] (fun o s => o = .ret (stsA y.1) ∧ s = [rdB v l y.2 e b d 0])
theorem Rst.tail {f : FuncId} {x : Nat → Nat → Nat → Nat → Rd → Option (St × Rd)} {F : Nat} (h : Rst f x F) (v : Nat) (l : List Tok) (q : Rd) (e b d : Nat) (y : St) (q' : Rd) (τ : Heap) (hr : q.r <:+ l) (hl : l.length ≤ 100000) (hT : ∀ t ∈ l, t.text.length ≤ 6000) (hb : b + F ≤ 3000000) (hd : d + F ≤ 3000000) (hx : x e F b d q = some (y, q')) :
  CallOk cx f [.ptr 0 v 0] (rdB v l q e b d 0 :: τ) (fun o s => o = .ret (stA y) ∧ s = rdB v l q' e b d 0 :: τ) :=
 rT (h v l q e b d (y, q') hr hl hT hb hd hx) (stA_free _) (by simp) τ
theorem Rbl.tail {F : Nat} (h : Rbl F) (v : Nat) (l : List Tok) (q : Rd) (e b d : Nat) (y : List St) (q' : Rd) (τ : Heap) (hr : q.r <:+ l) (hl : l.length ≤ 100000) (hT : ∀ t ∈ l, t.text.length ≤ 6000) (hb : b + F < 3000000) (hd : d + F ≤ 3000000) (hx : blockR e F b d q = some (y, q')) :
  CallOk cx 65 [.ptr 0 v 0] (rdB v l q e b d 0 :: τ) (fun o s => o = .ret (stsA y) ∧ s = rdB v l q' e b d 0 :: τ) :=
 rT (h v l q e b d (y, q') hr hl hT hb hd hx) (stsA_free _) (by simp) τ
theorem Rss.tail {F : Nat} (h : Rss F) (v : Nat) (l : List Tok) (q : Rd) (e b d : Nat) (y : List St) (q' : Rd) (τ : Heap) (hr : q.r <:+ l) (hl : l.length ≤ 100000) (hT : ∀ t ∈ l, t.text.length ≤ 6000) (hb : b + F ≤ 3000000) (hd : d + F ≤ 3000000) (hx : stmtsR e F b d [] q = some (y, q')) :
  CallOk cx 24 [.ptr 0 v 0] (rdB v l q e b d 0 :: τ) (fun o s => o = .ret (stsA y) ∧ s = rdB v l q' e b d 0 :: τ) :=
 rT (h v l q e b d (y, q') hr hl hT hb hd hx) (stsA_free _) (by simp) τ
theorem rblock_ok (F : Nat) (hs : Rss F) (v : Nat) (l : List Tok) (q : Rd) (e b d : Nat) (y : List St × Rd) (hr : q.r <:+ l) (hl : l.length ≤ 100000) (hT : ∀ t ∈ l, t.text.length ≤ 6000) (hb : b + 1 + F ≤ 3000000) (hd : d + F ≤ 3000000) (hx : blockR e (F + 1) b d q = some y) :
  CallOk cx 65 [.ptr 0 v 0] [rdB v l q e b d 0] (fun o s => o = .ret (stsA y.1) ∧ s = [rdB v l y.2 e b d 0]) :=
 callOk_introT (fun a w => Tryz.call65 a w) Tryz.func65 rfl Tryz.ntmps65 rfl fun B => by
  rw [blockR] at hx
  have h1 := rsignT v l q e b d 0 [58] [] hr hl
  have hr1 : (signR e [58] q).r <:+ l := sign_s hr
  generalize signR e [58] q = q1 at h1 hx hr1
  have h2 := rkindT v l q1 e b d 0 6 [] (by decide) hr1 hl
  have hr2 : (kindR e 6 q1).2.r <:+ l := kind_s hr1
  generalize (kindR e 6 q1) = x2 at h2 hx hr2
  obtain ⟨t2, q2⟩ := x2
  have hr2 : q2.r <:+ l := hr2
  have h3 := rkindT v l q2 e b d 0 7 [] (by decide) hr2 hl
  have hr3 : (kindR e 7 q2).2.r <:+ l := kind_s hr2
  have hx : (stmtsR e F (b + 1) d [] (kindR e 7 q2).2).bind (fun l => some (l.1, (kindR e 8 l.2).2)) = some y := hx
  generalize (kindR e 7 q2) = x3 at h3 hx hr3
  obtain ⟨t3, q3⟩ := x3
  have hr3 : q3.r <:+ l := hr3
  have hx : (stmtsR e F (b + 1) d [] q3).bind (fun l => some (l.1, (kindR e 8 l.2).2)) = some y := hx
  have hw : IntKind.i64.wrap ((b : Nat) + 1) = ((b + 1 : Nat) : Int) := by rw [IntWalk.i64_in _ ⟨by omega, by omega⟩]; omega
  have hw1 : IntKind.i64.wrap (((b + 1 : Nat) : Int) - 1) = ((b : Nat) : Int) := by rw [IntWalk.i64_in _ ⟨by omega, by omega⟩]; omega
  cases hx1 : stmtsR e F (b + 1) d [] q3 with
  | none => rw [hx1] at hx; cases hx
  | some z =>
  rw [hx1] at hx
  have hr4 := (allRS e l F).stmts _ _ _ _ hr3 _ hx1
  obtain ⟨ls, q4⟩ := z
  have hr4 : q4.r <:+ l := hr4
  cases hx
  have h4 := hs.tail v l q3 e (b + 1) d ls q4 [] hr3 hl hT (by omega) hd hx1
  have h5 := rkindT v l q4 e b d 0 8 [] (by decide) hr4 hl
  refine pa [.f (.tup []) (fun σ => rdB v l q1 e b d 0 :: σ.tail), .f (.str t2) (fun σ => rdB v l q2 e b d 0 :: σ.tail), .f (.str t3) (fun σ => rdB v l q3 e b d 0 :: σ.tail)] rfl ?_ ?_
  ·(repeat' with_reducible apply AllP_cons) <;> first | exact aC | skip
  refine S_heap [rdB v l q3 e (b + 1) d 0] ?_ ?_
  ·show [rdI v l ((l.length - q3.r.length : Nat) : Int) q3.f e (IntKind.i64.wrap ((b : Nat) + 1)) d (0 : Nat)] = _
   rw [hw]; rfl
  refine pa [.f (stsA ls) (fun σ => rdB v l q4 e (b + 1) d 0 :: σ.tail)] rfl ?_ ?_
  ·(repeat' with_reducible apply AllP_cons) <;> first | exact aC | skip
  refine S_heap [rdB v l q4 e b d 0] ?_ ?_
  ·show [rdI v l ((l.length - q4.r.length : Nat) : Int) q4.f e (IntKind.i64.wrap (((b + 1 : Nat) : Int) - 1)) d (0 : Nat)] = _
   rw [hw1]; rfl
  refine pa [.f (.str (kindR e 8 q4).1) (fun σ => rdB v l (kindR e 8 q4).2 e b d 0 :: σ.tail)] rfl ?_ ?_
  ·(repeat' with_reducible apply AllP_cons) <;> first | exact aC | skip
  refine S_ret ⟨_, _, rfl, trivial, ?_⟩
  exact rfin (lowSt _)
theorem rdef_ok (F : Nat) (hB : Rbl F) (v : Nat) (l : List Tok) (q : Rd) (e b d : Nat) (y : St × Rd) (hF : F ≤ 3000000) (hr : q.r <:+ l) (hl : l.length ≤ 100000) (hT : ∀ t ∈ l, t.text.length ≤ 6000) (hb : b + F < 3000000) (hd : d + 1 + F ≤ 3000000) (hx : defR e (F + 1) b d q = some y) :
  CallOk cx 63 [.ptr 0 v 0] [rdB v l q e b d 0] (fun o s => o = .ret (stA y.1) ∧ s = [rdB v l y.2 e b d 0]) :=
 callOk_introT (fun a w => Tryz.call63 a w) Tryz.func63 rfl Tryz.ntmps63 rfl fun B => by
  rw [defR] at hx
  obtain ⟨q1, hq1⟩ : ∃ q1, q1 = if b > 0 then failR e 4 q else q := ⟨_, rfl⟩
  have hr1 : q1.r <:+ l := by rw [hq1]; exact ite_s (fail_s hr) hr
  rw [← hq1] at hx
  refine' S_shareU [(0, .ptr 0 v 0), (2, .ptr 1 0 0)] (fun _ : Unit => [rdB v l q1 e b d 0, stO2]) (fun _ => True) (fun cont => ?main) ?rest
  case main =>
   by_cases h : b > 0
   ·rw [if_pos h] at hq1
    have e0 : decide (((b : Nat) : Int) > 0) = true := decide_eq_true (by omega)
    have hf := rfailT v l q e b d 0 4 [stO2] hr hl
    rw [← hq1] at hf
    refine pa [.b true, .f (.tup []) (fun σ => rdB v l q1 e b d 0 :: σ.tail), .s] rfl ?_ ?_
    ·(repeat' with_reducible apply AllP_cons) <;> first | exact aC | skip
    exact cont () _ trivial (.cons rfl (.cons rfl (.nil _)))
   ·rw [if_neg h] at hq1
    have e0 : decide (((b : Nat) : Int) > 0) = false := decide_eq_false (by omega)
    subst hq1
    refine pa [.b false, .s] rfl ?_ ?_
    ·(repeat' with_reducible apply AllP_cons) <;> first | exact aC | skip
    exact cont () _ trivial (.cons rfl (.cons rfl (.nil _)))
  case rest =>
  rintro _ _
  have h2 := rsignT v l q1 e b d 0 wDef [stO2] hr1 hl
  have hr2 : (signR e wDef q1).r <:+ l := sign_s hr1
  generalize signR e wDef q1 = q2 at h2 hx hr2
  have h4 := rkindT v l q2 e b d 0 1 [stO2] (by decide) hr2 hl
  have hr4 : (kindR e 1 q2).2.r <:+ l := kind_s hr2
  generalize (kindR e 1 q2) = x at h4 hx hr4
  obtain ⟨tx, q4⟩ := x
  have hr4 : q4.r <:+ l := hr4
  have hx : (paramR e F [] (signR e [40] q4)).bind (fun ns => (blockR e F b (d + 1) (signR e [41] ns.2)).bind fun l => some (.mk 6 tx ns.1 .zero l.1 [], l.2)) = some y := hx
  refine pa [.f (.tup []) (fun σ => rdB v l q2 e b d 0 :: σ.tail), .f (.str tx) (fun σ => rdB v l q4 e b d 0 :: σ.tail)] rfl ?_ ?_
  ·(repeat' with_reducible apply AllP_cons) <;> first | exact aC | skip
  refine S_ghost (id := 2) (j := 2) 1 ⟨false, none⟩ rfl rfl rfl (Nat.ne_of_lt (lble rfl)) ⟨.skip, _, .inr ⟨_, _, _, rfl⟩⟩ ?_
  refine S_heap [rdB v l q4 e b d 0, stO2, stX 6 tx 0 [] .nils, namB 0 []] rfl ?_
  have h5 := rsignT v l q4 e b d 0 [40] [stO2, stX 6 tx 0 [] .nils, namB 0 []] hr4 hl
  have hr5 : (signR e [40] q4).r <:+ l := sign_s hr4
  generalize signR e [40] q4 = q5 at h5 hx hr5
  cases hx1 : paramR e F [] q5 with
  | none => rw [hx1] at hx; cases hx
  | some z =>
  rw [hx1] at hx
  obtain ⟨nz, qz⟩ := z
  have hx : (blockR e F b (d + 1) (signR e [41] qz)).bind (fun l => some (.mk 6 tx nz .zero l.1 [], l.2)) = some y := hx
  refine pa [.f (.tup []) (fun σ => rdB v l q5 e b d 0 :: σ.tail)] rfl ?_ ?_
  ·(repeat' with_reducible apply AllP_cons) <;> first | exact aC | skip
  refine' S_shareU [(0, .ptr 0 v 0), (2, .ptr 1 0 0), (3, .ptr 2 0 0), (65, .ptr 0 v 0)] (fun w : Nat => [rdB v l qz e b d 0, stO2, stX 6 tx w nz .nils, namB w nz]) (fun _ => qz.r <:+ l) (fun cont => ?main) ?rest
  case main =>
   refine S_while (α := RnSt) (fun p => [(0, .ptr 0 v 0), (2, .ptr 1 0 0), (3, .ptr 2 0 0), (4, .int .i64 (p.ns.length : Nat))]) (fun p => [rdB v l p.q e b d 0, stO2, stX 6 tx p.w p.ns .nils, namB p.w p.ns])
    (fun p => p.F ≤ F ∧ p.q.r <:+ l ∧ paramR e p.F p.ns p.q = some (nz, qz) ∧ p.ns.length + p.F ≤ F) (fun p => p.F) ⟨F, [], q5, 0⟩ ⟨Nat.le_refl _, hr5, hx1, by show 0 + F ≤ F; omega⟩ (.cons rfl (.cons rfl (.cons rfl (.cons rfl (.nil _))))) rfl ?_
   rintro ⟨F1, ns, q, w⟩ ⟨hF1, hr, hx, hns⟩
   have hF1 : F1 ≤ F := hF1
   have hr : q.r <:+ l := hr
   have hx : paramR e F1 ns q = some (nz, qz) := hx
   have hns : ns.length + F1 ≤ F := hns
   show S cx _ B _ _ [(0, .ptr 0 v 0), (2, .ptr 1 0 0), (3, .ptr 2 0 0), (4, .int .i64 (ns.length : Nat))] [rdB v l q e b d 0, stO2, stX 6 tx w ns .nils, namB w ns]
   have hb := rbadT v l q e b d 0 [stO2, stX 6 tx w ns .nils, namB w ns]
   by_cases hbad : q.bad = true
   ·rw [hbad] at hb
    rw [paramR_bad hbad] at hx
    cases hx
    refine pa [.k (.bool true), .b false] rfl ?_ ?_
    ·(repeat' with_reducible apply AllP_cons) <;> first | exact aC | skip
    exact cont w _ hr (.cons rfl (.cons rfl (.cons rfl (.cons rfl (.nil _)))))
   obtain ⟨G, rfl, hx'⟩ := paramR_go hbad hx
   clear hx
   have hx := hx'
   clear hx'
   rw [(Bool.not_eq_true _).mp hbad] at hb
   have hlk := rlookT v l q e b d 0 [stO2, stX 6 tx w ns .nils, namB w ns] hr hl
   obtain ⟨t, ht⟩ : ∃ t, t = lkT q := ⟨_, rfl⟩
   obtain ⟨k0, hk0⟩ : ∃ k, k = lkK q := ⟨_, rfl⟩
   rw [← ht, ← hk0] at hlk hx
   have hHT := HasText_ok (st := false) (fl := false) ns t (by omega)
   have hFz : Frzs [rdB v l q e b d 0, stO2, stX 6 tx w ns .nils, namB w ns] [.ms 3 w 0 ns.length 1 false, .str t] [.sl false false 1 (texts ns), .str t] := .cons (.ms1 rfl (fun x hx => by obtain ⟨y, _, rfl⟩ := List.mem_map.1 hx; rfl) (texts_len ns) (textsF ns)) (.cons (.refl .str) (.nil _))
   by_cases c0 : ns.length = 0 ∧ k0 ≠ 1
   ·rw [if_pos c0] at hx
    have e0 : (((ns.length : Nat) : Int) == 0) = true := by rw [c0.1]; rfl
    have e1 : (((k0 : Nat) : Int) != 1) = true := bne_iff_ne.2 (by have := c0.2; omega)
    cases hx
    refine pa [.k (.bool false), .b true, .k (lookA k0 t), .b true, .b true] rfl ?_ ?_
    ·(repeat' with_reducible apply AllP_cons) <;> first | exact aC | skip
    exact cont w _ hr (.cons rfl (.cons rfl (.cons rfl (.cons rfl (.nil _)))))
   rw [if_neg c0] at hx
   obtain ⟨q2, hq2⟩ : ∃ q2, q2 = if k0 = 1 ∧ ns.contains t = true then failR e 6 q else q := ⟨_, rfl⟩
   have hx : (if isR [[44]] (kindR e 1 q2).2 then paramR e G (ns ++ [(kindR e 1 q2).1]) (kindR e 1 q2).2.next else some (ns ++ [(kindR e 1 q2).1], (kindR e 1 q2).2)) = some (nz, qz) := by
    rw [hq2]; exact hx
   have hr2 : q2.r <:+ l := by rw [hq2]; exact ite_s (fail_s hr) hr
   refine' S_share [(0, .ptr 0 v 0), (2, .ptr 1 0 0), (3, .ptr 2 0 0), (4, .int .i64 (ns.length : Nat))] [rdB v l q2 e b d 0, stO2, stX 6 tx w ns .nils, namB w ns] (fun cont2 => ?main2) ?rest2
   case main2 =>
    by_cases k1 : k0 = 1
    ·rw [k1] at hlk hq2
     by_cases n0 : ns.length = 0
     ·have e0 : (((ns.length : Nat) : Int) == 0) = true := by rw [n0]; rfl
      have nc : ns.contains t = false := by rw [List.eq_nil_of_length_eq_zero n0]; rfl
      rw [nc] at hHT
      rw [if_neg (fun h => by rw [nc] at h; cases h.2)] at hq2
      subst hq2
      refine pa [.k (.bool false), .b true, .k (lookA 1 t), .b true, .b false, .b true, .v (.bool false), .b false] rfl ?_ ?_
      ·(repeat' with_reducible apply AllP_cons) <;> first | exact aC | skip
       exact ⟨_, hHT, hFz⟩
      exact cont2 _ (.cons rfl (.cons rfl (.cons rfl (.cons rfl (.nil _)))))
     have e0 : (((ns.length : Nat) : Int) == 0) = false := beq_false_of_ne (by omega)
     by_cases nc : ns.contains t = true
     ·rw [nc] at hHT
      rw [if_pos ⟨rfl, nc⟩] at hq2
      have hf := rfailT v l q e b d 0 6 [stO2, stX 6 tx w ns .nils, namB w ns] hr hl
      rw [← hq2] at hf
      refine pa [.k (.bool false), .b true, .k (lookA 1 t), .b false, .b false, .b true, .v (.bool true), .b true, .f (.tup []) (fun σ => rdB v l q2 e b d 0 :: σ.tail)] rfl ?_ ?_
      ·(repeat' with_reducible apply AllP_cons) <;> first | exact aC | skip
       exact ⟨_, hHT, hFz⟩
      exact cont2 _ (.cons rfl (.cons rfl (.cons rfl (.cons rfl (.nil _)))))
     ·rw [(Bool.not_eq_true _).mp nc] at hHT
      rw [if_neg (fun h => nc h.2)] at hq2
      subst hq2
      refine pa [.k (.bool false), .b true, .k (lookA 1 t), .b false, .b false, .b true, .v (.bool false), .b false] rfl ?_ ?_
      ·(repeat' with_reducible apply AllP_cons) <;> first | exact aC | skip
       exact ⟨_, hHT, hFz⟩
      exact cont2 _ (.cons rfl (.cons rfl (.cons rfl (.cons rfl (.nil _)))))
    ·have e3 : (((k0 : Nat) : Int) == 1) = false := beq_false_of_ne (by omega)
     have n0 : ns.length ≠ 0 := fun h => c0 ⟨h, k1⟩
     have e0 : (((ns.length : Nat) : Int) == 0) = false := beq_false_of_ne (by omega)
     rw [if_neg (fun h => k1 h.1)] at hq2
     subst hq2
     refine pa [.k (.bool false), .b true, .k (lookA k0 t), .b false, .b false, .b false, .b false] rfl ?_ ?_
     ·(repeat' with_reducible apply AllP_cons) <;> first | exact aC | skip
     exact cont2 _ (.cons rfl (.cons rfl (.cons rfl (.cons rfl (.nil _)))))
   case rest2 =>
    have hK := rkindT v l q2 e b d 0 1 [stO2, stX 6 tx w ns .nils, namB w ns] (by decide) hr2 hl
    have hr3 : (kindR e 1 q2).2.r <:+ l := kind_s hr2
    obtain ⟨xx, hxx⟩ : ∃ xx, xx = kindR e 1 q2 := ⟨_, rfl⟩
    rw [← hxx] at hK hr3 hx
    obtain ⟨t3, q3⟩ := xx
    have hr3 : q3.r <:+ l := hr3
    have hx : (if isR [[44]] q3 then paramR e G (ns ++ [t3]) q3.next else some (ns ++ [t3], q3)) = some (nz, qz) := hx
    have hbx : 0 + ns.length * 1 = (texts ns).length := by rw [texts_len]; omega
    refine pa [.d 3 5 [] (fun σ => rdB v l q3 e b d 0 :: σ.tail) [.str t3]] rfl ?_ ?_
    ·(repeat' with_reducible apply AllP_cons) <;> first | exact aC | skip
     ·exact ⟨_, hK, rfl⟩
     ·show (ns.length + 1) * 16 ≤ 140737488355328
      omega
    refine S_heap [rdB v l q3 e b d 0, stO2, stX 6 tx (w + 1) (ns ++ [t3]) .nils, namB (w + 1) (ns ++ [t3])] ?_ ?_
    ·show [rdB v l q3 e b d 0, stO2, (0, some (.cells [.int .i64 6, .str tx, .ms 3 (w + 1) 0 (ns.length + 1) 1 false, .int .i64 0, .int .i64 0, .str [], .nils, .nils, .nils, .nils] ⟨false, some 56⟩)), (w + 1, some (.cells (texts ns ++ [.str t3]) ⟨false, none⟩))] = _
     unfold stX namB
     rw [List.length_append, nam_snoc]; rfl
    have hi := risT v l q3 e b d 0 [[44]] true true [stO2, stX 6 tx (w + 1) (ns ++ [t3]) .nils, namB (w + 1) (ns ++ [t3])] (by decide) hr3 hl
    by_cases c6 : isR [[44]] q3 = true
    ·rw [if_pos c6] at hx
     rw [c6] at hi
     have hwr := rd_next (isR_ne c6) hr3 hl
     have hwk : IntKind.i64.wrap (((ns.length : Nat) : Int) + 1) = (((ns ++ [t3]).length : Nat) : Int) := by
      rw [List.length_append, List.length_singleton, IntWalk.i64_in _ ⟨by omega, by omega⟩]; omega
     refine pa [.k (.bool true), .b false] rfl ?_ ?_
     ·(repeat' with_reducible apply AllP_cons) <;> first | exact aC | skip
     refine S_round ⟨G, ns ++ [t3], q3.next, w + 1⟩ (Nat.lt_succ_self _) ⟨by show G ≤ F; omega, next_s hr3, hx, by show (ns ++ [_]).length + G ≤ F; rw [List.length_append, List.length_singleton]; omega⟩ (.cons rfl (.cons rfl (.cons rfl (.cons (by show AV.int .i64 (IntKind.i64.wrap (((ns.length : Nat) : Int) + 1)) = _; rw [hwk]) (.nil _))))) ?_
     show rdI v l (IntKind.i64.wrap (((l.length - q3.r.length : Nat) : Int) + 1)) q3.f e b d (0 : Nat) :: _ = _
     rw [hwr]; rfl
    ·rw [if_neg c6] at hx
     rw [(Bool.not_eq_true _).mp c6] at hi
     cases hx
     refine pa [.k (.bool false), .b true] rfl ?_ ?_
     ·(repeat' with_reducible apply AllP_cons) <;> first | exact aC | skip
     exact cont (w + 1) _ hr3 (.cons rfl (.cons rfl (.cons rfl (.cons rfl (.nil _)))))
  case rest =>
   intro w hrz
   show S cx _ B _ _ [(0, .ptr 0 v 0), (2, .ptr 1 0 0), (3, .ptr 2 0 0), (65, .ptr 0 v 0)] [rdB v l qz e b d 0, stO2, stX 6 tx w nz .nils, namB w nz]
   have hM := rsignT v l qz e b d 0 [41] [stO2, stX 6 tx w nz .nils, namB w nz] hrz hl
   have hrm : (signR e [41] qz).r <:+ l := sign_s hrz
   obtain ⟨q6, hq6⟩ : ∃ q6, q6 = signR e [41] qz := ⟨_, rfl⟩
   rw [← hq6] at hM hrm hx
   cases hx2 : blockR e F b (d + 1) q6 with
   | none => rw [hx2] at hx; cases hx
   | some zz =>
   rw [hx2] at hx
   obtain ⟨ls, q7⟩ := zz
   have hx : some (St.mk 6 tx nz .zero ls [], q7) = some y := hx
   have hBl := hB.tail v l q6 e b (d + 1) ls q7 [stO2, stX 6 tx w nz .nils, namB w nz] hrm hl hT hb (by omega) hx2
   have hw : IntKind.i64.wrap ((d : Nat) + 1) = ((d + 1 : Nat) : Int) := by rw [IntWalk.i64_in _ ⟨by omega, by omega⟩]; omega
   have hw1 : IntKind.i64.wrap (((d + 1 : Nat) : Int) - 1) = ((d : Nat) : Int) := by rw [IntWalk.i64_in _ ⟨by omega, by omega⟩]; omega
   refine pa [.f (.tup []) (fun σ => rdB v l q6 e b d 0 :: σ.tail)] rfl ?_ ?_
   ·(repeat' with_reducible apply AllP_cons) <;> first | exact aC | skip
   refine S_heap (rdB v l q6 e b (d + 1) 0 :: [stO2, stX 6 tx w nz .nils, namB w nz]) ?_ ?_
   ·show rdI v l ((l.length - q6.r.length : Nat) : Int) q6.f e b (IntKind.i64.wrap ((d : Nat) + 1)) (0 : Nat) :: _ = _
    rw [hw]; rfl
   refine pa [.f (stsA ls) (fun σ => rdB v l q7 e b (d + 1) 0 :: σ.tail)] rfl ?_ ?_
   ·(repeat' with_reducible apply AllP_cons) <;> first | exact aC | skip
   refine S_heap (rdB v l q7 e b d 0 :: _) (by
    show rdI v l ((l.length - q7.r.length : Nat) : Int) q7.f e b (IntKind.i64.wrap (((d + 1 : Nat) : Int) - 1)) (0 : Nat) :: _ = _
    rw [hw1]; rfl) ?_
   have hy : y = (St.mk 6 tx nz .zero ls [], q7) := (Option.some.inj hx).symm
   rw [hy]
   refine S_ret ⟨_, _, rfl, ⟨rfl, trivial⟩, ?_⟩
   exact rfin (stFz10 (namFz (by decide) rfl) .nils .nils (lowSt _) .nils)
end Go.Proofs.YtonjhfeabphaaaaGreatDoor
end
section
set_option linter.unusedVariables false
set_option linter.unusedSimpArgs false
set_option maxRecDepth 20000
set_option maxHeartbeats 4000000
namespace Go.Proofs.YtonjhfeabphaaaaGreatDoor
open Go Go.Ab
def Rdf (F : Nat) : Prop := ∀ (v : Nat) (l : List Tok) (q : Rd) (e b d : Nat) (y : St × Rd), q.r <:+ l → l.length ≤ 100000 → (∀ t ∈ l, t.text.length ≤ 6000) → b + F ≤ 3000000 → d + F ≤ 3000000 → defR e F b d q = some y →
 CallOk cx 63 [.ptr 0 v 0] [rdB v l q e b d 0] (fun o s => o = .ret (stA y.1) ∧ s = [rdB v l y.2 e b d 0])
theorem Rdf.tail {F : Nat} (h : Rdf F) (v : Nat) (l : List Tok) (q : Rd) (e b d : Nat) (y : St) (q' : Rd) (τ : Heap) (hr : q.r <:+ l) (hl : l.length ≤ 100000) (hT : ∀ t ∈ l, t.text.length ≤ 6000) (hb : b + F ≤ 3000000) (hd : d + F ≤ 3000000) (hx : defR e F b d q = some (y, q')) :
  CallOk cx 63 [.ptr 0 v 0] (rdB v l q e b d 0 :: τ) (fun o s => o = .ret (stA y) ∧ s = rdB v l q' e b d 0 :: τ) :=
 rT (h v l q e b d (y, q') hr hl hT hb hd hx) (stA_free _) (by simp) τ
theorem stmtsR_go {e F b d : Nat} {l : List St} {q : Rd} {y : List St × Rd} (h : ¬ (lkK q = 0 ∨ lkK q = 8)) (hx : stmtsR e F b d l q = some y) : ∃ G, F = G + 1 ∧ (stmtR e G b d q).bind (fun s => stmtsR e G b d (l ++ [s.1]) s.2) = some y := by
 cases F with
 | zero => unfold stmtsR at hx; rw [if_neg h] at hx; cases hx
 | succ G => rw [stmtsR, if_neg h] at hx; exact ⟨G, rfl, hx⟩
theorem stmtsR_end {e F b d : Nat} {l : List St} {q : Rd} (h : lkK q = 0 ∨ lkK q = 8) : stmtsR e F b d l q = some (l, q) := by
 cases F with
 | zero => unfold stmtsR; rw [if_pos h]
 | succ G => rw [stmtsR, if_pos h]
structure RssSt where
 F : Nat
 l : List St
 q : Rd
 w : Nat
theorem rstmts_ok (F : Nat) (hF0 : F ≤ 3000000) (hs : ∀ F', F' < F → Rst 39 stmtR F') : Rss F := fun v l q e b d y hr hl hT hb hd hx =>
 callOk_introT (fun a w => Tryz.call24 a w) Tryz.func24 rfl Tryz.ntmps24 rfl fun B => by
  refine pa [] rfl ?_ ?_
  ·(repeat' with_reducible apply AllP_cons) <;> first | exact aC | skip
  refine S_ghostF (t := 3) 10 ⟨false, none⟩ rfl rfl ⟨_, _, .inl rfl⟩ ?_
  refine S_while (α := RssSt) (fun p => [(0, .ptr 0 v 0), (3, .ms 1 p.w 0 p.l.length 10 false)]) (fun p => [rdB v l p.q e b d 0, stB p.w p.l])
   (fun p => p.F ≤ F ∧ p.q.r <:+ l ∧ stmtsR e p.F b d p.l p.q = some y ∧ p.l.length + p.F ≤ F) (fun p => p.F) ⟨F, [], q, 0⟩ ⟨Nat.le_refl _, hr, hx, by show 0 + F ≤ F; omega⟩ (.cons rfl (.cons rfl (.nil _))) rfl ?_
  clear hx hr
  rintro ⟨F1, ls, q, w⟩ ⟨hF1, hr, hx, hls⟩
  have hF1 : F1 ≤ F := hF1
  have hr : q.r <:+ l := hr
  have hx : stmtsR e F1 b d ls q = some y := hx
  have hls : ls.length + F1 ≤ F := hls
  show S cx _ B _ _ [(0, .ptr 0 v 0), (3, .ms 1 w 0 ls.length 10 false)] [rdB v l q e b d 0, stB w ls]
  have hlk := rlookT v l q e b d 0 [stB w ls] hr hl
  by_cases c : lkK q = 0 ∨ lkK q = 8
  ·rw [stmtsR_end c] at hx
   cases hx
   obtain ⟨t, ht⟩ : ∃ t, t = lkT q := ⟨_, rfl⟩
   rw [← ht] at hlk
   rcases c with c | c
   ·rw [c] at hlk
    refine pa [.k (lookA 0 t), .b true, .b true] rfl ?_ ?_
    ·(repeat' with_reducible apply AllP_cons) <;> first | exact aC | skip
    refine S_ret ⟨_, _, rfl, trivial, ?_⟩
    exact rfin (stFz (by decide) rfl)
   ·rw [c] at hlk
    refine pa [.k (lookA 8 t), .b false, .b true] rfl ?_ ?_
    ·(repeat' with_reducible apply AllP_cons) <;> first | exact aC | skip
    refine S_ret ⟨_, _, rfl, trivial, ?_⟩
    exact rfin (stFz (by decide) rfl)
  obtain ⟨G, rfl, hx'⟩ := stmtsR_go c hx
  clear hx
  have hx := hx'
  clear hx'
  obtain ⟨k0, hk0⟩ : ∃ k, k = lkK q := ⟨_, rfl⟩
  rw [← hk0] at hlk c
  have e0 : (((k0 : Nat) : Int) == 0) = false := beq_false_of_ne (by omega)
  have e8 : (((k0 : Nat) : Int) == 8) = false := beq_false_of_ne (by omega)
  cases hx1 : stmtR e G b d q with
  | none => rw [hx1] at hx; cases hx
  | some z =>
  rw [hx1] at hx
  have hr1 := (allRS e l G).stmt _ _ _ hr _ hx1
  obtain ⟨⟨sk, st, sn, ⟨xk, xn, xt, xs, xm⟩, sb, se⟩, q1⟩ := z
  have hx : stmtsR e G b d (ls ++ [.mk sk st sn (.mk xk xn xt xs xm) sb se]) q1 = some y := hx
  have h2 := (hs G (by omega)).tail v l q e b d _ q1 [stB w ls] hr hl hT (by omega) (by omega) hx1
  have hbx : 0 + ls.length * 10 = (stF ls).length := by rw [stF_len]; omega
  refine pa [.k (lookA k0 (lkT q)), .b false, .b false, .f (stA (.mk sk st sn (.mk xk xn xt xs xm) sb se)) (fun σ => rdB v l q1 e b d 0 :: σ.tail)] rfl ?_ ?_
  ·(repeat' with_reducible apply AllP_cons) <;> first | exact aC | skip
   show (ls.length + 1) * 176 ≤ 140737488355328
   omega
  refine S_round ⟨G, ls ++ [.mk sk st sn (.mk xk xn xt xs xm) sb se], q1, w + 1⟩ (Nat.lt_succ_self _) ⟨by show G ≤ F; omega, hr1, hx, by show (ls ++ [_]).length + G ≤ F; rw [List.length_append, List.length_singleton]; omega⟩ ?_ ?_
  ·refine .cons rfl (.cons ?_ (.nil _))
   show AV.ms 1 (w + 1) 0 (ls.length + 1) 10 false = .ms 1 (w + 1) 0 (ls ++ [_]).length 10 false
   rw [List.length_append]; rfl
  ·show _ = [rdB v l q1 e b d 0, stB (w + 1) (ls ++ [.mk sk st sn (.mk xk xn xt xs xm) sb se])]
   unfold stB
   rw [stF_snoc]; rfl
theorem wd_ne {q : Rd} {w : List UInt8} (h : wd q = w) (hw : w ≠ []) : q.r ≠ [] := by
 unfold wd at h
 split at h
 ·rename_i hk; exact lkK_ne hk (by decide)
 ·exact absurd h.symm hw
def stBx (s : St) : Nat × Option Box := match s with
 | .mk k t ns (.mk xk xn xt xs xm) b e => (0, some (.cells [.int .i64 (k : Nat), .str t, .sl true false 1 (texts ns), .int .i64 (xk : Nat), .int .i64 (xn : Nat), .str xt, .sl true false 5 (exL xs), .sl true false 1 (texts xm), stsA b, stsA e] ⟨false, some 56⟩))
theorem rstmt_ok (F : Nat) (hF : F ≤ 3000000) (hD : Rdf F) (hB : Rbl F) : Rst 39 stmtR (F + 1) := fun v l q e b d y hr hl hT hb hd hx =>
 callOk_introT (fun a w => Tryz.call39 a w) Tryz.func39 rfl Tryz.ntmps39 rfl fun B => by
  rw [stmtR] at hx
  have hlk := rlookT v l q e b d 0 [stO2] hr hl
  obtain ⟨k0, hk0⟩ : ∃ k, k = lkK q := ⟨_, rfl⟩
  obtain ⟨w, hw⟩ : ∃ w, w = wd q := ⟨_, rfl⟩
  refine' S_share [(0, .ptr 0 v 0), (2, .ptr 1 0 0), (3, .int .i64 (k0 : Nat)), (4, .str w), (21, .str w), (22, .bool (w == wDef))] [rdB v l q e b d 0, stO2] (fun cont => ?main) ?rest
  case main =>
   unfold wd at hw
   by_cases k5 : lkK q = 5
   ·rw [if_pos k5] at hw
    have hlk2 := hlk
    rw [← hw, k5] at hlk2
    have hk5 : k0 = 5 := by rw [hk0, k5]
    refine pa [.k (lookA 5 w), .b false] rfl ?_ ?_
    ·(repeat' with_reducible apply AllP_cons) <;> first | exact aC | skip
    exact cont _ (.cons rfl (.cons rfl (.cons (by rw [hk5]; rfl) (.cons rfl (.cons rfl (.cons rfl (.nil _)))))))
   ·rw [if_neg k5] at hw
    have hlk2 := hlk
    rw [← hk0] at hlk2 k5
    have e5 : (((k0 : Nat) : Int) != 5) = true := bne_iff_ne.2 (by omega)
    refine pa [.k (lookA k0 (lkT q)), .b true] rfl ?_ ?_
    ·(repeat' with_reducible apply AllP_cons) <;> first | exact aC | skip
    refine cont _ ?_
    exact .cons rfl (.cons rfl (.cons rfl (.cons (by rw [hw]; rfl) (.cons (by rw [hw]; rfl) (.cons (by rw [hw]; rfl) (.nil _))))))
  case rest =>
  rw [← hw] at hx
  by_cases c1 : w = wDef
  ·rw [if_pos c1] at hx
   subst c1
   obtain ⟨⟨sk, st, sn, ⟨xk, xn, xt, xs, xm⟩, sb, se⟩, q1⟩ := y
   have h2 := hD.tail v l q e b d _ q1 [stO2] hr hl hT (by omega) (by omega) hx
   refine pa [.b true, .f (stA (.mk sk st sn (.mk xk xn xt xs xm) sb se)) (fun σ => rdB v l q1 e b d 0 :: σ.tail)] rfl ?_ ?_
   ·(repeat' with_reducible apply AllP_cons) <;> first | exact aC | skip
   refine S_ret ⟨_, _, rfl, ⟨rfl, trivial⟩, ?_⟩
   exact rfin (stFz10 (lowTx _) (lowEx _) (lowTx _) (lowSt _) (lowSt _))
  rw [if_neg c1] at hx
  have b1 : (w == wDef) = false := beq_false_of_ne c1
  by_cases c2 : w = wIf
  ·rw [if_pos c2] at hx
   subst c2
   have hne := wd_ne hw.symm (by decide)
   have hwr := rd_next hne hr hl
   cases hx1 : exprR e F 0 q.next with
   | none => rw [hx1] at hx; cases hx
   | some z =>
   rw [hx1] at hx
   have hr1 := (allR e l F).expr _ _ (next_s hr) _ hx1
   obtain ⟨⟨xk, xn, xt, xs, xm⟩, q1⟩ := z
   have hr1 : q1.r <:+ l := hr1
   have hx : (blockR e F b d q1).bind (fun l => if isR [wElse] l.2 then (blockR e F b d l.2.next).bind fun m => some (.mk 7 [] [] (.mk xk xn xt xs xm) l.1 m.1, m.2) else some (.mk 7 [] [] (.mk xk xn xt xs xm) l.1 [], l.2)) = some y := hx
   have h2 := rexprT F v l q.next e b d 0 _ q1 [stO2] (next_s hr) hl (by omega) hx1
   cases hx2 : blockR e F b d q1 with
   | none => rw [hx2] at hx; cases hx
   | some z =>
   rw [hx2] at hx
   have hr2 := (allRS e l F).block _ _ _ hr1 _ hx2
   obtain ⟨ls, q2⟩ := z
   have hr2 : q2.r <:+ l := hr2
   have hx : (if isR [wElse] q2 then (blockR e F b d q2.next).bind fun m => some (.mk 7 [] [] (.mk xk xn xt xs xm) ls m.1, m.2) else some (.mk 7 [] [] (.mk xk xn xt xs xm) ls [], q2)) = some y := hx
   have h3 := fun τ => hB.tail v l q1 e b d ls q2 τ hr1 hl hT (by omega) (by omega) hx2
   have hi := fun τ => risT v l q2 e b d 0 [wElse] true true τ (by decide) hr2 hl
   refine pa [.b false, .b true] rfl ?_ ?_
   ·(repeat' with_reducible apply AllP_cons) <;> first | exact aC | skip
   refine S_heap (rdB v l q.next e b d 0 :: [stO2]) ?_ ?_
   ·show rdI v l (IntKind.i64.wrap (((l.length - q.r.length : Nat) : Int) + 1)) q.f e b d (0 : Nat) :: _ = _
    rw [hwr]; rfl
   by_cases c3 : isR [wElse] q2 = true
   ·rw [if_pos c3] at hx
    rw [c3] at hi
    have hwr2 := rd_next (isR_ne c3) hr2 hl
    cases hx3 : blockR e F b d q2.next with
    | none => rw [hx3] at hx; cases hx
    | some z =>
    rw [hx3] at hx
    obtain ⟨ms, q3⟩ := z
    cases hx
    have h4 := fun τ => hB.tail v l q2.next e b d ms q3 τ (next_s hr2) hl hT (by omega) (by omega) hx3
    refine pa [.f (exA (.mk xk xn xt xs xm)) (fun σ => rdB v l q1 e b d 0 :: σ.tail), .f (stsA ls) (fun σ => rdB v l q2 e b d 0 :: σ.tail), .k (.bool true), .b true] rfl ?_ ?_
    ·(repeat' with_reducible apply AllP_cons) <;> first | exact aC | skip
     ·exact h3 _
     ·exact hi _
    refine S_heap (rdB v l q2.next e b d 0 :: _) (by
     show rdI v l (IntKind.i64.wrap (((l.length - q2.r.length : Nat) : Int) + 1)) q2.f e b d (0 : Nat) :: _ = _
     rw [hwr2]; rfl) ?_
    refine pa [.f (stsA ms) (fun σ => rdB v l q3 e b d 0 :: σ.tail)] rfl ?_ ?_
    ·(repeat' with_reducible apply AllP_cons) <;> first | exact aC | skip
     exact h4 _
    refine S_ret ⟨_, _, rfl, ⟨rfl, trivial⟩, ?_⟩
    exact rfin (stFz10 .nils (lowEx _) (lowTx _) (lowSt _) (lowSt _))
   ·rw [if_neg c3] at hx
    rw [(Bool.not_eq_true _).mp c3] at hi
    cases hx
    refine pa [.f (exA (.mk xk xn xt xs xm)) (fun σ => rdB v l q1 e b d 0 :: σ.tail), .f (stsA ls) (fun σ => rdB v l q2 e b d 0 :: σ.tail), .k (.bool false), .b false] rfl ?_ ?_
    ·(repeat' with_reducible apply AllP_cons) <;> first | exact aC | skip
     ·exact h3 _
     ·exact hi _
    refine S_ret ⟨_, _, rfl, ⟨rfl, trivial⟩, ?_⟩
    exact rfin (stFz10 .nils (lowEx _) (lowTx _) (lowSt _) .nils)
  rw [if_neg c2] at hx
  have b2 : (w == wIf) = false := beq_false_of_ne c2
  by_cases c3 : w = wFor
  ·rw [if_pos c3] at hx
   subst c3
   have hne := wd_ne hw.symm (by decide)
   have hwr := rd_next hne hr hl
   have h2 := rkindT v l q.next e b d 0 1 [stO2] (by decide) (next_s hr) hl
   have hr2 : (kindR e 1 q.next).2.r <:+ l := kind_s (next_s hr)
   obtain ⟨xx, hxx⟩ : ∃ xx, xx = kindR e 1 q.next := ⟨_, rfl⟩
   rw [← hxx] at h2 hr2 hx
   obtain ⟨t2, q2⟩ := xx
   have hr2 : q2.r <:+ l := hr2
   have hx : (exprR e F 0 (signR e wIn q2)).bind (fun x => (blockR e F b d x.2).bind fun l => some (.mk 8 t2 [] x.1 l.1 [], l.2)) = some y := hx
   have h3 := fun τ => rsignT v l q2 e b d 0 wIn τ hr2 hl
   have hr3 : (signR e wIn q2).r <:+ l := sign_s hr2
   obtain ⟨q3, hq3⟩ : ∃ q3, q3 = signR e wIn q2 := ⟨_, rfl⟩
   rw [← hq3] at h3 hr3 hx
   cases hx1 : exprR e F 0 q3 with
   | none => rw [hx1] at hx; cases hx
   | some z =>
   rw [hx1] at hx
   have hr4 := (allR e l F).expr _ _ hr3 _ hx1
   obtain ⟨⟨xk, xn, xt, xs, xm⟩, q4⟩ := z
   have hr4 : q4.r <:+ l := hr4
   have hx : (blockR e F b d q4).bind (fun l => some (.mk 8 t2 [] (.mk xk xn xt xs xm) l.1 [], l.2)) = some y := hx
   have h4 := fun τ => rexprT F v l q3 e b d 0 _ q4 τ hr3 hl (by omega) hx1
   cases hx2 : blockR e F b d q4 with
   | none => rw [hx2] at hx; cases hx
   | some z =>
   rw [hx2] at hx
   obtain ⟨ls, q5⟩ := z
   cases hx
   have h5 := fun τ => hB.tail v l q4 e b d ls q5 τ hr4 hl hT (by omega) (by omega) hx2
   refine pa [.b false, .b false, .b true] rfl ?_ ?_
   ·(repeat' with_reducible apply AllP_cons) <;> first | exact aC | skip
   refine S_heap (rdB v l q.next e b d 0 :: [stO2]) ?_ ?_
   ·show rdI v l (IntKind.i64.wrap (((l.length - q.r.length : Nat) : Int) + 1)) q.f e b d (0 : Nat) :: _ = _
    rw [hwr]; rfl
   refine pa [.f (.str t2) (fun σ => rdB v l q2 e b d 0 :: σ.tail), .f (.tup []) (fun σ => rdB v l q3 e b d 0 :: σ.tail), .f (exA (.mk xk xn xt xs xm)) (fun σ => rdB v l q4 e b d 0 :: σ.tail), .f (stsA ls) (fun σ => rdB v l q5 e b d 0 :: σ.tail)] rfl ?_ ?_
   ·(repeat' with_reducible apply AllP_cons) <;> first | exact aC | skip
    ·exact h3 _
    ·exact h4 _
    ·exact h5 _
   refine S_ret ⟨_, _, rfl, ⟨rfl, trivial⟩, ?_⟩
   exact rfin (stFz10 .nils (lowEx _) (lowTx _) (lowSt _) .nils)
  rw [if_neg c3] at hx
  have b3 : (w == wFor) = false := beq_false_of_ne c3
  have hlk1 := rlook1T v l q e b d 0 [stO2, stO2] hr hl
  obtain ⟨k2, hk2⟩ : ∃ k, k = lkK1 q := ⟨_, rfl⟩
  obtain ⟨t2, ht2⟩ : ∃ t, t = lkT1 q := ⟨_, rfl⟩
  rw [← hk2, ← ht2] at hlk1
  cases hx1 : smallR e F d b q with
  | none => rw [hx1] at hx; cases hx
  | some z =>
  rw [hx1] at hx
  have hr9 := (smallR_s e l F d b q hr) _ hx1
  obtain ⟨s9, q9⟩ := z
  have hr9 : q9.r <:+ l := hr9
  have hx : some (s9, (kindR e 6 q9).2) = some y := hx
  have hnm : nameR q = (k0 == 1 && k2 == 4 && t2 == [61]) := by unfold nameR; rw [hk0, hk2, ht2]
  unfold smallR at hx1
  rw [← hw, hnm] at hx1
  refine' S_shareR [(0, .ptr 0 v 0), (2, .ptr 1 0 0), (7, .ptr 2 0 0), (156, .ptr 0 v 0)] [rdB v l q9 e b d 0, stO2, stBx s9] (fun cont => ?main) ?rest
  case main =>
   refine pa [.b false, .b false, .b false, .k (lookA k2 t2), .k (lookA k2 t2)] rfl ?_ ?_
   ·(repeat' with_reducible apply AllP_cons) <;> first | exact aC | skip
   by_cases d1 : w = wPass
   ·rw [if_pos d1] at hx1
    have hwr := rd_next (wd_ne (hw.symm.trans d1) (by decide)) hr hl
    have bb : (w == wPass) = true := by rw [d1]; decide
    have hx1 := Option.some.inj hx1
    have hs9 : s9 = .mk 1 [] [] .zero [] [] := (Prod.mk.inj hx1).1.symm
    have hq9 : q9 = q.next := (Prod.mk.inj hx1).2.symm
    refine pa [.b true] rfl ?_ ?_
    ·(repeat' with_reducible apply AllP_cons) <;> first | exact aC | skip
    refine S_heap (rdB v l q.next e b d 0 :: [stO2, (0, some (.cells [.int .i64 1, .str [], .nils, .int .i64 0, .int .i64 0, .str [], .nils, .nils, .nils, .nils] ⟨false, some 56⟩))]) (by
     show rdI v l (IntKind.i64.wrap (((l.length - q.r.length : Nat) : Int) + 1)) q.f e b d (0 : Nat) :: _ = _
     rw [hwr]; rfl) ?_
    refine S_wkB 2 [.int .i64 1, .str [], .sl true false 1 [], .int .i64 0, .int .i64 0, .str [], .sl true false 5 [], .sl true false 1 [], .sl true false 10 [], .sl true false 10 []] rfl (.cons .refl (.cons .refl (.cons .nils (.cons .refl (.cons .refl (.cons .refl (.cons .nils (.cons .nils (.cons .nils (.cons .nils .nil)))))))))) ⟨.skip, _, .inr ⟨_, _, _, rfl⟩⟩ ?_
    refine S_heap [rdB v l q9 e b d 0, stO2, stBx s9] (by rw [hs9, hq9]; rfl) ?_
    exact cont _ (.cons rfl (.cons rfl (.cons rfl (.cons rfl (.nil _)))))
   rw [if_neg d1] at hx1
   have b4 : (w == wPass) = false := beq_false_of_ne d1
   by_cases d2 : w = wReturn
   ·rw [if_pos d2] at hx1
    have hne := wd_ne (hw.symm.trans d2) (by decide)
    have bb : (w == wReturn) = true := by rw [d2]; decide
    obtain ⟨q0, hq0⟩ : ∃ q0, q0 = if d = 0 then failR e 4 q else q := ⟨_, rfl⟩
    rw [← hq0] at hx1
    have hr0 : q0.r <:+ l := by rw [hq0]; exact ite_s (fail_s hr) hr
    have hqr : q0.r = q.r := by rw [hq0]; split; exact fail_r; rfl
    have hwr := rd_next (by rw [hqr]; exact hne) hr0 hl
    refine' S_shareU [(0, .ptr 0 v 0), (2, .ptr 1 0 0), (7, .ptr 2 0 0)] (fun _ : Unit => [rdB v l q0 e b d 0, stO2, stO2]) (fun _ => True) (fun cont2 => ?main2) ?rest2
    case main2 =>
     by_cases d0 : d = 0
     ·rw [if_pos d0] at hq0
      have e0 : (((d : Nat) : Int) == 0) = true := by rw [d0]; rfl
      have hf := rfailT v l q e b d 0 4 [stO2, stO2] hr hl
      rw [← hq0] at hf
      refine pa [.b false, .b true, .b true, .f (.tup []) (fun σ => rdB v l q0 e b d 0 :: σ.tail), .s] rfl ?_ ?_
      ·(repeat' with_reducible apply AllP_cons) <;> first | exact aC | skip
      exact cont2 () _ trivial (.cons rfl (.cons rfl (.cons rfl (.nil _))))
     ·rw [if_neg d0] at hq0
      have e0 : (((d : Nat) : Int) == 0) = false := beq_false_of_ne (by omega)
      refine pa [.b false, .b true, .b false, .s] rfl ?_ ?_
      ·(repeat' with_reducible apply AllP_cons) <;> first | exact aC | skip
      rw [← hq0]
      exact cont2 () _ trivial (.cons rfl (.cons rfl (.cons rfl (.nil _))))
    case rest2 =>
    rintro _ _
    have hlk3 := fun τ => rlookT v l q0.next e b d 0 τ (next_s hr0) hl
    refine pa [] rfl ?_ ?_
    ·(repeat' with_reducible apply AllP_cons) <;> first | exact aC | skip
    refine S_heap (rdB v l q0.next e b d 0 :: _) (by
     show rdI v l (IntKind.i64.wrap (((l.length - q0.r.length : Nat) : Int) + 1)) q0.f e b d (0 : Nat) :: _ = _
     rw [hwr]; rfl) ?_
    by_cases k6 : lkK q0.next = 6
    ·have hx1 : (if lkK q0.next ≠ 6 then _ else some (St.mk 2 [] [] (.mk 1 0 [] [] []) [] [], q0.next)) = some (s9, q9) := hx1
     rw [if_neg (fun h => h k6)] at hx1
     cases hx1
     rw [k6] at hlk3
     refine pa [.k (lookA 6 (lkT q0.next)), .b false] rfl ?_ ?_
     ·(repeat' with_reducible apply AllP_cons) <;> first | exact aC | skip
      exact hlk3 _
     refine S_wkB 2 [.int .i64 2, .str [], .sl true false 1 [], .int .i64 1, .int .i64 0, .str [], .sl true false 5 [], .sl true false 1 [], .sl true false 10 [], .sl true false 10 []] rfl (.cons .refl (.cons .refl (.cons .nils (.cons .refl (.cons .refl (.cons .refl (.cons .nils (.cons .nils (.cons .nils (.cons .nils .nil)))))))))) ⟨.skip, _, .inr ⟨_, _, _, rfl⟩⟩ ?_
     exact cont _ (.cons rfl (.cons rfl (.cons rfl (.cons rfl (.nil _)))))
    ·have hx1 : (if lkK q0.next ≠ 6 then (exprR e F 0 q0.next).bind fun x => some (St.mk 2 [] [] x.1 [] [], x.2) else some (St.mk 2 [] [] (.mk 1 0 [] [] []) [] [], q0.next)) = some (s9, q9) := hx1
     rw [if_pos k6] at hx1
     cases hx2 : exprR e F 0 q0.next with
     | none => rw [hx2] at hx1; cases hx1
     | some z =>
     rw [hx2] at hx1
     obtain ⟨⟨xk, xn, xt, xs, xm⟩, q1⟩ := z
     cases hx1
     have h2 := fun τ => rexprT F v l q0.next e b d 0 _ q1 τ (next_s hr0) hl (by omega) hx2
     obtain ⟨k9, hk9⟩ : ∃ k, k = lkK q0.next := ⟨_, rfl⟩
     rw [← hk9] at hlk3 k6
     have e6 : (((k9 : Nat) : Int) != 6) = true := bne_iff_ne.2 (by omega)
     refine pa [.k (lookA k9 (lkT q0.next)), .b true, .f (exA (.mk xk xn xt xs xm)) (fun σ => rdB v l q1 e b d 0 :: σ.tail)] rfl ?_ ?_
     ·(repeat' with_reducible apply AllP_cons) <;> first | exact aC | skip
      ·exact hlk3 _
      ·exact h2 _
     refine S_wkB 2 [.int .i64 2, .str [], .sl true false 1 [], .int .i64 (xk : Nat), .int .i64 (xn : Nat), .str xt, .sl true false 5 (exL xs), .sl true false 1 (texts xm), .sl true false 10 [], .sl true false 10 []] rfl (.cons .refl (.cons .refl (.cons .nils (.cons .refl (.cons .refl (.cons .refl (.cons .refl (.cons .refl (.cons .nils (.cons .nils .nil)))))))))) ⟨.skip, _, .inr ⟨_, _, _, rfl⟩⟩ ?_
     exact cont _ (.cons rfl (.cons rfl (.cons rfl (.cons rfl (.nil _)))))
   rw [if_neg d2] at hx1
   have b5 : (w == wReturn) = false := beq_false_of_ne d2
   by_cases d3 : w = wLoad
   ·rw [if_pos d3] at hx1
    have bb : (w == wLoad) = true := by rw [d3]; decide
    obtain ⟨sk, st, sn, ⟨xk, xn, xt, xs, xm⟩, sb, se⟩ := s9
    have h2 : CallOk cx 69 [.ptr 0 v 0] (rdB v l q e b d 0 :: [stO2, stO2]) _ := rT (rload_ok F v l q e b d 0 _ hF hr hl hT hx1) (stA_free _) (by simp) [stO2, stO2]
    refine pa [.b false, .b false, .b true, .f (stA (.mk sk st sn (.mk xk xn xt xs xm) sb se)) (fun σ => rdB v l q9 e b d 0 :: σ.tail)] rfl ?_ ?_
    ·(repeat' with_reducible apply AllP_cons) <;> first | exact aC | skip
    exact cont _ (.cons rfl (.cons rfl (.cons rfl (.cons rfl (.nil _)))))
   rw [if_neg d3] at hx1
   have b6 : (w == wLoad) = false := beq_false_of_ne d3
   by_cases c4 : (k0 == 1 && k2 == 4 && t2 == [61]) = true
   ·rw [if_pos c4] at hx1
    have hc4 := c4
    simp only [Bool.and_eq_true, beq_iff_eq] at hc4
    obtain ⟨⟨z1, z4⟩, z5⟩ := hc4
    have h2 := rkindT v l q e b d 0 1 [stO2, stO2] (by decide) hr hl
    have hr2 : (kindR e 1 q).2.r <:+ l := kind_s hr
    obtain ⟨xx, hxx⟩ : ∃ xx, xx = kindR e 1 q := ⟨_, rfl⟩
    have hx1 : (exprR e F 0 (signR e [61] (kindR e 1 q).2)).bind (fun y => some (.mk 3 (kindR e 1 q).1 [] y.1 [] [], y.2)) = some (s9, q9) := hx1
    rw [← hxx] at h2 hr2 hx1
    obtain ⟨t3, q3⟩ := xx
    have hr2 : q3.r <:+ l := hr2
    have hx1 : (exprR e F 0 (signR e [61] q3)).bind (fun y => some (.mk 3 t3 [] y.1 [] [], y.2)) = some (s9, q9) := hx1
    have h3 := fun τ => rsignT v l q3 e b d 0 [61] τ hr2 hl
    have hr3 : (signR e [61] q3).r <:+ l := sign_s hr2
    obtain ⟨q4, hq4⟩ : ∃ q4, q4 = signR e [61] q3 := ⟨_, rfl⟩
    rw [← hq4] at h3 hr3 hx1
    cases hx2 : exprR e F 0 q4 with
    | none => rw [hx2] at hx1; cases hx1
    | some z =>
    rw [hx2] at hx1
    obtain ⟨⟨xk, xn, xt, xs, xm⟩, q1⟩ := z
    cases hx1
    have h4 := fun τ => rexprT F v l q4 e b d 0 _ q1 τ hr3 hl (by omega) hx2
    subst z1; subst z4; subst z5
    refine pa [.b false, .b false, .b false, .b true, .b true, .b true, .f (.str t3) (fun σ => rdB v l q3 e b d 0 :: σ.tail), .f (.tup []) (fun σ => rdB v l q4 e b d 0 :: σ.tail), .f (exA (.mk xk xn xt xs xm)) (fun σ => rdB v l q1 e b d 0 :: σ.tail)] rfl ?_ ?_
    ·(repeat' with_reducible apply AllP_cons) <;> first | exact aC | skip
     ·exact h3 _
     ·exact h4 _
    refine S_wkB 2 [.int .i64 3, .str t3, .sl true false 1 [], .int .i64 (xk : Nat), .int .i64 (xn : Nat), .str xt, .sl true false 5 (exL xs), .sl true false 1 (texts xm), .sl true false 10 [], .sl true false 10 []] rfl (.cons .refl (.cons .refl (.cons .nils (.cons .refl (.cons .refl (.cons .refl (.cons .refl (.cons .refl (.cons .nils (.cons .nils .nil)))))))))) ⟨.skip, _, .inr ⟨_, _, _, rfl⟩⟩ ?_
    exact cont _ (.cons rfl (.cons rfl (.cons rfl (.cons rfl (.nil _)))))
   rw [if_neg c4] at hx1
   cases hx2 : exprR e F 0 q with
   | none => rw [hx2] at hx1; cases hx1
   | some z =>
   rw [hx2] at hx1
   obtain ⟨⟨xk, xn, xt, xs, xm⟩, q1⟩ := z
   cases hx1
   have h4 := rexprT F v l q e b d 0 _ q1 [stO2, stO2] hr hl (by omega) hx2
   refine' S_shareR [(0, .ptr 0 v 0), (2, .ptr 1 0 0), (7, .ptr 2 0 0)] [rdB v l q e b d 0, stO2, stO2] (fun cont3 => ?main3) ?rest3
   case main3 =>
    by_cases z1 : k0 = 1
    ·have e1 : (((k0 : Nat) : Int) == 1) = true := by rw [z1]; rfl
     by_cases z4 : k2 = 4
     ·have e4 : (((k2 : Nat) : Int) == 4) = true := by rw [z4]; rfl
      have e5 : (t2 == [61]) = false := by
       cases hh : (t2 == [61]) with
       | false => rfl
       | true => exact absurd (by rw [z1, z4, hh]; rfl) c4
      refine pa [.b false, .b false, .b false, .b true, .b true, .b false, .s] rfl ?_ ?_
      ·(repeat' with_reducible apply AllP_cons) <;> first | exact aC | skip
      exact cont3 _ (.cons rfl (.cons rfl (.cons rfl (.nil _))))
     ·have e4 : (((k2 : Nat) : Int) == 4) = false := beq_false_of_ne (by omega)
      refine pa [.b false, .b false, .b false, .b true, .b false, .b false, .s] rfl ?_ ?_
      ·(repeat' with_reducible apply AllP_cons) <;> first | exact aC | skip
      exact cont3 _ (.cons rfl (.cons rfl (.cons rfl (.nil _))))
    ·have e4 : (((k0 : Nat) : Int) == 1) = false := beq_false_of_ne (by omega)
     refine pa [.b false, .b false, .b false, .b false, .b false, .b false, .s] rfl ?_ ?_
     ·(repeat' with_reducible apply AllP_cons) <;> first | exact aC | skip
     exact cont3 _ (.cons rfl (.cons rfl (.cons rfl (.nil _))))
   case rest3 =>
    refine pa [.f (exA (.mk xk xn xt xs xm)) (fun σ => rdB v l q1 e b d 0 :: σ.tail)] rfl ?_ ?_
    ·(repeat' with_reducible apply AllP_cons) <;> first | exact aC | skip
    refine S_wkB 2 [.int .i64 5, .str [], .sl true false 1 [], .int .i64 (xk : Nat), .int .i64 (xn : Nat), .str xt, .sl true false 5 (exL xs), .sl true false 1 (texts xm), .sl true false 10 [], .sl true false 10 []] rfl (.cons .refl (.cons .refl (.cons .nils (.cons .refl (.cons .refl (.cons .refl (.cons .refl (.cons .refl (.cons .nils (.cons .nils .nil)))))))))) ⟨.skip, _, .inr ⟨_, _, _, rfl⟩⟩ ?_
    exact cont _ (.cons rfl (.cons rfl (.cons rfl (.cons rfl (.nil _)))))
  case rest =>
   obtain ⟨sk, st, sn, ⟨xk, xn, xt, xs, xm⟩, sb, se⟩ := s9
   have h6 := rkindT v l q9 e b d 0 6 [stO2, stBx (.mk sk st sn (.mk xk xn xt xs xm) sb se)] (by decide) hr9 hl
   cases hx
   refine pa [.f (.str (kindR e 6 q9).1) (fun σ => rdB v l (kindR e 6 q9).2 e b d 0 :: σ.tail)] rfl ?_ ?_
   ·(repeat' with_reducible apply AllP_cons) <;> first | exact aC | skip
   refine S_ret ⟨_, _, rfl, ⟨rfl, trivial⟩, ?_⟩
   exact rfin (stFz10 (lowTx _) (lowEx _) (lowTx _) (lowSt _) (lowSt _))
end Go.Proofs.YtonjhfeabphaaaaGreatDoor
end
section
set_option linter.unusedVariables false
set_option linter.unusedSimpArgs false
set_option maxRecDepth 20000
namespace Go.Proofs.YtonjhfeabphaaaaGreatDoor
open Go Go.Ab
def TokK (t : Tok) : Prop := 1 ≤ t.kind ∧ (t.kind = 4 → t.text ∈ signs18)
theorem hdK_nil {r : List Tok} (hr : ∀ t ∈ r, TokK t) (h : hdK r = 0) : r = [] := by
 cases r with
 | nil => rfl
 | cons t u =>
  have h : t.kind = 0 := h
  have := (hr t (List.mem_cons_self ..)).1
  omega
def kWords : List (List UInt8) := [wDef, wIf, wFor, wPass, wReturn, wLoad]
theorem wd_is {r : List Tok} {w : List UInt8} (hr : ∀ t ∈ r, TokK t) (hw : w ∈ kWords) : wd ⟨r, (0, 0)⟩ = w ↔ isS w r = true := by
 have hne : w ≠ [] := by rintro rfl; revert hw; decide
 have hns : w ∉ signs18 := by
  have : ∀ w ∈ kWords, w ∉ signs18 := by decide
  exact this w hw
 show (if hdK r = 5 then hdT r else []) = w ↔ _
 unfold isS
 constructor
 ·intro h
  split at h
  ·rename_i h5; rw [h5, h]; simp
  ·exact absurd h.symm hne
 ·intro h
  simp only [Bool.and_eq_true, Bool.or_eq_true, beq_iff_eq] at h
  obtain ⟨h4 | h5, ht⟩ := h
  ·exfalso
   cases r with
   | nil => cases h4
   | cons t u =>
    have := (hr t (List.mem_cons_self ..)).2 h4
    have ht : t.text = w := ht
    rw [ht] at this
    exact hns this
  ·rw [if_pos h5]; exact ht
theorem isS_wd {r : List Tok} {w : List UInt8} (hr : ∀ t ∈ r, TokK t) (hw : w ∈ kWords) {α : Type} {a b : α} : (if wd ⟨r, (0, 0)⟩ = w then a else b) = if isS w r then a else b := by
 by_cases h : isS w r = true
 ·rw [if_pos h, if_pos ((wd_is hr hw).2 h)]
 ·rw [if_neg h, if_neg (fun h' => h ((wd_is hr hw).1 h'))]
structure Dead (r : List Tok) : Prop where
 is : ∀ s, isS s r = false
 kind : hdK r ≠ 1 ∧ hdK r ≠ 2 ∧ hdK r ≠ 3
theorem dead_of {r : List Tok} (h : hdK r = 0 ∨ hdK r = 8) : Dead r := by
 refine ⟨fun s => ?_, by omega⟩
 unfold isS
 rcases h with h | h <;> rw [h] <;> rfl
def DeadP {α : Type} (r : List Tok) (x : Pr α) : Prop := x = .out ∨ x = .bad 1 r
theorem DeadP.bind {α β : Type} {r : List Tok} {x : Pr α} {f : α → List Tok → Pr β} (h : DeadP r x) : DeadP r (x.bind f) := by
 rcases h with rfl | rfl
 ·exact .inl rfl
 ·exact .inr rfl
theorem atom_dead {r : List Tok} (h : Dead r) (n : Nat) : ∀ F, DeadP r (atomS F n r)
 | 0 => .inl rfl
 | F + 1 => by
  cases r with
  | nil => exact .inr rfl
  | cons t u =>
   have hk := h.kind
   refine .inr ?_
   rw [atomS]
   rw [if_neg (show ¬ t.kind = 1 from hk.1), if_neg (show ¬ t.kind = 2 from hk.2.1), if_neg (show ¬ t.kind = 3 from hk.2.2), h.is, h.is, h.is, h.is, h.is, h.is]
   rfl
theorem lev_dead {r : List Tok} (h : Dead r) (n : Nat) : ∀ F k, DeadP r (levS F k n r)
 | 0, _ => .inl rfl
 | F + 1, k => by
  match k with
  | 2 => rw [levS_2, h.is, if_neg (by decide)]; exact (lev_dead h n F 3).bind
  | 5 => rw [levS_5, h.is, if_neg (by decide)]; exact (atom_dead h n F).bind
  | 0 => exact (lev_dead h n F 1).bind
  | 1 => exact (lev_dead h n F 2).bind
  | 3 => exact (lev_dead h n F 4).bind
  | 4 => exact (lev_dead h n F 5).bind
  | k + 6 => exact (lev_dead h n F (k + 7)).bind
theorem expr_dead {r : List Tok} (h : Dead r) : ∀ F, DeadP r (exprS F 0 r)
 | 0 => .inl rfl
 | F + 1 => by rw [exprS, if_neg (by decide)]; exact lev_dead h 1 F 0
theorem stmt_dead {r : List Tok} (h : Dead r) (b d : Nat) : ∀ F, DeadP r (stmtS F b d r)
 | 0 => .inl rfl
 | F + 1 => by
  rw [stmtS, h.is, h.is, h.is, if_neg (by decide), if_neg (by decide), if_neg (by decide)]
  unfold smallS
  have hn : nameS r = false := by
   unfold nameS
   rw [beq_false_of_ne h.kind.1]; rfl
  rw [h.is, h.is, h.is, hn, if_neg (by decide), if_neg (by decide), if_neg (by decide), if_neg (by decide)]
  exact ((expr_dead h F).bind).bind
def Ax (e : Nat) (top : Bool) (x : Pr (List St)) (y : Option (List St × Rd)) : Prop := match x with
 | .out => True
 | .ok v u => y = some (v, ⟨u, (0, 0)⟩)
 | .bad k u => k ≠ 0 ∧ ((∃ v w, y = some (v, ⟨w, (k, placeS e u)⟩)) ∨ (k = 1 ∧ (if top then hdK u = 8 else u = []) ∧ ∃ v, y = some (v, ⟨u, (0, 0)⟩)))
theorem param_a (e : Nat) : ∀ (F G : Nat) (ns : List (List UInt8)) (r : List Tok), F ≤ G → (ns.length = 0 → hdK r = 1) → Ag e (paramS F ns r) (paramR e G ns ⟨r, (0, 0)⟩)
 | 0, _, _, _, _, _ => trivial
 | F + 1, 0, _, _, h, _ => absurd h (by omega)
 | F + 1, G + 1, ns, r, h, hn => by
  rw [paramS]
  show Ag e _ (if ns.length = 0 ∧ hdK r ≠ 1 then some (ns, ⟨r, (0, 0)⟩)
   else (fun x : List UInt8 × Rd => if isR [[44]] x.2 then paramR e G (ns ++ [x.1]) x.2.next else some (ns ++ [x.1], x.2)) (kindR e 1 (if hdK r = 1 ∧ ns.contains (hdT r) = true then failR e 6 ⟨r, (0, 0)⟩ else ⟨r, (0, 0)⟩)))
  rw [if_neg (show ¬ (ns.length = 0 ∧ hdK r ≠ 1) from fun h => h.2 (hn h.1))]
  have bp : Bp fun x : List UInt8 × Rd => if isR [[44]] x.2 then paramR e G (ns ++ [x.1]) x.2.next else some (ns ++ [x.1], x.2) := fun v q hq => ⟨ns ++ [v], q.r, by
   show (if isR [[44]] q = true then _ else _) = _
   rw [isR_bad hq, if_neg (by decide)]⟩
  by_cases c : (hdK r == 1 && ns.contains (hdT r)) = true
  ·rw [if_pos c, if_pos (by simpa using c)]
   obtain ⟨z, w, hz⟩ := bp [] (failR e 6 ⟨r, (0, 0)⟩) rfl
   refine ⟨by decide, z, w, ?_⟩
   rw [kindR_bad (show (failR e 6 ⟨r, (0, 0)⟩).bad = true from rfl) (by decide)]
   exact hz
  ·rw [if_neg c, if_neg (by simpa using c)]
   refine Ag.take (by decide) (fun t u _ => ?_) bp
   show Ag e _ (if isR [[44]] ⟨u, (0, 0)⟩ then paramR e G (ns ++ [t.text]) ⟨u.tail, (0, 0)⟩ else some (ns ++ [t.text], ⟨u, (0, 0)⟩))
   rw [isR_one]
   refine .ite (fun h1 => ?_) (fun h1 => ?_)
   ·rw [if_pos h1]; exact param_a e F G _ _ (by omega) (fun h => by simp at h)
   ·rw [if_neg h1]; exact .okv
theorem names_a (e : Nat) : ∀ (F G : Nat) (ns : List (List UInt8)) (r : List Tok), F ≤ G → Ag e (namesS F ns r) (namesR e G ns ⟨r, (0, 0)⟩)
 | 0, _, _, _, _ => trivial
 | F + 1, 0, _, _, h => absurd h (by omega)
 | F + 1, G + 1, ns, r, h => by
  rw [namesS]
  show Ag e _ ((fun x : List UInt8 × Rd => if isR [[44]] x.2 then namesR e G (ns ++ [x.1]) x.2.next else some (ns ++ [x.1], x.2)) (kindR e 3 (if hdK r = 3 ∧ isNm (hdT r) = false then failR e 1 ⟨r, (0, 0)⟩ else ⟨r, (0, 0)⟩)))
  have bp : Bp fun x : List UInt8 × Rd => if isR [[44]] x.2 then namesR e G (ns ++ [x.1]) x.2.next else some (ns ++ [x.1], x.2) := fun v q hq => ⟨ns ++ [v], q.r, by
   show (if isR [[44]] q = true then _ else _) = _
   rw [isR_bad hq, if_neg (by decide)]⟩
  by_cases c : (hdK r == 3 && !isNm (hdT r)) = true
  ·rw [if_pos c, if_pos (by simpa using c)]
   obtain ⟨z, w, hz⟩ := bp [] (failR e 1 ⟨r, (0, 0)⟩) rfl
   refine ⟨by decide, z, w, ?_⟩
   rw [kindR_bad (show (failR e 1 ⟨r, (0, 0)⟩).bad = true from rfl) (by decide)]
   exact hz
  ·rw [if_neg c, if_neg (by simpa using c)]
   refine Ag.take (by decide) (fun t u _ => ?_) bp
   show Ag e _ (if isR [[44]] ⟨u, (0, 0)⟩ then namesR e G (ns ++ [t.text]) ⟨u.tail, (0, 0)⟩ else some (ns ++ [t.text], ⟨u, (0, 0)⟩))
   rw [isR_one]
   refine .ite (fun h1 => ?_) (fun h1 => ?_)
   ·rw [if_pos h1]; exact names_a e F G _ _ (by omega)
   ·rw [if_neg h1]; exact .okv
theorem namesR_bad' {e : Nat} : ∀ {F : Nat} {ns : List (List UInt8)} {q : Rd}, q.bad = true → namesR e F ns q = some (ns, q)
 | 0, _, _, h => if_pos h
 | F + 1, _, _, h => by unfold namesR; rw [if_pos h]
theorem paramR_bad' {e : Nat} : ∀ {F : Nat} {ns : List (List UInt8)} {q : Rd}, q.bad = true → paramR e F ns q = some (ns, q)
 | 0, _, _, h => if_pos h
 | F + 1, _, _, h => by unfold paramR; rw [if_pos h]
theorem signR_is {e : Nat} {s : List UInt8} {r : List Tok} (h : isS s r = true) : signR e s ⟨r, (0, 0)⟩ = ⟨r.tail, (0, 0)⟩ := by
 unfold signR; rw [isR_one, if_pos h]; rfl
theorem load_a (e F G b : Nat) (r : List Tok) (h : F ≤ G) (hw : isS wLoad r = true) : Ag e (loadS F b r) (loadR e G b ⟨r, (0, 0)⟩) := by
 unfold loadS loadR
 have bp2 : ∀ tx, Bp fun y : List (List UInt8) × Rd => some (St.mk 4 tx y.1 .zero [] [], signR e [41] y.2) := fun tx => bp_some (s := fun x => signR e [41] x.2) fun v q hq => signR_bad hq
 have bp1 : ∀ tx (q : Rd), q.bad = true → (namesR e G [] q).bind (fun y => some (St.mk 4 tx y.1 .zero [] [], signR e [41] y.2)) = some (.mk 4 tx [] .zero [] [], q) := fun tx q hq => by
  rw [namesR_bad' hq]
  show some (St.mk 4 tx [] .zero [] [], signR e [41] q) = _
  rw [signR_bad hq]
 refine .ite (fun hb => ?_) (fun hb => ?_)
 ·rw [if_pos hb]
  have hq : (failR e 4 ⟨r, (0, 0)⟩).bad = true := rfl
  rw [signR_bad hq, signR_bad hq, kindR_bad hq (by decide)]
  show Ag e _ ((namesR e G [] (signR e [44] (failR e 4 ⟨r, (0, 0)⟩))).bind fun y => some (St.mk 4 [] y.1 .zero [] [], signR e [41] y.2))
  rw [signR_bad hq, bp1 _ _ hq]
  exact .badv (by decide)
 ·rw [if_neg hb, signR_is hw]
  refine Ag.step (g := fun _ q => (namesR e G [] (signR e [44] (kindR e 3 q).2)).bind fun y => some (St.mk 4 (kindR e 3 q).1 y.1 .zero [] [], signR e [41] y.2)) (mustS_a e [40] _) (fun _ u _ => ?_) (fun _ q hq => ⟨_, q.r, by
   show (namesR e G [] (signR e [44] (kindR e 3 q).2)).bind _ = _
   rw [kindR_bad hq (by decide)]
   show (namesR e G [] (signR e [44] q)).bind _ = _
   rw [signR_bad hq]
   exact bp1 _ q hq⟩)
  refine Ag.take (g := fun x => (namesR e G [] (signR e [44] x.2)).bind fun y => some (St.mk 4 x.1 y.1 .zero [] [], signR e [41] y.2)) (by decide) (fun t u _ => ?_) (fun v q hq => ⟨_, q.r, by
   show (namesR e G [] (signR e [44] q)).bind _ = _
   rw [signR_bad hq]
   exact bp1 _ q hq⟩)
  refine Ag.step (g := fun _ q => (namesR e G [] q).bind fun y => some (St.mk 4 t.text y.1 .zero [] [], signR e [41] y.2)) (mustS_a e [44] _) (fun _ u _ => ?_) (fun _ q hq => ⟨_, q.r, bp1 _ q hq⟩)
  refine (names_a e F G [] u h).bind (fun ns u _ => ?_) (bp2 _)
  exact Ag.step (g := fun _ q => some (_, q)) (mustS_a e [41] u) (fun _ _ _ => .okv) (bp_some (s := fun x => x.2) fun _ _ _ => rfl)
theorem small_a (e F G b d : Nat) (r : List Tok) (hG : 4 * F ≤ G) (hr : ∀ t ∈ r, TokK t) : Ag e (smallS F b d r) (smallR e G d b ⟨r, (0, 0)⟩) := by
 unfold smallS smallR
 rw [isS_wd hr (by decide), isS_wd hr (by decide), isS_wd hr (by decide)]
 refine .ite (fun h => ?_) (fun h => ?_)
 ·rw [if_pos h]; exact .okv
 rw [if_neg h]
 refine .ite (fun h => ?_) (fun h => ?_)
 ·rw [if_pos h]
  refine .ite (fun h => ?_) (fun h => ?_)
  ·rw [if_pos h]
   have hq : (failR e 4 ⟨r, (0, 0)⟩).next.bad = true := rfl
   simp only
   rw [lkK_bad hq, if_pos (by decide), exprR_bad hq]
   exact ⟨by decide, _, _, rfl⟩
  ·rw [if_neg h]
   show Ag e _ (if hdK r.tail ≠ 6 then (exprR e G 0 ⟨r.tail, (0, 0)⟩).bind fun x => some (St.mk 2 [] [] x.1 [] [], x.2) else some (St.mk 2 [] [] (.mk 1 0 [] [] []) [] [], ⟨r.tail, (0, 0)⟩))
   refine .ite (fun h => ?_) (fun h => ?_)
   ·rw [if_pos h]
    exact ((allA e F).expr G 0 r.tail hG).bind (fun v u _ => .okv) (bp_some (s := fun x => x.2) fun _ _ _ => rfl)
   ·rw [if_neg h]; exact .okv
 rw [if_neg h]
 refine .ite (fun h => ?_) (fun h => ?_)
 ·rw [if_pos h]; exact load_a e F G b r (by omega) h
 rw [if_neg h]
 show Ag e _ (if nameS r then _ else _)
 refine .ite (fun h => ?_) (fun h => ?_)
 ·rw [if_pos h]
  have hc := h
  unfold nameS at hc
  simp only [Bool.and_eq_true, beq_iff_eq] at hc
  obtain ⟨⟨z1, z4⟩, z5⟩ := hc
  have hk : kindR e 1 ⟨r, (0, 0)⟩ = (hdT r, ⟨r.tail, (0, 0)⟩) := by
   unfold kindR
   rw [if_pos (show lkK ⟨r, (0, 0)⟩ = 1 from z1)]; rfl
  rw [hk]
  show Ag e _ ((exprR e G 0 (signR e [61] ⟨r.tail, (0, 0)⟩)).bind fun y => some (St.mk 3 (hdT r) [] y.1 [] [], y.2))
  rw [signR_is (by unfold isS; rw [z4, z5]; decide)]
  exact ((allA e F).expr G 0 r.tail.tail hG).bind (fun v u _ => .okv) (bp_some (s := fun x => x.2) fun _ _ _ => rfl)
 ·rw [if_neg h]
  exact ((allA e F).expr G 0 r hG).bind (fun v u _ => .okv) (bp_some (s := fun x => x.2) fun _ _ _ => rfl)
theorem stmtsR_bad {e F b d : Nat} {l : List St} {q : Rd} (h : q.bad = true) : stmtsR e F b d l q = some (l, q) := by
 cases F with
 | zero => unfold stmtsR; rw [lkK_bad h, if_pos (.inl rfl)]
 | succ G => rw [stmtsR, lkK_bad h, if_pos (.inl rfl)]
theorem blockR_bad {e F b d : Nat} {q : Rd} (h : q.bad = true) : blockR e F b d q = some ([], q) := by
 cases F with
 | zero => unfold blockR; rw [if_pos h]
 | succ G =>
  rw [blockR, signR_bad h, kindR_bad h (by decide)]
  show (stmtsR e G (b + 1) d [] (kindR e 7 q).2).bind _ = _
  rw [kindR_bad h (by decide)]
  show (stmtsR e G (b + 1) d [] q).bind _ = _
  rw [stmtsR_bad h]
  show some (([] : List St), (kindR e 8 q).2) = _
  rw [kindR_bad h (by decide)]
structure AllA2 (e F : Nat) : Prop where
 stmts : ∀ G top b d l r, 4 * F ≤ G → (∀ t ∈ r, TokK t) → Ax e top (stmtsS F top b d l r) (stmtsR e G b d l ⟨r, (0, 0)⟩)
 block : ∀ G b d r, 4 * F ≤ G → (∀ t ∈ r, TokK t) → Ag e (blockS F b d r) (blockR e G b d ⟨r, (0, 0)⟩)
 stmt : ∀ G b d r, 4 * F ≤ G → (∀ t ∈ r, TokK t) → Ag e (stmtS F b d r) (stmtR e G b d ⟨r, (0, 0)⟩)
theorem TokK.suf {u r : List Tok} (hr : ∀ t ∈ r, TokK t) (h : u <:+ r) : ∀ t ∈ u, TokK t := fun t ht => hr t (h.subset ht)
theorem allA2 (e F : Nat) : AllA2 e F := by
 induction F with
 | zero => exact ⟨fun _ _ _ _ _ _ _ _ => trivial, fun _ _ _ _ _ _ => trivial, fun _ _ _ _ _ _ => trivial⟩
 | succ F ih =>
  refine ⟨?_, ?_, ?_⟩
  ·intro G top b d l r hG hr
   obtain ⟨G, rfl⟩ : ∃ G', G = G' + 1 := ⟨G - 1, by omega⟩
   rw [stmtsS]
   show Ax e top _ (if hdK r = 0 ∨ hdK r = 8 then some (l, ⟨r, (0, 0)⟩) else (stmtR e G b d ⟨r, (0, 0)⟩).bind fun s => stmtsR e G b d (l ++ [s.1]) s.2)
   by_cases c : hdK r = 0 ∨ hdK r = 8
   ·rw [if_pos c]
    by_cases en : (if top then r.isEmpty else hdK r == 8) = true
    ·rw [if_pos en]; rfl
    ·rw [if_neg en]
     have hd := stmt_dead (dead_of c) b d F
     rcases hd with h | h
     ·rw [h]; trivial
     ·rw [h]
      refine ⟨by decide, .inr ⟨rfl, ?_, l, rfl⟩⟩
      cases top with
      | true =>
       rcases c with c | c
       ·have := hdK_nil hr c
        subst this
        exact absurd rfl en
       ·exact c
      | false =>
       rcases c with c | c
       ·exact hdK_nil hr c
       ·exact absurd (by show (hdK r == 8) = true; rw [c]; rfl) en
   ·rw [if_neg c]
    have en : ¬ (if top then r.isEmpty else hdK r == 8) = true := by
     intro h
     cases top with
     | true =>
      have : r = [] := by simpa using h
      subst this
      exact c (.inl rfl)
     | false => exact c (.inr (by simpa using h))
    rw [if_neg en]
    have hs := ih.stmt G b d r (by omega) hr
    cases hx : stmtS F b d r with
    | out => trivial
    | bad k u =>
     rw [hx] at hs
     obtain ⟨hk, v, w, hv⟩ := hs
     rw [hv]
     refine ⟨hk, .inl ⟨l ++ [v], w, ?_⟩⟩
     exact stmtsR_bad (Rd.bad_of hk)
    | ok v u =>
     rw [hx] at hs
     have hs : stmtR e G b d ⟨r, (0, 0)⟩ = some (v, ⟨u, (0, 0)⟩) := hs
     rw [hs]
     exact ih.stmts G top b d _ u (by omega) (TokK.suf hr ((allW F).stmt b d r v u hx))
  ·intro G b d r hG hr
   obtain ⟨G, rfl⟩ : ∃ G', G = G' + 1 := ⟨G - 1, by omega⟩
   rw [blockS, blockR]
   have bp3 : ∀ q : Rd, q.bad = true → (stmtsR e G (b + 1) d [] q).bind (fun l => some (l.1, (kindR e 8 l.2).2)) = some ([], q) := fun q hq => by
    rw [stmtsR_bad hq]
    show some (([] : List St), (kindR e 8 q).2) = _
    rw [kindR_bad hq (by decide)]
   refine Ag.step (g := fun _ q => (stmtsR e G (b + 1) d [] (kindR e 7 (kindR e 6 q).2).2).bind fun l => some (l.1, (kindR e 8 l.2).2)) (mustS_a e [58] r) (fun _ u hu => ?_) (fun _ q hq => ⟨_, q.r, by
    show (stmtsR e G (b + 1) d [] (kindR e 7 (kindR e 6 q).2).2).bind _ = _
    rw [kindR_bad hq (by decide)]
    show (stmtsR e G (b + 1) d [] (kindR e 7 q).2).bind _ = _
    rw [kindR_bad hq (by decide)]
    exact bp3 q hq⟩)
   have hu := TokK.suf hr (mustS_s _ _ _ _ hu)
   refine Ag.take (g := fun x => (stmtsR e G (b + 1) d [] (kindR e 7 x.2).2).bind fun l => some (l.1, (kindR e 8 l.2).2)) (by decide) (fun _ u2 h2 => ?_) (fun _ q hq => ⟨_, q.r, by
    show (stmtsR e G (b + 1) d [] (kindR e 7 q).2).bind _ = _
    rw [kindR_bad hq (by decide)]
    exact bp3 q hq⟩)
   have hu2 := TokK.suf hu (takeS_s _ _ _ _ h2)
   refine Ag.take (g := fun x => (stmtsR e G (b + 1) d [] x.2).bind fun l => some (l.1, (kindR e 8 l.2).2)) (by decide) (fun _ u3 h3 => ?_) (fun _ q hq => ⟨_, q.r, bp3 q hq⟩)
   have hu3 := TokK.suf hu2 (takeS_s _ _ _ _ h3)
   have hs := ih.stmts G false (b + 1) d [] u3 (by omega) hu3
   show Ag e _ ((stmtsR e G (b + 1) d [] ⟨u3, (0, 0)⟩).bind fun l => some (l.1, (kindR e 8 l.2).2))
   cases hx : stmtsS F false (b + 1) d [] u3 with
   | out => trivial
   | bad k u =>
    rw [hx] at hs
    obtain ⟨hk, ⟨v, w, hv⟩ | ⟨hk1, hu0, v, hv⟩⟩ := hs
    ·rw [hv]
     refine ⟨hk, v, w, ?_⟩
     show some (v, (kindR e 8 _).2) = _
     rw [kindR_bad (Rd.bad_of hk) (by decide)]
    ·have hu0 : u = [] := hu0
     subst hu0; subst hk1
     rw [hv]
     exact ⟨by decide, v, [], rfl⟩
   | ok v u =>
    rw [hx] at hs
    have hs : stmtsR e G (b + 1) d [] ⟨u3, (0, 0)⟩ = some (v, ⟨u, (0, 0)⟩) := hs
    rw [hs]
    exact Ag.take (g := fun x => some (v, x.2)) (by decide) (fun _ _ _ => .okv) (bp_some (s := fun x => x.2) fun _ _ _ => rfl)
  ·intro G b d r hG hr
   obtain ⟨G, rfl⟩ : ∃ G', G = G' + 1 := ⟨G - 1, by omega⟩
   rw [stmtS, stmtR, isS_wd hr (by decide), isS_wd hr (by decide), isS_wd hr (by decide)]
   refine .ite (fun h => ?_) (fun h => ?_)
   ·rw [if_pos h]
    obtain ⟨G, rfl⟩ : ∃ G', G = G' + 1 := ⟨G - 1, by omega⟩
    rw [defR]
    have bp2 : ∀ tx ns (q : Rd), q.bad = true → (blockR e G b (d + 1) q).bind (fun l => some (St.mk 6 tx ns .zero l.1 [], l.2)) = some (.mk 6 tx ns .zero [] [], q) := fun tx ns q hq => by rw [blockR_bad hq]; rfl
    have bp1 : ∀ tx (q : Rd), q.bad = true → (paramR e G [] q).bind (fun ns => (blockR e G b (d + 1) (signR e [41] ns.2)).bind fun l => some (St.mk 6 tx ns.1 .zero l.1 [], l.2)) = some (.mk 6 tx [] .zero [] [], q) := fun tx q hq => by
     rw [paramR_bad' hq]
     show (blockR e G b (d + 1) (signR e [41] q)).bind _ = _
     rw [signR_bad hq]; exact bp2 _ _ q hq
    refine .ite (fun hb => ?_) (fun hb => ?_)
    ·rw [if_pos hb]
     have hq : (failR e 4 ⟨r, (0, 0)⟩).bad = true := rfl
     rw [signR_bad hq, kindR_bad hq (by decide)]
     show Ag e _ ((paramR e G [] (signR e [40] (failR e 4 ⟨r, (0, 0)⟩))).bind _)
     rw [signR_bad hq, bp1 _ _ hq]
     exact .badv (by decide)
    rw [if_neg hb, signR_is h]
    refine Ag.take (g := fun x => (paramR e G [] (signR e [40] x.2)).bind fun ns => (blockR e G b (d + 1) (signR e [41] ns.2)).bind fun l => some (St.mk 6 x.1 ns.1 .zero l.1 [], l.2)) (by decide) (fun t u hu => ?_) (fun v q hq => ⟨_, q.r, by
     show (paramR e G [] (signR e [40] q)).bind _ = _
     rw [signR_bad hq]; exact bp1 _ q hq⟩)
    have hu := TokK.suf (TokK.suf hr (suf_tl r)) (takeS_s _ _ _ _ hu)
    refine Ag.step (g := fun _ q => (paramR e G [] q).bind fun ns => (blockR e G b (d + 1) (signR e [41] ns.2)).bind fun l => some (St.mk 6 t.text ns.1 .zero l.1 [], l.2)) (mustS_a e [40] u) (fun _ u2 h2 => ?_) (fun _ q hq => ⟨_, q.r, bp1 _ q hq⟩)
    have hu2 := TokK.suf hu (mustS_s _ _ _ _ h2)
    have hp : Ag e (if hdK u2 = 1 then paramS F [] u2 else .ok [] u2) (paramR e G [] ⟨u2, (0, 0)⟩) := by
     refine .ite (fun h1 => param_a e F G [] u2 (by omega) (fun _ => h1)) (fun h1 => ?_)
     cases G with
     | zero => exact absurd hG (by omega)
     | succ G =>
      rw [paramR, if_neg (show ¬ (⟨u2, (0, 0)⟩ : Rd).bad = true from by intro h; cases h), if_pos ⟨rfl, h1⟩]; exact .okv
    refine hp.bind (fun ns u3 h3 => ?_) (fun v q hq => ⟨_, q.r, by
     show (blockR e G b (d + 1) (signR e [41] q)).bind _ = _
     rw [signR_bad hq]; exact bp2 _ _ q hq⟩)
    have hu3 : ∀ t ∈ u3, TokK t := by
     split at h3
     ·exact TokK.suf hu2 (paramS_s F _ _ _ _ h3)
     ·cases h3; exact hu2
    refine Ag.step (g := fun _ q => (blockR e G b (d + 1) q).bind fun l => some (St.mk 6 t.text ns .zero l.1 [], l.2)) (mustS_a e [41] u3) (fun _ u4 h4 => ?_) (fun _ q hq => ⟨_, q.r, bp2 _ _ q hq⟩)
    have hu4 := TokK.suf hu3 (mustS_s _ _ _ _ h4)
    exact (ih.block G b (d + 1) u4 (by omega) hu4).bind (fun l u _ => .okv) (bp_some (s := fun x => x.2) fun _ _ _ => rfl)
   rw [if_neg h]
   refine .ite (fun h => ?_) (fun h => ?_)
   ·rw [if_pos h]
    show Ag e _ ((exprR e G 0 ⟨r.tail, (0, 0)⟩).bind fun x => (blockR e G b d x.2).bind fun l => if isR [wElse] l.2 then (blockR e G b d l.2.next).bind fun m => some (St.mk 7 [] [] x.1 l.1 m.1, m.2) else some (St.mk 7 [] [] x.1 l.1 [], l.2))
    have bp : ∀ x (q : Rd), q.bad = true → (blockR e G b d q).bind (fun l => if isR [wElse] l.2 then (blockR e G b d l.2.next).bind fun m => some (St.mk 7 [] [] x l.1 m.1, m.2) else some (St.mk 7 [] [] x l.1 [], l.2)) = some (.mk 7 [] [] x [] [], q) := fun x q hq => by
     rw [blockR_bad hq]
     show (if isR [wElse] q = true then _ else some (St.mk 7 [] [] x [] [], q)) = _
     rw [isR_bad hq]; rfl
    refine ((allA e F).expr G 0 r.tail (by omega)).bind (fun x u hu => ?_) (fun x q hq => ⟨_, q.r, bp x q hq⟩)
    have hu := TokK.suf (TokK.suf hr (suf_tl r)) ((allS F).expr _ _ _ _ hu)
    refine (ih.block G b d u (by omega) hu).bind (fun l u2 h2 => ?_) (fun l q hq => ⟨_, q.r, by
     show (if isR [wElse] q = true then _ else some (St.mk 7 [] [] x l [], q)) = _
     rw [isR_bad hq]; rfl⟩)
    have hu2 := TokK.suf hu ((allW F).block _ _ _ _ _ h2)
    show Ag e _ (if isR [wElse] ⟨u2, (0, 0)⟩ then (blockR e G b d ⟨u2.tail, (0, 0)⟩).bind fun m => some (St.mk 7 [] [] x l m.1, m.2) else some (St.mk 7 [] [] x l [], ⟨u2, (0, 0)⟩))
    rw [isR_one]
    refine .ite (fun h => ?_) (fun h => ?_)
    ·rw [if_pos h]
     exact (ih.block G b d u2.tail (by omega) (TokK.suf hu2 (suf_tl u2))).bind (fun l u _ => .okv) (bp_some (s := fun x => x.2) fun _ _ _ => rfl)
    ·rw [if_neg h]; exact .okv
   rw [if_neg h]
   refine .ite (fun h => ?_) (fun h => ?_)
   ·rw [if_pos h]
    have bp : ∀ t x (q : Rd), q.bad = true → (blockR e G b d q).bind (fun l => some (St.mk 8 t [] x l.1 [], l.2)) = some (.mk 8 t [] x [] [], q) := fun t x q hq => by rw [blockR_bad hq]; rfl
    have bp1 : ∀ t (q : Rd), q.bad = true → (exprR e G 0 q).bind (fun x => (blockR e G b d x.2).bind fun l => some (St.mk 8 t [] x.1 l.1 [], l.2)) = some (.mk 8 t [] .zero [] [], q) := fun t q hq => by
     rw [exprR_bad hq]; exact bp t _ q hq
    refine Ag.take (g := fun x => (exprR e G 0 (signR e wIn x.2)).bind fun y => (blockR e G b d y.2).bind fun l => some (St.mk 8 x.1 [] y.1 l.1 [], l.2)) (by decide) (fun t u hu => ?_) (fun v q hq => ⟨_, q.r, by
     show (exprR e G 0 (signR e wIn q)).bind _ = _
     rw [signR_bad hq]; exact bp1 _ q hq⟩)
    have hu := TokK.suf (TokK.suf hr (suf_tl r)) (takeS_s _ _ _ _ hu)
    refine Ag.step (g := fun _ q => (exprR e G 0 q).bind fun y => (blockR e G b d y.2).bind fun l => some (St.mk 8 t.text [] y.1 l.1 [], l.2)) (mustS_a e wIn u) (fun _ u2 h2 => ?_) (fun _ q hq => ⟨_, q.r, bp1 _ q hq⟩)
    have hu2 := TokK.suf hu (mustS_s _ _ _ _ h2)
    refine ((allA e F).expr G 0 u2 (by omega)).bind (fun x u3 h3 => ?_) (fun x q hq => ⟨_, q.r, bp _ x q hq⟩)
    have hu3 := TokK.suf hu2 ((allS F).expr _ _ _ _ h3)
    exact (ih.block G b d u3 (by omega) hu3).bind (fun l u _ => .okv) (bp_some (s := fun x => x.2) fun _ _ _ => rfl)
   rw [if_neg h]
   refine (small_a e F G b d r (by omega) hr).bind (fun s u hu => ?_) (bp_some (s := fun x => (kindR e 6 x.2).2) fun v q hq => by rw [kindR_bad hq (by decide)])
   exact Ag.take (g := fun x => some (s, x.2)) (by decide) (fun _ _ _ => .okv) (bp_some (s := fun x => x.2) fun _ _ _ => rfl)
theorem parse_same (s : List UInt8) : parseR (4 * fuelS (splitS s).1) s = some (parseS s) := by
 have hne := ((allU (fuelS (splitS s).1)).stmts true 0 0 [] (splitS s).1 (by unfold fuelS; omega)).1
 have hk : ∀ t ∈ (splitS s).1, TokK t := fun t ht => ⟨(splitS_good s t ht).kind.1, (splitS_good s t ht).sign⟩
 have hA := (allA2 s.length (fuelS (splitS s).1)).stmts (4 * fuelS (splitS s).1) true 0 0 [] (splitS s).1 (Nat.le_refl _) hk
 unfold parseR parseS
 generalize splitS s = x at hne hk hA ⊢
 obtain ⟨l, f⟩ := x
 simp only at hne hA ⊢
 by_cases hf : f.1 ≠ 0
 ·rw [if_pos hf, if_pos hf]
 rw [if_neg hf, if_neg hf]
 cases hx : stmtsS (fuelS l) true 0 0 [] l with
 | out => exact absurd hx hne
 | ok v u =>
  rw [hx] at hA
  have hA : stmtsR s.length (4 * fuelS l) 0 0 [] ⟨l, (0, 0)⟩ = some (v, ⟨u, (0, 0)⟩) := hA
  have hu : u = [] := by
   have key : ∀ F l0 r v u, stmtsS F true 0 0 l0 r = .ok v u → u = [] := by
    intro F
    induction F with
    | zero => intro l0 r v u h; cases h
    | succ F ih =>
     intro l0 r v u h
     rw [stmtsS] at h
     have h : (if r.isEmpty = true then .ok l0 r else (stmtS F 0 0 r).bind fun s r => stmtsS F true 0 0 (l0 ++ [s]) r) = Pr.ok v u := h
     by_cases h1 : r.isEmpty = true
     ·rw [if_pos h1] at h; cases h; simpa using h1
     ·rw [if_neg h1] at h
      cases hy : stmtS F 0 0 r with
      | out => rw [hy] at h; cases h
      | bad k w => rw [hy] at h; cases h
      | ok s w => rw [hy] at h; exact ih _ _ _ _ h
   exact key _ _ _ _ _ hx
  subst hu
  rw [hA]; rfl
 | bad k u =>
  rw [hx] at hA
  obtain ⟨hk0, ⟨v, w, hv⟩ | ⟨hk1, hu8, v, hv⟩⟩ := hA
  ·rw [hv]
   have hb : (⟨w, (k, placeS s.length u)⟩ : Rd).bad = true := Rd.bad_of hk0
   show (let q := if w.isEmpty = true then (⟨w, (k, placeS s.length u)⟩ : Rd) else failR s.length 1 ⟨w, (k, placeS s.length u)⟩; if q.bad then some (([] : List St), q.f) else some (v, (0, 0))) = _
   rw [failR_bad hb, ite_self]
   simp only
   rw [if_pos hb]
  ·subst hk1
   rw [hv]
   have hu8 : hdK u = 8 := hu8
   have hne : u.isEmpty = false := by
    cases u with
    | nil => cases hu8
    | cons t w => rfl
   show (let q := if u.isEmpty = true then (⟨u, (0, 0)⟩ : Rd) else failR s.length 1 ⟨u, (0, 0)⟩; if q.bad then some (([] : List St), q.f) else some (v, (0, 0))) = _
   rw [hne]
   rfl
end Go.Proofs.YtonjhfeabphaaaaGreatDoor
end
section
set_option linter.unusedVariables false
set_option linter.unusedSimpArgs false
set_option maxRecDepth 20000
set_option maxHeartbeats 4000000
namespace Go.Proofs.YtonjhfeabphaaaaGreatDoor
open Go Go.Ab
structure AllG (F : Nat) : Prop where
 stmt : Rst 39 stmtR F
 block : Rbl F
 dfn : Rdf F
theorem allG (F : Nat) : F ≤ 3000000 → ∀ F', F' ≤ F → AllG F' := by
 induction F with
 | zero =>
  intro _ F' h
  obtain rfl : F' = 0 := by omega
  have hss : Rss 0 := rstmts_ok 0 (by omega) (fun F' h => absurd h (by omega))
  refine ⟨fun _ _ _ _ _ _ _ _ _ _ _ _ h => (by cases h), fun v l q e b d y hr hl hT hb hd hx => ?_, fun _ _ _ _ _ _ _ _ _ _ _ _ h => (by cases h)⟩
  have hx : (if q.bad then some (([] : List St), q) else none) = some y := hx
  by_cases hbad : q.bad = true
  ·rw [if_pos hbad, ← blockR_bad (e := e) (F := 1) (b := b) (d := d) hbad] at hx
   exact rblock_ok 0 hss v l q e b d y hr hl hT (by omega) (by omega) hx
  ·rw [if_neg hbad] at hx; cases hx
 | succ F ih =>
  intro hF F' h
  rcases Nat.lt_or_ge F' (F + 1) with h' | h'
  ·exact ih (by omega) F' (by omega)
  obtain rfl : F' = F + 1 := by omega
  have ih := ih (by omega)
  have ihF := ih F (Nat.le_refl _)
  have hss : Rss F := rstmts_ok F (by omega) (fun F' h => (ih F' (by omega)).stmt)
  exact ⟨rstmt_ok F (by omega) ihF.dfn ihF.block, fun v l q e b d y hr hl hT hb hd hx => rblock_ok F hss v l q e b d y hr hl hT (by omega) (by omega) hx,
   fun v l q e b d y hr hl hT hb hd hx => rdef_ok F ihF.block v l q e b d y (by omega) hr hl hT (by omega) (by omega) hx⟩
theorem rstmtsT (F : Nat) (hF : F ≤ 3000000) : Rss F := rstmts_ok F hF (fun F' h => (allG F hF F' (by omega)).stmt)
theorem rM {f : FuncId} {xs : List AV} {x : AV} {l : List Tok} {q q' : Rd} {e b d n b' d' n' : Nat} (h : CallOk cx f (.ptr 0 0 0 :: xs) [rdB 0 l q e b d n] (fun o s => o = .ret x ∧ s = [rdB 0 l q' e b' d' n'])) (hx : Free false x) (hxs : ∀ y ∈ xs, Free false y) (a c : Nat × Option Box) :
  CallOk cx f (.ptr 2 0 0 :: xs) [a, c, rdB 0 l q e b d n] (fun o s => o = .ret x ∧ s = [a, c, rdB 0 l q' e b' d' n']) :=
 h.mid 2 1 [a, c] [] rfl rfl rfl (.cons (.ptr rfl) (.free hxs)) (.cons (.live (.cells (.free (rdB_free 0 l q e b d n)))) (.nil _)) (.cons (.live (.cells (.free (rdB_free 0 l q' e b' d' n')))) (.nil _)) (.free hx)
theorem ParseSource_ok (s : List UInt8) : Calc cx 11 [.str s] (parseAV (parseS s)) :=
 pure_intro (fun a w => Tryz.call11 a w) Tryz.func11 rfl Tryz.ntmps11 rfl (parseAV_free _) fun B => by
  have hlen := splitS_size s
  have hg := splitS_good s
  have hsz : (splitS s).2.1 = 0 → s.length ≤ 6000 := by
   unfold splitS
   split
   ·intro h; cases h
   ·intro _; omega
  have hSp0 := SourceTokens_ok s
  have hY := parse_same s
  obtain ⟨Y, hYY⟩ : ∃ Y, Y = parseS s := ⟨_, rfl⟩
  rw [← hYY] at hY ⊢
  clear hYY
  unfold parseR at hY
  obtain ⟨l, e1, e2, hsp⟩ : ∃ l e1 e2, splitS s = (l, (e1, e2)) := ⟨_, _, _, rfl⟩
  rw [hsp] at hlen hg hsz hSp0 hY
  have hlen : l.length ≤ 24040 := hlen
  have hSp : Calc cx 23 [.str s] (.tup [.sl true false 4 (l.map tokA), .agg [.int .i64 (e1 : Nat), .int .i64 (e2 : Nat)]]) := hSp0
  have hsz : e1 = 0 → s.length ≤ 6000 := hsz
  have hY : (if e1 ≠ 0 then some ([], (e1, e2)) else (stmtsR s.length (4 * fuelS l) 0 0 [] ⟨l, (0, 0)⟩).bind fun x =>
   let q := if x.2.r.isEmpty then x.2 else failR s.length 1 x.2
   if q.bad then some ([], q.f) else some (x.1, (0, 0))) = some Y := hY
  have hfu : 4 * fuelS l ≤ 3000000 := by unfold fuelS; omega
  clear hSp0
  by_cases h1 : e1 = 0
  ·subst h1
   rw [if_neg (by decide)] at hY
   have hsz := hsz rfl
   have hT : ∀ t ∈ l, t.text.length ≤ 6000 := fun t ht => by have := (hg t ht).size; omega
   cases hx : stmtsR s.length (4 * fuelS l) 0 0 [] ⟨l, (0, 0)⟩ with
   | none => rw [hx] at hY; cases hY
   | some x =>
   rw [hx] at hY
   obtain ⟨ls, q⟩ := x
   have hr : q.r <:+ l := (allRS s.length l (4 * fuelS l)).stmts _ _ _ _ (List.suffix_refl _) _ hx
   have hst := (rstmtsT (4 * fuelS l) hfu) 0 l ⟨l, (0, 0)⟩ s.length 0 0 (ls, q) (List.suffix_refl _) (by omega) hT (by omega) (by omega) hx
   refine pa [.v (.tup [.sl true false 4 (l.map tokA), .agg [.int .i64 (0 : Nat), .int .i64 (e2 : Nat)]]), .b false] rfl ?_ ?_
   ·(repeat' with_reducible apply AllP_cons) <;> first | exact aC | skip
    exact ⟨_, hSp, .cons (.refl .str) (.nil _)⟩
   have hst := rM hst (stsA_free _) (by simp) (xf (0, 0)) (xf (0, e2))
   have hb1 := rM (rbad_ok 0 l q s.length 0 0 0) .bool (by simp) (xf (0, 0)) (xf (0, e2))
   refine S_heap [xf (0, 0), xf (0, e2), rdB 0 l ⟨l, (0, 0)⟩ s.length 0 0 0] ?_ ?_
   ·show [xf (0, 0), xf (0, e2), rdI 0 l 0 (0, 0) (s.length : Nat) 0 0 0] = _
    unfold rdB rdI
    rw [Nat.sub_self]; rfl
   have hY : (let q' := if q.r.isEmpty then q else failR s.length 1 q
    if q'.bad then some (([] : List St), q'.f) else some (ls, (0, 0))) = some Y := hY
   have hml : (l.map tokA).length = l.length := by simp
   by_cases hbad : q.bad = true
   ·rw [hbad] at hb1
    have hq' : (if q.r.isEmpty then q else failR s.length 1 q) = q := by rw [failR_bad hbad, ite_self]
    simp only [hq'] at hY
    rw [if_pos hbad] at hY
    cases hY
    refine pa [.f (stsA ls) (fun _ => [xf (0, 0), xf (0, e2), rdB 0 l q s.length 0 0 0]), .k (.bool true), .b false, .b false, .k (.bool true), .b true] rfl ?_ ?_
    ·(repeat' with_reducible apply AllP_cons) <;> first | exact aC | skip
    refine pa [] rfl ?_ ?_
    ·(repeat' with_reducible apply AllP_cons) <;> first | exact aC | skip
    refine S_ret ⟨_, _, rfl, ⟨rfl, trivial⟩, _, rfl, ?_⟩
    exact Fzs.tup (.cons .nils (.cons (.refl (flt_free q.f)) .nil))
   rw [(Bool.not_eq_true _).mp hbad] at hb1
   by_cases hem : q.r.isEmpty = true
   ·simp only [hem, if_true] at hY
    rw [if_neg hbad] at hY
    cases hY
    have hlen0 : q.r.length = 0 := by rw [List.isEmpty_iff.1 hem]; rfl
    have e0 : decide (((l.length - q.r.length : Nat) : Int) < (((l.map tokA).length : Nat) : Int)) = false := by rw [hml, hlen0]; exact decide_eq_false (by omega)
    refine pa [.f (stsA ls) (fun _ => [xf (0, 0), xf (0, e2), rdB 0 l q s.length 0 0 0]), .k (.bool false), .b true, .b false, .k (.bool false), .b false] rfl ?_ ?_
    ·(repeat' with_reducible apply AllP_cons) <;> first | exact aC | skip
    refine S_ret ⟨_, _, rfl, ⟨rfl, trivial⟩, _, rfl, ?_⟩
    exact Fzs.tup (.cons (.refl (stsA_free _)) (.cons (.refl (flt_free (0, 0))) .nil))
   ·simp only [hem] at hY
    have hlen0 : q.r.length ≠ 0 := fun h => hem (List.isEmpty_iff.2 (List.eq_nil_of_length_eq_zero h))
    have e0 : decide (((l.length - q.r.length : Nat) : Int) < (((l.map tokA).length : Nat) : Int)) = true := by
     have := hr.length_le
     rw [hml]; exact decide_eq_true (by omega)
    have hf := rM (rfail_ok 0 l q s.length 0 0 0 1 hr (by omega)) (.tup (by simp)) (by intro y hy; simp at hy; subst hy; exact .int) (xf (0, 0)) (xf (0, e2))
    have hq1 : (failR s.length 1 q).bad = true := by
     unfold failR; rw [if_neg hbad]; rfl
    have hb2 := rM (rbad_ok 0 l (failR s.length 1 q) s.length 0 0 0) .bool (by simp) (xf (0, 0)) (xf (0, e2))
    rw [hq1] at hb2
    have hY : (if (failR s.length 1 q).bad then some (([] : List St), (failR s.length 1 q).f) else some (ls, (0, 0))) = some Y := hY
    rw [if_pos hq1] at hY
    cases hY
    refine pa [.f (stsA ls) (fun _ => [xf (0, 0), xf (0, e2), rdB 0 l q s.length 0 0 0]), .k (.bool false), .b true, .b true, .f (.tup []) (fun _ => [xf (0, 0), xf (0, e2), rdB 0 l (failR s.length 1 q) s.length 0 0 0]), .k (.bool true), .b true] rfl ?_ ?_
    ·(repeat' with_reducible apply AllP_cons) <;> first | exact aC | skip
    refine pa [] rfl ?_ ?_
    ·(repeat' with_reducible apply AllP_cons) <;> first | exact aC | skip
    refine S_ret ⟨_, _, rfl, ⟨rfl, trivial⟩, _, rfl, ?_⟩
    exact Fzs.tup (.cons .nils (.cons (.refl (flt_free (failR s.length 1 q).f)) .nil))
  ·have e0 : (((e1 : Nat) : Int) != 0) = true := bne_iff_ne.2 (by omega)
   rw [if_pos h1] at hY
   cases hY
   refine pa [.v (.tup [.sl true false 4 (l.map tokA), .agg [.int .i64 (e1 : Nat), .int .i64 (e2 : Nat)]]), .b true] rfl ?_ ?_
   ·(repeat' with_reducible apply AllP_cons) <;> first | exact aC | skip
    exact ⟨_, hSp, .cons (.refl .str) (.nil _)⟩
   refine S_ret ⟨_, _, rfl, ⟨rfl, trivial⟩, _, rfl, ?_⟩
   exact Fzs.tup (.cons .nils (.cons (.refl (flt_free (e1, e2))) .nil))
end Go.Proofs.YtonjhfeabphaaaaGreatDoor
end
section
set_option linter.unusedVariables false
set_option linter.unusedSimpArgs false
set_option maxRecDepth 20000
set_option maxHeartbeats 4000000
namespace Go.Proofs.YtonjhfeabphaaaaGreatDoor
open Go Go.Ab
def src1 : List UInt8 := [97, 32, 61, 32, 45, 49, 32, 43, 32, 50]
def src2 : List UInt8 := [97, 61, 91, 49, 44, 50, 93, 91, 48, 93]
def src3 : List UInt8 := [97, 32, 61, 32, 91, 49, 44, 32, 50, 93, 91, 48, 93, 10]
def one (n : Nat) : Ex := .mk 4 n [] [] []
def st1 : St := .mk 3 [97] [] (.mk 14 0 [43] [.mk 13 0 [] [one 1] [], one 2] []) [] []
def st2 : St := .mk 3 [97] [] (.mk 11 0 [] [.mk 7 0 [] [one 1, one 2] [], one 0] []) [] []
theorem parse1 : parseS src1 = ([st1], (0, 0)) := by kernel_rfl
theorem parse2 : parseS src2 = ([st2], (0, 0)) := by kernel_rfl
theorem srct2 : srcT [st2] = src3 := by decide +kernel
theorem parse3 : parseS src3 = ([st2], (0, 0)) := by kernel_rfl
theorem canon2 : canonS src2 = (src3, (0, 0)) := by
 unfold canonS
 rw [parse2]
 show (if (0 : Nat) ≠ 0 then _ else if 6000 < (srcT [st2]).length ∨ (parseS (srcT [st2])).2.1 ≠ 0 then _ else (srcT [st2], (0, 0))) = _
 rw [srct2, parse3]
 decide
theorem allJ2 : ∀ x ∈ (parseS src2).1, AllJ (fun ns => ns.length ≤ 1) x := by
 rw [parse2]
 intro x hx
 rw [List.mem_singleton] at hx
 rw [hx]
 exact .mk (fun h => by cases h) nofun nofun
theorem begunP : Calc cx 10 [.str src1] (parseAV ([st1], (0, 0))) := by
 have := Parse_ok src1; rwa [parse1] at this
theorem begunC : Calc cx 16 [.str src2] (canonAV (src3, (0, 0))) := by
 have := Canon_ok (J := fun ns => ns.length ≤ 1) (fun ns h => Join_few ns h) src2 allJ2 (by rw [parse2]; show (srcT [st2]).length ≤ _; rw [srct2]; decide)
 rwa [canon2] at this
theorem syntaxBegun_ok : Calc cx 12 [] (.bool true) :=
 pure_intro (fun a w => Tryz.call12 a w) Tryz.func12 rfl Tryz.ntmps12 rfl .bool fun B => by
  have h1 := begunP
  have h2 := begunC
  refine pa [.v (parseAV ([st1], (0, 0))), .v (canonAV (src3, (0, 0))), .b true, .b true, .v (stA st1), .b true, .b true] rfl ?_ ?_
  ·(repeat' with_reducible apply AllP_cons) <;> first | exact aC | skip
   ·exact ⟨_, h1, .cons (.refl .str) (.nil _)⟩
   ·exact ⟨_, h2, .cons (.refl .str) (.nil _)⟩
   ·intro x hx; rw [List.mem_singleton] at hx; rw [hx]; trivial
   ·decide
  exact S_retc .bool rfl trivial rfl
theorem SyntaxParses_ok (s : List UInt8) (hs : s.length ≤ 1048576) : Calc cx 3 [.str s] (.bool true) :=
 pure_intro (fun a w => Tryz.call3 a w) Tryz.func3 rfl Tryz.ntmps3 rfl .bool fun B => by
  have h1 := Parse_ok s
  have h2 := ParseSource_ok s
  have h3 := SameStmts_same (st := true) (st' := true) (fl := false) (fl' := false) s
  obtain ⟨l, e1, e2, hp⟩ : ∃ l e1 e2, parseS s = (l, (e1, e2)) := ⟨_, _, _, rfl⟩
  rw [hp] at h1 h2 h3
  have h3 : Calc cx 13 [.sl true false 10 (stL l), .sl true false 10 (stL l)] (.bool true) := h3
  refine pa [.v (parseAV (l, (e1, e2))), .v (parseAV (l, (e1, e2))), .v (.bool true), .b true, .b true, .v (.bool true)] rfl ?_ ?_
  ·(repeat' with_reducible apply AllP_cons) <;> first | exact aC | skip
   ·exact ⟨_, h1, .cons (.refl .str) (.nil _)⟩
   ·exact ⟨_, h2, .cons (.refl .str) (.nil _)⟩
   ·exact ⟨_, syntaxBegun_ok, .nil _⟩
   ·kernel_rfl
   ·simp
   ·exact ⟨_, h3, .cons (.refl (.sl (fun h => by cases h) (stL_free l))) (.cons (.refl (.sl (fun h => by cases h) (stL_free l))) (.nil _))⟩
  exact S_retc .bool rfl trivial rfl
end Go.Proofs.YtonjhfeabphaaaaGreatDoor
end
section
set_option linter.unusedVariables false
set_option linter.unusedSimpArgs false
set_option maxRecDepth 20000
set_option maxHeartbeats 4000000
namespace Go.Proofs.YtonjhfeabphaaaaGreatDoor
open Go Go.Ab
theorem quoC_1 (c : UInt8) (h : c = 10) : quoC c = [92, 110] := by rw [h]; rfl
theorem quoC_2 (c : UInt8) (h : c = 9) : quoC c = [92, 116] := by rw [h]; rfl
theorem quoC_3 (c : UInt8) (h : c = 92 ∨ c = 34) : quoC c = [92, c] := by rcases h with h | h <;> rw [h] <;> rfl
theorem QuoteText_ok (s : List UInt8) (hs : s.length ≤ 1048576) : Calc cx 15 [.str s] (.str (quoT s)) :=
 pure_intro (fun a w => Tryz.call15 a w) Tryz.func15 rfl Tryz.ntmps15 rfl .str fun B => by
  refine go (M := [5]) 1000 rfl trivial ?_
  refine S_unfull (t := 3) rfl ⟨_, _, .inl rfl⟩ ?_
  refine S_while (α := QuSt) (fun q => [(0, .str s), (3, .ms 0 q.b 0 ([34] ++ (s.take q.i).flatMap quoC).length 1 false), (4, .int .i64 (q.i : Nat))]) (fun q => [(q.b, some (.cells (([34] ++ (s.take q.i).flatMap quoC).map byteAV) ⟨false, some 5⟩))])
   (fun q => q.i ≤ s.length) (fun q => s.length - q.i) ⟨0, 0⟩ (Nat.zero_le _) (.cons rfl (.cons rfl (.cons rfl (.nil _)))) rfl ?_
  rintro ⟨i, b⟩ hi
  have hi : i ≤ s.length := hi
  obtain ⟨bs, hbs⟩ : ∃ bs, bs = [34] ++ (s.take i).flatMap quoC := ⟨_, rfl⟩
  have hlen : bs.length ≤ 2 * s.length + 1 := by
   rw [hbs]
   have := quo_len (s.take i)
   rw [List.length_take] at this
   rw [List.length_append, List.length_singleton]; omega
  show S cx _ B _ _ [(0, .str s), (3, .ms 0 b 0 ([34] ++ (s.take i).flatMap quoC).length 1 false), (4, .int .i64 (i : Nat))] [(b, some (.cells (([34] ++ (s.take i).flatMap quoC).map byteAV) ⟨false, some 5⟩))]
  rw [← hbs]
  have hbl : 0 + bs.length * 1 = (bs.map byteAV).length := by simp
  by_cases hlt : i < s.length
  ·have htk : (s.take (i + 1)).flatMap quoC = (s.take i).flatMap quoC ++ quoC s[i] := by
    rw [List.take_succ_eq_append_getElem hlt, List.flatMap_append]; simp
   have hgd : (((s.getD ((i : Nat) : Int).toNat 0).toNat : Nat) : Int) = ((s[i].toNat : Nat) : Int) := by rw [Int.toNat_natCast, getD_byte hlt]
   have ne : ∀ n : Nat, n < 256 → s[i] ≠ UInt8.ofNat n → ((((s.getD ((i : Nat) : Int).toNat 0).toNat : Nat) : Int) == (n : Int)) = false := fun n hn h => by
    rw [hgd, byte_eq _ _ hn]; exact beq_false_of_ne h
   have eq : ∀ n : Nat, n < 256 → s[i] = UInt8.ofNat n → ((((s.getD ((i : Nat) : Int).toNat 0).toNat : Nat) : Int) == (n : Int)) = true := fun n hn h => by
    rw [hgd, byte_eq _ _ hn, h]; exact beq_self_eq_true _
   by_cases d1 : s[i] = 10
   ·have e1 := eq 10 (by decide) d1
    refine pa [.b true, .b true] rfl ?_ ?_
    ·(repeat' with_reducible apply AllP_cons) <;> first | exact aC | skip
     show (bs.length + 2) * 1 ≤ 140737488355328; omega
    refine S_round ⟨i + 1, b + 1⟩ (by show s.length - (i + 1) < s.length - i; omega) hlt (.cons rfl (.cons ?_ (.cons (by show AV.int .i64 (IntKind.i64.wrap (((i : Nat) : Int) + 1)) = .int .i64 ((i + 1 : Nat) : Int); exact ai64 rfl (by omega)) (.nil _)))) ?_
    ·show AV.ms 0 (b + 1) 0 (bs.length + 2) 1 false = .ms 0 (b + 1) 0 ([34] ++ (s.take (i + 1)).flatMap quoC).length 1 false
     rw [htk, ← List.append_assoc, ← hbs, quoC_1 _ d1, List.length_append]; rfl
    ·show [(b + 1, some (Box.cells (bs.map byteAV ++ [.int .u8 92, .int .u8 110]) _))] = [(b + 1, some (.cells (([34] ++ (s.take (i + 1)).flatMap quoC).map byteAV) _))]
     rw [htk, ← List.append_assoc, ← hbs, quoC_1 _ d1, List.map_append]; rfl
   have e1 := ne 10 (by decide) d1
   by_cases d2 : s[i] = 9
   ·have e2 := eq 9 (by decide) d2
    refine pa [.b true, .b false, .b true] rfl ?_ ?_
    ·(repeat' with_reducible apply AllP_cons) <;> first | exact aC | skip
     show (bs.length + 2) * 1 ≤ 140737488355328; omega
    refine S_round ⟨i + 1, b + 1⟩ (by show s.length - (i + 1) < s.length - i; omega) hlt (.cons rfl (.cons ?_ (.cons (by show AV.int .i64 (IntKind.i64.wrap (((i : Nat) : Int) + 1)) = .int .i64 ((i + 1 : Nat) : Int); exact ai64 rfl (by omega)) (.nil _)))) ?_
    ·show AV.ms 0 (b + 1) 0 (bs.length + 2) 1 false = .ms 0 (b + 1) 0 ([34] ++ (s.take (i + 1)).flatMap quoC).length 1 false
     rw [htk, ← List.append_assoc, ← hbs, quoC_2 _ d2, List.length_append]; rfl
    ·show [(b + 1, some (Box.cells (bs.map byteAV ++ [.int .u8 92, .int .u8 116]) _))] = [(b + 1, some (.cells (([34] ++ (s.take (i + 1)).flatMap quoC).map byteAV) _))]
     rw [htk, ← List.append_assoc, ← hbs, quoC_2 _ d2, List.map_append]; rfl
   have e2 := ne 9 (by decide) d2
   have two : ∀ (d : s[i] = 92 ∨ s[i] = 34), [(b + 1, some (Box.cells (bs.map byteAV ++ [.int .u8 92, .int .u8 (((s.getD ((i : Nat) : Int).toNat 0).toNat : Nat) : Int)]) ⟨false, some 5⟩))] = [(b + 1, some (.cells (([34] ++ (s.take (i + 1)).flatMap quoC).map byteAV) ⟨false, some 5⟩))] ∧
     AV.ms 0 (b + 1) 0 (bs.length + 2) 1 false = .ms 0 (b + 1) 0 ([34] ++ (s.take (i + 1)).flatMap quoC).length 1 false := fun d => by
    rw [htk, ← List.append_assoc, ← hbs, quoC_3 _ d, List.map_append, List.length_append, hgd]; exact ⟨rfl, rfl⟩
   by_cases d3 : s[i] = 92
   ·have e3 := eq 92 (by decide) d3
    refine pa [.b true, .b false, .b false, .b true, .b true] rfl ?_ ?_
    ·(repeat' with_reducible apply AllP_cons) <;> first | exact aC | skip
     show (bs.length + 2) * 1 ≤ 140737488355328; omega
    exact S_round ⟨i + 1, b + 1⟩ (by show s.length - (i + 1) < s.length - i; omega) hlt (.cons rfl (.cons (two (.inl d3)).2 (.cons (by show AV.int .i64 (IntKind.i64.wrap (((i : Nat) : Int) + 1)) = .int .i64 ((i + 1 : Nat) : Int); exact ai64 rfl (by omega)) (.nil _)))) (two (.inl d3)).1
   have e3 := ne 92 (by decide) d3
   by_cases d4 : s[i] = 34
   ·have e4 := eq 34 (by decide) d4
    refine pa [.b true, .b false, .b false, .b false, .b true] rfl ?_ ?_
    ·(repeat' with_reducible apply AllP_cons) <;> first | exact aC | skip
     show (bs.length + 2) * 1 ≤ 140737488355328; omega
    exact S_round ⟨i + 1, b + 1⟩ (by show s.length - (i + 1) < s.length - i; omega) hlt (.cons rfl (.cons (two (.inr d4)).2 (.cons (by show AV.int .i64 (IntKind.i64.wrap (((i : Nat) : Int) + 1)) = .int .i64 ((i + 1 : Nat) : Int); exact ai64 rfl (by omega)) (.nil _)))) (two (.inr d4)).1
   have e4 := ne 34 (by decide) d4
   have hq : quoC s[i] = [s[i]] := by unfold quoC; rw [if_neg d1, if_neg d2, if_neg d3, if_neg d4]
   refine pa [.b true, .b false, .b false, .b false, .b false] rfl ?_ ?_
   ·(repeat' with_reducible apply AllP_cons) <;> first | exact aC | skip
    show (bs.length + 1) * 1 ≤ 140737488355328; omega
   refine S_round ⟨i + 1, b + 1⟩ (by show s.length - (i + 1) < s.length - i; omega) hlt (.cons rfl (.cons ?_ (.cons (by show AV.int .i64 (IntKind.i64.wrap (((i : Nat) : Int) + 1)) = .int .i64 ((i + 1 : Nat) : Int); exact ai64 rfl (by omega)) (.nil _)))) ?_
   ·show AV.ms 0 (b + 1) 0 (bs.length + 1) 1 false = .ms 0 (b + 1) 0 ([34] ++ (s.take (i + 1)).flatMap quoC).length 1 false
    rw [htk, ← List.append_assoc, ← hbs, hq, List.length_append]; rfl
   ·show [(b + 1, some (Box.cells (bs.map byteAV ++ [.int .u8 (((s.getD ((i : Nat) : Int).toNat 0).toNat : Nat) : Int)]) _))] = [(b + 1, some (.cells (([34] ++ (s.take (i + 1)).flatMap quoC).map byteAV) _))]
    rw [htk, ← List.append_assoc, ← hbs, hq, List.map_append, hgd]; rfl
  ·obtain rfl : i = s.length := by omega
   rw [List.take_length] at hbs
   refine pa [.b false] rfl ?_ ?_
   ·(repeat' with_reducible apply AllP_cons) <;> first | exact aC | skip
    ·show (bs.length + 1) * 1 ≤ 140737488355328; omega
    ·show 0 + (bs.length + 1) ≤ (bs.map byteAV ++ [AV.int .u8 34]).length; simp
    ·show ∀ x, x ∈ ((bs.map byteAV ++ [AV.int .u8 34]).drop 0).take (bs.length + 1) → isByte x
     rw [appB bs 34 (x := 34) rfl]
     intro x hx
     exact bytes_isByte (bs ++ [34]) x (by simpa using List.mem_of_mem_take hx)
   refine S_retc .str rfl trivial ?_
   show AV.str ((((bs.map byteAV ++ [AV.int .u8 34]).drop 0).take (bs.length + 1)).map Ab.byteOf) = .str (quoT s)
   rw [appB bs 34 (x := 34) rfl]
   have hb := back_bytes (bs ++ [34])
   rw [List.length_append] at hb
   have hb : ((((bs ++ [34]).map byteAV).drop 0).take (bs.length + 1)).map Ab.byteOf = bs ++ [34] := hb
   rw [hb, hbs]; rfl
theorem SyntaxWrites_ok (s : List UInt8) (hs : s.length ≤ 1048576) : Calc cx 4 [.str s] (.bool true) :=
 pure_intro (fun a w => Tryz.call4 a w) Tryz.func4 rfl Tryz.ntmps4 rfl .bool fun B => by
  have h1 := Quote_ok s (by omega)
  have h2 := QuoteText_ok s hs
  refine pa [.v (.bool true), .b true, .v (.str (quoT s)), .v (.str (quoT s))] rfl ?_ ?_
  ·(repeat' with_reducible apply AllP_cons) <;> first | exact aC | skip
   ·exact ⟨_, syntaxBegun_ok, .nil _⟩
   ·exact ⟨_, h1, .cons (.refl .str) (.nil _)⟩
   ·exact ⟨_, h2, .cons (.refl .str) (.nil _)⟩
  refine S_retc .bool rfl trivial ?_
  show AV.bool (quoT s == quoT s) = .bool true
  rw [beq_self_eq_true]
end Go.Proofs.YtonjhfeabphaaaaGreatDoor
end
section
set_option linter.unusedVariables false
set_option linter.unusedSimpArgs false
set_option maxRecDepth 20000
set_option maxHeartbeats 4000000
namespace Go.Proofs.YtonjhfeabphaaaaGreatDoor
open Go Go.Ab
theorem quoteS_quo (r : List UInt8) : ∀ (s : List UInt8) (i : Nat) (b : List UInt8), okTx s → quoteS (s.flatMap quoC ++ 34 :: r) i b = .inr (b ++ s, i + (s.flatMap quoC).length + 1)
 | [], i, b, _ => by
  rw [quoteS.eq_def]
  simp
 | c :: s, i, b, h => by
  have hs : okTx s := fun x hx => h x (List.mem_cons_of_mem _ hx)
  have hc := h c (List.mem_cons_self ..)
  have two : ∀ d e : UInt8, quoC c = [92, d] → esc d = some c → quoteS ((c :: s).flatMap quoC ++ 34 :: r) i b = .inr (b ++ c :: s, i + ((c :: s).flatMap quoC).length + 1) := fun d e h1 h2 => by
   rw [List.flatMap_cons, h1, List.append_assoc]
   show quoteS (92 :: d :: (s.flatMap quoC ++ 34 :: r)) i b = _
   rw [quoteS.eq_def]
   simp only
   rw [if_neg (by decide), if_neg (by decide), if_neg (by decide), h2]
   simp only
   rw [quoteS_quo r s (i + 2) (b ++ [c]) hs]
   simp only [List.append_assoc, List.length_append, List.length_cons, List.length_nil, Sum.inr.injEq, Prod.mk.injEq]
   exact ⟨rfl, by omega⟩
  by_cases d1 : c = 10
  ·exact two 110 0 (quoC_1 c d1) (by rw [d1]; rfl)
  by_cases d2 : c = 9
  ·exact two 116 0 (quoC_2 c d2) (by rw [d2]; rfl)
  by_cases d3 : c = 92
  ·exact two 92 0 (by rw [d3]; rfl) (by rw [d3]; rfl)
  by_cases d4 : c = 34
  ·exact two 34 0 (by rw [d4]; rfl) (by rw [d4]; rfl)
  have hq : quoC c = [c] := by unfold quoC; rw [if_neg d1, if_neg d2, if_neg d3, if_neg d4]
  have h32 : 32 ≤ c.toNat := by
   rcases hc with h | h | h
   ·exact h
   ·exact absurd h d2
   ·exact absurd h d1
  rw [List.flatMap_cons, hq]
  show quoteS (c :: (s.flatMap quoC ++ 34 :: r)) i b = _
  rw [quoteS.eq_def]
  simp only
  rw [if_neg (by omega), if_neg (by simpa using d4), if_pos (by simpa using d3), quoteS_quo r s (i + 1) (b ++ [c]) hs]
  simp only [List.append_assoc, List.length_append, List.length_cons, List.length_nil, Sum.inr.injEq, Prod.mk.injEq]
  exact ⟨rfl, by omega⟩
theorem gap_end (s : List UInt8) : gapC s s.length = s.length := by
 have h : gapE s s.length = s.length := stopAt_end (Nat.le_refl _)
 unfold gapC
 rw [h, List.getElem?_eq_none (Nat.le_refl _), if_neg (by simp)]
theorem quo_split (s : List UInt8) (h : okTx s) (hl : (quoT s).length ≤ 6000) : splitS (quoT s) = ([⟨3, s, 0, 0⟩, tokLine (quoT s).length], (0, 0)) := by
 obtain ⟨q, hq⟩ : ∃ q, q = quoT s := ⟨_, rfl⟩
 have h0 : q.drop 0 = 34 :: (s.flatMap quoC ++ [34]) := by rw [hq]; rfl
 have h1 : q.drop 1 = s.flatMap quoC ++ [34] := by rw [hq]; rfl
 have hlen : q.length = (s.flatMap quoC).length + 2 := by rw [hq]; unfold quoT; simp
 have hg0 : q[0]? = some 34 := by rw [hq]; rfl
 have hpos : 0 < q.length := by omega
 have hgd : q.getD 0 0 = 34 := by rw [List.getD_eq_getElem?_getD, hg0]; rfl
 have hq0 : q[0] = 34 := by
  have := List.getElem?_eq_getElem hpos
  rw [hg0] at this; exact (Option.some.inj this).symm
 have e1 : gapE q 0 = 0 := stopAt_no hpos (by rw [hq0]; rfl)
 have e2 : gapC q 0 = 0 := by unfold gapC; rw [e1, hg0, if_neg (by decide)]
 have hone : oneS q 0 0 = .inr (⟨3, s, 0, 0⟩, q.length, 0) := by
  unfold oneS
  rw [hgd, if_neg (by decide), if_neg (by decide), if_pos rfl, h1, quoteS_quo [] s 1 [] h]
  show (Sum.inr ((⟨3, s, 0, 0⟩ : Tok), 1 + (s.flatMap quoC).length + 1, 0) : Flt ⊕ (Tok × Nat × Nat)) = _
  rw [hlen, show 1 + (s.flatMap quoC).length + 1 = (s.flatMap quoC).length + 2 by omega]
 have hend := gap_end q
 have hline : lineF (q.length + 1) q 0 0 [] = .inr (q.length, [⟨3, s, 0, 0⟩, tokLine q.length]) := by
  rw [lineF, if_pos (show 0 < q.length ∧ (q[0]? ≠ some 10 ∨ 0 < 0) from ⟨hpos, .inl (by rw [hg0]; decide)⟩), if_neg (by rw [hg0]; decide), hone]
  simp only
  obtain ⟨m, hm⟩ : ∃ m, q.length = m + 1 := ⟨q.length - 1, by omega⟩
  rw [hend]
  conv => lhs; rw [show lineF q.length q = lineF (m + 1) q by rw [hm]]
  rw [lineF, if_neg (by omega), if_neg (by omega), if_neg (by omega)]
  rfl
 have hfur : ∀ i, furS 0 i [0] = .inr ([0], []) := fun i => by
  unfold furS
  rw [if_neg (by decide), if_pos (by decide)]
  rfl
 rw [← hq] at hl ⊢
 unfold splitS
 rw [if_neg (by omega), allF, e2, if_neg (by omega), if_neg (by rw [hg0]; decide), e1, hfur]
 simp only
 rw [List.append_nil, hline]
 simp only
 obtain ⟨m, hm⟩ : ∃ m, q.length = m + 1 := ⟨q.length - 1, by omega⟩
 have : allF q.length q q.length [0] [⟨3, s, 0, 0⟩, tokLine q.length] = .inr [⟨3, s, 0, 0⟩, tokLine q.length] := by
  conv => lhs; rw [show allF q.length q = allF (m + 1) q by rw [hm]]
  rw [allF, hend, if_pos (Nat.le_refl _), hfur]
  simp
 rw [this]
theorem SyntaxQuotes_ok (s : List UInt8) (hs : s.length ≤ 1048576) : Calc cx 7 [.str s] (.bool true) :=
 pure_intro (fun a w => Tryz.call7 a w) Tryz.func7 rfl Tryz.ntmps7 rfl .bool fun B => by
  refine pa [.v (.bool true), .b false] rfl ?_ ?_
  ·(repeat' with_reducible apply AllP_cons) <;> first | exact aC | skip
   ·exact ⟨_, syntaxBegun_ok, .nil _⟩
  refine S_while (α := Nat) (fun i => [(0, .str s), (3, .int .i64 (i : Nat))]) (fun _ => []) (fun i => i ≤ s.length ∧ okTx (s.take i)) (fun i => s.length - i) 0
   ⟨Nat.zero_le _, by intro c hc; cases hc⟩ (.cons rfl (.cons rfl (.nil _))) rfl ?_
  rintro i ⟨hi, hok⟩
  have hi : i ≤ s.length := hi
  by_cases hlt : i < s.length
  ·have hgd : (((s.getD ((i : Nat) : Int).toNat 0).toNat : Nat) : Int) = ((s[i].toNat : Nat) : Int) := by rw [Int.toNat_natCast, getD_byte hlt]
   have hnx : (32 ≤ s[i].toNat ∨ s[i] = 9 ∨ s[i] = 10) → okTx (s.take (i + 1)) := fun h c hc => by
    rw [List.take_succ_eq_append_getElem hlt] at hc
    rcases List.mem_append.1 hc with hc | hc
    ·exact hok c hc
    ·rw [List.mem_singleton] at hc; rw [hc]; exact h
   have rnd : AV.int .i64 (IntKind.i64.wrap (((i : Nat) : Int) + 1)) = .int .i64 ((i + 1 : Nat) : Int) := ai64 rfl (by omega)
   by_cases c1 : s[i].toNat < 32
   ·have e1 : decide ((((s.getD ((i : Nat) : Int).toNat 0).toNat : Nat) : Int) < 32) = true := by rw [hgd]; exact decide_eq_true (by omega)
    by_cases c2 : s[i] = 9
    ·have e2 : ((((s.getD ((i : Nat) : Int).toNat 0).toNat : Nat) : Int) != 9) = false := by rw [hgd, c2]; rfl
     refine pa [.b true, .b true, .b false, .b false] rfl ?_ ?_
     ·(repeat' with_reducible apply AllP_cons) <;> first | exact aC | skip
     exact S_round (i + 1) (by show s.length - (i + 1) < s.length - i; omega) ⟨hlt, hnx (.inr (.inl c2))⟩ (.cons rfl (.cons rnd (.nil _))) rfl
    ·have e2 : ((((s.getD ((i : Nat) : Int).toNat 0).toNat : Nat) : Int) != 9) = true := by
      rw [hgd]; exact bne_iff_ne.2 (fun h => c2 (UInt8.toNat_inj.1 (by show s[i].toNat = 9; omega)))
     by_cases c3 : s[i] = 10
     ·have e3 : ((((s.getD ((i : Nat) : Int).toNat 0).toNat : Nat) : Int) != 10) = false := by rw [hgd, c3]; rfl
      refine pa [.b true, .b true, .b true, .b false] rfl ?_ ?_
      ·(repeat' with_reducible apply AllP_cons) <;> first | exact aC | skip
      exact S_round (i + 1) (by show s.length - (i + 1) < s.length - i; omega) ⟨hlt, hnx (.inr (.inr c3))⟩ (.cons rfl (.cons rnd (.nil _))) rfl
     ·have e3 : ((((s.getD ((i : Nat) : Int).toNat 0).toNat : Nat) : Int) != 10) = true := by
       rw [hgd]; exact bne_iff_ne.2 (fun h => c3 (UInt8.toNat_inj.1 (by show s[i].toNat = 10; omega)))
      refine pa [.b true, .b true, .b true, .b true] rfl ?_ ?_
      ·(repeat' with_reducible apply AllP_cons) <;> first | exact aC | skip
      exact S_retc .bool rfl trivial rfl
   ·have e1 : decide ((((s.getD ((i : Nat) : Int).toNat 0).toNat : Nat) : Int) < 32) = false := by rw [hgd]; exact decide_eq_false (by omega)
    refine pa [.b true, .b false, .b false, .b false] rfl ?_ ?_
    ·(repeat' with_reducible apply AllP_cons) <;> first | exact aC | skip
    exact S_round (i + 1) (by show s.length - (i + 1) < s.length - i; omega) ⟨hlt, hnx (.inl (by omega))⟩ (.cons rfl (.cons rnd (.nil _))) rfl
  ·obtain rfl : i = s.length := by omega
   rw [List.take_length] at hok
   have hQ := Quote_ok s (by omega)
   by_cases h6 : 6000 < (quoT s).length
   ·have e6 : decide ((((quoT s).length : Nat) : Int) > 6000) = true := decide_eq_true (by omega)
    refine pa [.b false, .v (.str (quoT s)), .b true] rfl ?_ ?_
    ·(repeat' with_reducible apply AllP_cons) <;> first | exact aC | skip
     ·exact ⟨_, hQ, .cons (.refl .str) (.nil _)⟩
    exact S_retc .bool rfl trivial rfl
   ·have e6 : decide ((((quoT s).length : Nat) : Int) > 6000) = false := decide_eq_false (by omega)
    have hS := Split_ok (quoT s)
    rw [quo_split s hok (by omega)] at hS
    refine pa [.b false, .v (.str (quoT s)), .b false, .v (splitAV ([⟨3, s, 0, 0⟩, tokLine (quoT s).length], (0, 0))), .b true, .b true, .v (tokA ⟨3, s, 0, 0⟩), .b true, .v (tokA ⟨3, s, 0, 0⟩), .b true, .v (tokA ⟨3, s, 0, 0⟩)] rfl ?_ ?_
    ·(repeat' with_reducible apply AllP_cons) <;> first | exact aC | skip
     ·exact ⟨_, hQ, .cons (.refl .str) (.nil _)⟩
     ·exact ⟨_, hS, .cons (.refl .str) (.nil _)⟩
     ·exact beq_self_eq_true s
    exact S_retc .bool rfl trivial rfl
end Go.Proofs.YtonjhfeabphaaaaGreatDoor
end
