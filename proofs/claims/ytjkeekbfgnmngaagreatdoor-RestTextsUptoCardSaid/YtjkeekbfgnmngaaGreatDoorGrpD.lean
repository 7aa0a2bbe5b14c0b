/-
  Texts of our own, in one file.
-/
import Derived.Test.YtjkeekbfgnmngaaGreatDoorGrpC
section
set_option linter.unusedVariables false
set_option linter.unusedSimpArgs false
set_option maxRecDepth 20000
namespace Go.Proofs.YtjkeekbfgnmngaaGreatDoor
open Go Go.Ab
theorem SameAction_ok {st st' : Bool} (a b : ActV) (ha : ActOk a) (hb : ActOk b) : Calc cx 23 [actAV st a, actAV st' b] (.bool ((a.cmd == b.cmd) && (a.inp == b.inp) && (a.outs == b.outs) && (a.fuel == b.fuel))) :=
  pure_intro (fun a w => Tryz.call23 a w) Tryz.func23 rfl Tryz.ntmps23 rfl .bool fun B => by
    obtain ⟨c1, i1, o1, f1⟩ := a
    obtain ⟨c2, i2, o2, f2⟩ := b
    obtain ⟨ha1, ha2, ha3, ha4⟩ := ha
    obtain ⟨hb1, hb2, hb3, hb4⟩ := hb
    simp only at ha1 ha3 hb1 hb3
    have lend : ∀ (σ : Heap) (x : List (List UInt8)), Frz false σ (.sl st false 1 (texts x)) (.sl st false 1 (texts x)) := fun σ x => .refl (.sl (fun h => by cases h) (texts_any x))
    have lend' : ∀ (σ : Heap) (x : List (List UInt8)), Frz false σ (.sl st' false 1 (texts x)) (.sl st' false 1 (texts x)) := fun σ x => .refl (.sl (fun h => by cases h) (texts_any x))
    refine ab 1000 rfl ⟨rfl, rfl, trivial⟩ ?_
    refine S_pure rfl rfl rfl (SameTexts_ok (st := st) (st' := st') (fl := false) (fl' := false) c1 c2 (by omega) (by omega)) (.cons (lend _ _) (.cons (lend' _ _) (.nil _))) ?_
    refine ab 1000 rfl trivial ?_
    refine S_guard rfl rfl rfl rfl (fun h1 => ?_) (fun h1 => ?_)
    · refine ab 1000 rfl ⟨rfl, rfl, trivial⟩ ?_
      refine S_guard rfl rfl rfl rfl (fun h2 => ?_) (fun h2 => ?_)
      · refine ab 1000 rfl ⟨rfl, rfl, trivial⟩ ?_
        refine S_pure rfl rfl rfl (SameTexts_ok (st := st) (st' := st') (fl := false) (fl' := false) o1 o2 (by omega) (by omega)) (.cons (lend _ _) (.cons (lend' _ _) (.nil _))) ?_
        refine ab 1000 rfl trivial ?_
        refine S_guard rfl rfl rfl rfl (fun h3 => ?_) (fun h3 => ?_)
        · refine ab 1000 rfl ⟨rfl, rfl, trivial⟩ ?_
          refine S_retc .bool rfl trivial ?_
          show AV.bool (f1 == f2) = .bool ((c1 == c2) && (i1 == i2) && (o1 == o2) && (f1 == f2))
          rw [show (c1 == c2) = true from h1, show (i1 == i2) = true from h2, show (o1 == o2) = true from h3]; simp
        · refine ab 1000 rfl trivial ?_
          refine S_retc .bool rfl trivial ?_
          show AV.bool false = .bool ((c1 == c2) && (i1 == i2) && (o1 == o2) && (f1 == f2))
          rw [show (o1 == o2) = false from h3]; simp
      · refine ab 1000 rfl trivial ?_
        refine S_guard rfl rfl rfl rfl (fun h => by cases h) (fun _ => ?_)
        refine ab 1000 rfl trivial ?_
        refine S_retc .bool rfl trivial ?_
        show AV.bool false = .bool ((c1 == c2) && (i1 == i2) && (o1 == o2) && (f1 == f2))
        rw [show (i1 == i2) = false from h2]; simp
    · refine ab 1000 rfl trivial ?_
      refine S_guard rfl rfl rfl rfl (fun h => by cases h) (fun _ => ?_)
      refine ab 1000 rfl trivial ?_
      refine S_guard rfl rfl rfl rfl (fun h => by cases h) (fun _ => ?_)
      refine ab 1000 rfl trivial ?_
      refine S_retc .bool rfl trivial ?_
      show AV.bool false = .bool ((c1 == c2) && (i1 == i2) && (o1 == o2) && (f1 == f2))
      rw [show (c1 == c2) = false from h1]; simp
end Go.Proofs.YtjkeekbfgnmngaaGreatDoor
end
section
set_option linter.unusedVariables false
set_option linter.unusedSimpArgs false
set_option maxRecDepth 20000
set_option maxHeartbeats 2000000
namespace Go.Proofs.YtjkeekbfgnmngaaGreatDoor
open Go Go.Ab
def actC (m : Nat) (u1 u2 : Nat) (a : ActV) : List AV := [.ms m u1 0 a.cmd.length 1 false, .str a.inp, .ms (m + 1) u2 0 a.outs.length 1 false, .int .i64 a.fuel]
def actB (m u1 u2 : Nat) (a : ActV) : Nat × Option Box := (0, some (.cells (actC m u1 u2 a) ⟨false, some 40⟩))
theorem ract_raw (v : Nat) (s : List UInt8) (hs : s.length ≤ 4398046511104) {c o : List (List UInt8)} {i : List UInt8} {k : Nat} {r : List UInt8} (hx : rAct s = some (⟨c, i, o, k⟩, r)) :
    CallOk cx 57 [.ptr 0 v 0] (rd v s) (fun x u => ∃ u1 u2, x = .ret (.agg (actC 2 u1 u2 ⟨c, i, o, k⟩)) ∧ u = [rdE v r, actB 2 u1 u2 ⟨c, i, o, k⟩, tb u1 c, tb u2 o]) :=
  callOk_intro (fun a w => Tryz.call57 a w) Tryz.func57 rfl Tryz.ntmps57 rfl fun B => by
    unfold rAct at hx
    cases h1 : rTexts s with
    | none => rw [h1] at hx; cases hx
    | some p1 =>
    obtain ⟨c', r1⟩ := p1
    rw [h1] at hx
    simp only at hx
    cases h2 : rText r1 with
    | none => rw [h2] at hx; cases hx
    | some p2 =>
    obtain ⟨i', r2⟩ := p2
    rw [h2] at hx
    simp only at hx
    cases h3 : rTexts r2 with
    | none => rw [h3] at hx; cases hx
    | some p3 =>
    obtain ⟨o', r3⟩ := p3
    rw [h3] at hx
    simp only at hx
    cases h4 : rNum r3 with
    | none => rw [h4] at hx; cases hx
    | some p4 =>
    obtain ⟨k', r4⟩ := p4
    rw [h4] at hx
    cases hx
    have b1 := rTexts_bd h1
    have b2 := rText_bd h2
    have b3 := rTexts_bd h3
    have hT1 := rtexts_ok v s (by omega)
    rw [h1] at hT1
    have hT2 := rtexts_ok v r2 (by omega)
    rw [h3] at hT2
    refine ab 1000 rfl trivial ?_
    refine S_callf [0] hT1 rfl (.cons (.ptr rfl) (.nil _)) (Part.mk' (es := [rdE v s]) rfl rfl (.cons (.live (.cells (.cons (.free .str) (.nil _)))) (.nil _))) rfl rfl ?_ ?_
    case refine_2 => intro y σ1 h; obtain ⟨_, h, _⟩ := h; cases h
    intro y σ1 h
    obtain ⟨u1, h, rfl⟩ := h
    cases h
    refine ⟨.ms 2 u1 0 c.length 1 false, [rdE v r1, tb u1 c], .cons (.live (.cells (.cons (.free .str) (.nil _)))) (.cons (.live (.cells (Rns.free (texts_any c)))) (.nil _)), .ms rfl, ?_⟩
    show S cx _ _ _ _ _ [rdE v r1, actZ 0, tb u1 c]
    refine ab 1000 rfl trivial ?_
    refine S_rd 0 rfl rfl rfl rfl rfl (fun y h => by cases h) (rtext_ok v r1 (by omega)) (fun _ => .str) (fun i2 r2' h2' => ?_) (fun h2' r => by rw [h2] at h2'; cases h2')
    rw [h2] at h2'
    cases h2'
    refine ab 1000 rfl trivial ?_
    refine S_callf [0] hT2 rfl (.cons (.ptr rfl) (.nil _)) (Part.mk' (es := [rdE v r2]) rfl rfl (.cons (.live (.cells (.cons (.free .str) (.nil _)))) (.nil _))) rfl rfl ?_ ?_
    case refine_2 => intro y σ1 h; obtain ⟨_, h, _⟩ := h; cases h
    intro y σ1 h
    obtain ⟨u2, h, rfl⟩ := h
    cases h
    refine ⟨.ms 3 u2 0 o.length 1 false, [rdE v r3, tb u2 o], .cons (.live (.cells (.cons (.free .str) (.nil _)))) (.cons (.live (.cells (Rns.free (texts_any o)))) (.nil _)), .ms rfl, ?_⟩
    show S cx _ _ _ _ _ [rdE v r3, actZ 0, tb u1 c, tb u2 o]
    refine ab 1000 rfl trivial ?_
    refine S_rd 0 rfl rfl rfl rfl rfl (fun y h => by cases h) (rnumber_ok v r3 (by omega)) (fun _ => .int) (fun k2 r4' h4' => ?_) (fun h4' r => by rw [h4] at h4'; cases h4')
    rw [h4] at h4'
    cases h4'
    refine ab 1000 rfl ⟨lble rfl, rfl, trivial⟩ ?_
    exact S_ret ⟨_, _, rfl, ⟨rfl, trivial⟩, u1, u2, rfl, rfl⟩
theorem aclosure_raw (e : Int) (b c d f g : Nat) (Xa Xb Xc Xd Xf Xg : Box) (R : Md → Heap → Prop) (h : R .ret [(0, some Xa), xb (.int .i64 e), (b, some Xb), (c, some Xc), (d, some Xd), (f, some Xf), (g, some Xg), zb]) :
    DCall cx (.func (.func 93) [] [.ptr 0 0 0, .ptr 1 0 0]) .ret [(0, some Xa), xb (.int .i64 e), (b, some Xb), (c, some Xc), (d, some Xd), (f, some Xf), (g, some Xg)] R :=
  dcall_recover (fun a w => Tryz.call93 a w) Tryz.func93 rfl Tryz.ntmps93 rfl rfl rfl rfl rfl rfl rfl fun B => by
    refine ab 1000 rfl ⟨lble rfl, rfl, trivial⟩ ?_
    refine S_cond rfl (fun h => by cases h) (fun _ => ?_)
    refine ab 1000 rfl trivial ?_
    exact S_nil ⟨_, _, rfl, trivial, _, rfl, h⟩
theorem readAct_raw (s : List UInt8) (hs : s.length ≤ 1099511627776) {c o : List (List UInt8)} {i : List UInt8} {k : Nat} {r : List UInt8} (hx : rAct s = some (⟨c, i, o, k⟩, r)) (hE : actE ⟨c, i, o, k⟩ = 0) (hP : packA ⟨c, i, o, k⟩ = s) :
    CallOk cx 56 [.str s, .func (.func 57) [] [], .func (.func 21) [] []] []
      (fun x u => ∃ u1 u2, x = .ret (.tup [.agg (actC 4 u1 u2 ⟨c, i, o, k⟩), .int .i64 0]) ∧ u = [actB 4 u1 u2 ⟨c, i, o, k⟩, xb (.int .i64 0), rdE 0 r, actB 4 u1 u2 ⟨c, i, o, k⟩, tb u1 c, tb u2 o, actB 4 u1 u2 ⟨c, i, o, k⟩, zb]) :=
  callOk_introD (fun a w => Tryz.call56 a w) Tryz.func56 rfl Tryz.ntmps56 rfl fun B hB => by
    have hok : ActOk ⟨c, i, o, k⟩ := rAct_fit hx hs
    have hA := Action_ok (st := false) ⟨c, i, o, k⟩ hok
    rw [hE, if_pos rfl, hP] at hA
    refine ab 1000 rfl trivial ?_
    refine S_defer rfl rfl rfl rfl hB ?_
    refine ab 1000 rfl trivial ?_
    refine S_callf [2] (ract_raw 0 s (by omega) hx) rfl (.cons (.ptr rfl) (.nil _)) (Part.mk' (es := [rdE 0 s]) rfl rfl (.cons (.live (.cells (.cons (.free .str) (.nil _)))) (.nil _))) rfl rfl ?_ ?_
    case refine_2 => intro y σ1 h; obtain ⟨_, _, h, _⟩ := h; cases h
    intro y σ1 h
    obtain ⟨u1, u2, h, rfl⟩ := h
    cases h
    have hR : Rns ([2] ++ newIds 3 3) (actC 2 u1 u2 ⟨c, i, o, k⟩) (actC 4 u1 u2 ⟨c, i, o, k⟩) := .cons (.ms rfl) (.cons (.free .str) (.cons (.ms rfl) (.cons (.free .int) (.nil _))))
    refine ⟨.agg (actC 4 u1 u2 ⟨c, i, o, k⟩), [rdE 0 r, actB 4 u1 u2 ⟨c, i, o, k⟩, tb u1 c, tb u2 o], .cons (.live (.cells (.cons (.free .str) (.nil _)))) (.cons (.live (.cells hR)) (.cons (.live (.cells (Rns.free (texts_any c)))) (.cons (.live (.cells (Rns.free (texts_any o)))) (.nil _)))), ?_, ?_⟩
    · exact .agg hR.1 (fun i h => hR.2 i h)
    show S cx _ _ _ _ _ [actZ 0, xb (.int .i64 0), rdE 0 r, actB 4 u1 u2 ⟨c, i, o, k⟩, tb u1 c, tb u2 o]
    refine ab 1000 rfl ⟨rfl, lble rfl, rfl, trivial⟩ ?_
    refine S_pure rfl rfl rfl hA (.cons ?_ (.nil _)) ?_
    · exact .agg rfl (fun i h h' => by
        match i, h, h' with
        | 0, _, _ => exact .ms1 rfl (texts_one _) (by simp [texts]) (texts_any _)
        | 1, _, _ => exact .refl .str
        | 2, _, _ => exact .ms1 rfl (texts_one _) (by simp [texts]) (texts_any _)
        | 3, _, _ => exact .refl .int)
    refine ab 1000 rfl trivial ?_
    refine S_guard rfl rfl rfl rfl (fun hg => by cases hg) (fun hg => ?_)
    refine ab 1000 rfl trivial ?_
    refine S_cond rfl (fun h => by simp at h) (fun h => ?_)
    refine ab 1000 rfl ⟨lble rfl, rfl, lble rfl, rfl, rfl, trivial⟩ ?_
    refine S_ret ⟨_, rfl, aclosure_raw 0 _ _ _ _ _ _ _ _ _ _ _ _ ⟨_, _, rfl, ⟨rfl, rfl, trivial⟩, u1, u2, rfl, rfl⟩⟩
def rdBs (m u1 u2 : Nat) (a : ActV) (r : List UInt8) : Heap := [actB (m + 5) u1 u2 a, actB (m + 5) u1 u2 a, xb (.int .i64 0), rdE 0 r, actB (m + 5) u1 u2 a, tb u1 a.cmd, tb u2 a.outs, actB (m + 5) u1 u2 a, zb]
theorem actC_rn {ids : List Nat} {m m' u1 u2 : Nat} {a : ActV} (h1 : ids[m]? = some m') (h2 : ids[m + 1]? = some (m' + 1)) : Rns ids (actC m u1 u2 a) (actC m' u1 u2 a) := .cons (.ms h1) (.cons (.free .str) (.cons (.ms h2) (.cons (.free .int) (.nil _))))
theorem rAct_nat {s r : List UInt8} {a : ActV} (h : rAct s = some (a, r)) : 0 ≤ a.fuel := by
  unfold rAct at h
  split at h
  · cases h
  split at h
  · cases h
  split at h
  · cases h
  split at h
  · cases h
  cases h
  exact Int.natCast_nonneg _
theorem ReadAction_raw (s : List UInt8) (hs : s.length ≤ 1099511627776) {a : ActV} {r : List UInt8} (hx : rAct s = some (a, r)) (hE : actE a = 0) (hP : packA a = s) :
    CallOk cx 22 [.str s] [] (fun x u => ∃ u1 u2, x = .ret (.tup [.agg (actC 5 u1 u2 a), .int .i64 0]) ∧ u = rdBs 0 u1 u2 a r) :=
  callOk_intro (fun a w => Tryz.call22 a w) Tryz.func22 rfl Tryz.ntmps22 rfl fun B => by
    have hk := rAct_nat hx
    obtain ⟨c, i, o, k⟩ := a
    obtain ⟨k, rfl⟩ := Int.eq_ofNat_of_zero_le hk
    refine ab 1000 rfl trivial ?_
    refine S_callf [] (readAct_raw s hs hx hE hP) rfl (.cons (.free .str) (.cons (.free (.func (fun x h => by cases h) (fun x h => by cases h))) (.cons (.free (.func (fun x h => by cases h) (fun x h => by cases h))) (.nil _)))) (Part.mk' (es := []) rfl rfl (.nil _)) rfl rfl ?_ ?_
    case refine_2 => intro y σ1 h; obtain ⟨_, _, h, _⟩ := h; cases h
    intro y σ1 h
    obtain ⟨u1, u2, h, rfl⟩ := h
    cases h
    have hR : Rns (newIds 1 8) (actC 4 u1 u2 ⟨c, i, o, k⟩) (actC 5 u1 u2 ⟨c, i, o, k⟩) := actC_rn rfl rfl
    have bl : ∀ {v : Nat} {l l' : List AV} {g : Tag}, Rns (newIds 1 8) l l' → RnE (newIds 1 8) (v, some (.cells l g)) (v, some (.cells l' g)) := fun h => .live (.cells h)
    refine ⟨.tup [.agg (actC 5 u1 u2 ⟨c, i, o, k⟩), .int .i64 0], [actB 5 u1 u2 ⟨c, i, o, k⟩, xb (.int .i64 0), rdE 0 r, actB 5 u1 u2 ⟨c, i, o, k⟩, tb u1 c, tb u2 o, actB 5 u1 u2 ⟨c, i, o, k⟩, zb], ?_, ?_, ?_⟩
    · exact .cons (bl hR) (.cons (bl (.cons (.free .int) (.nil _))) (.cons (bl (.cons (.free .str) (.nil _))) (.cons (bl hR) (.cons (bl (Rns.free (texts_any c))) (.cons (bl (Rns.free (texts_any o))) (.cons (bl hR) (.cons (bl (.nil _)) (.nil _))))))))
    · exact .tup rfl (fun i h h2 => by
        match i, h, h2 with
        | 0, _, _ => exact .agg hR.1 (fun i h => hR.2 i h)
        | 1, _, _ => exact .free .int)
    show S cx _ _ _ _ _ [actZ 0, actB 5 u1 u2 ⟨c, i, o, k⟩, xb (.int .i64 0), rdE 0 r, actB 5 u1 u2 ⟨c, i, o, k⟩, tb u1 c, tb u2 o, actB 5 u1 u2 ⟨c, i, o, k⟩, zb]
    refine ab 1000 rfl ⟨lble rfl, rfl, trivial⟩ ?_
    exact S_ret ⟨_, _, rfl, ⟨rfl, trivial⟩, u1, u2, rfl, rfl⟩
end Go.Proofs.YtjkeekbfgnmngaaGreatDoor
end
section
set_option linter.unusedVariables false
set_option linter.unusedSimpArgs false
set_option maxRecDepth 20000
namespace Go.Proofs.YtjkeekbfgnmngaaGreatDoor
open Go Go.Ab
theorem xor1_ok (x y : Int) : Calc cx 154 [.int .i64 x, .int .i64 y] (.int .i64 ((IntKind.i64.wrap (x + y)).tmod 2)) :=
  pure_intro (fun a w => Tryz.call154 a w) Tryz.func154 rfl Tryz.ntmps154 rfl .int fun B => by
    refine ab 1000 rfl ⟨by decide, trivial⟩ ?_
    refine S_ret ⟨_, _, rfl, trivial, _, rfl, .refl .int⟩
def bitsN (G : Nat → Nat → Nat) : Nat → Nat → Nat → Nat
  | 0, _, _ => 0
  | k + 1, a, b => G (a % 2) (b % 2) + 2 * bitsN G k (a / 2) (b / 2)
theorem bits_ok (G : Nat → Nat → Nat) (f : FuncId) (hG : ∀ x y, x < 2 → y < 2 → G x y < 2 ∧ Calc cx f [.int .i64 x, .int .i64 y] (.int .i64 (G x y))) (a b : Nat) (ha : a < 4294967296) (hb : b < 4294967296) :
    Calc cx 153 [.int .i64 a, .int .i64 b, .func (.func f) [] []] (.int .i64 (bitsN G 32 a b)) :=
  pure_intro (fun a w => Tryz.call153 a w) Tryz.func153 rfl Tryz.ntmps153 rfl .int fun B => by
    refine ab 1000 rfl trivial ?_
    refine S_while (α := Nat × Nat × Nat × Nat) (fun (i, a, b, n) => [(0, .int .i64 a), (1, .int .i64 b), (2, .func (.func f) [] []), (7, .int .i64 n), (8, .int .i64 ((2 ^ i : Nat) : Int)), (9, .int .i64 i)]) (fun _ => [])
      (fun (i, a', b', n) => i ≤ 32 ∧ a' < 4294967296 ∧ b' < 4294967296 ∧ n < 2 ^ i ∧ n + 2 ^ i * bitsN G (32 - i) a' b' = bitsN G 32 a b) (fun (i, _) => 32 - i) (0, a, b, 0)
      ⟨by decide, ha, hb, by decide, by simp⟩ (.cons rfl (.cons rfl (.cons rfl (.cons rfl (.cons rfl (.cons rfl (.nil _))))))) rfl ?_
    rintro ⟨i, a', b', n⟩ ⟨hi, ha', hb', hn, hN⟩
    have hG' := hG (a' % 2) (b' % 2) (Nat.mod_lt _ (by decide)) (Nat.mod_lt _ (by decide))
    have hp : 2 ^ i ≤ 2 ^ 32 := Nat.pow_le_pow_right (by decide) hi
    refine ab 1000 rfl trivial ?_
    refine S_dec rfl (fun h => ?_) (fun h => ?_)
    · have hi32 : i < 32 := by omega
      refine ab 1000 rfl ⟨by decide, by decide, trivial⟩ ?_
      refine S_pure rfl rfl rfl hG'.2 (.cons (.refl .int) (.cons (.refl .int) (.nil _))) ?_
      refine ab 1000 rfl ⟨by decide, by decide, trivial⟩ ?_
      have hg : G (a' % 2) (b' % 2) < 2 := hG'.1
      have hm : 2 ^ i * G (a' % 2) (b' % 2) ≤ 2 ^ i := by
        rcases Nat.lt_or_ge (G (a' % 2) (b' % 2)) 1 with h | h
        · rw [show G (a' % 2) (b' % 2) = 0 by omega]; simp
        · rw [show G (a' % 2) (b' % 2) = 1 by omega]; simp
      refine S_round (i + 1, a' / 2, b' / 2, n + 2 ^ i * G (a' % 2) (b' % 2)) ?_ ⟨by omega, by omega, by omega, ?_, ?_⟩ (.cons ?_ (.cons ?_ (.cons rfl (.cons ?_ (.cons ?_ (.cons ?_ (.nil _))))))) rfl
      · show 32 - (i + 1) < 32 - i; omega
      · show n + _ < 2 ^ (i + 1); rw [Nat.pow_succ]; omega
      · show n + 2 ^ i * G (a' % 2) (b' % 2) + 2 ^ (i + 1) * bitsN G (32 - (i + 1)) (a' / 2) (b' / 2) = _
        rw [← hN, show 32 - i = (32 - (i + 1)) + 1 by omega, bitsN, Nat.mul_add, Nat.pow_succ, Nat.mul_assoc (2 ^ i) 2]; omega
      · exact ai64 rfl (by omega)
      · exact ai64 rfl (by omega)
      · exact ai64 (congrArg (fun z : Int => (n : Int) + z) (w64 (k := 2 ^ i * G (a' % 2) (b' % 2)) rfl (by omega))) (by omega)
      · exact ai64 (by rw [Nat.pow_succ]; omega) (by rw [Nat.pow_succ]; omega)
      · exact ai64 rfl (by omega)
    · have hi32 : i = 32 := by omega
      subst hi32
      refine ab 1000 rfl trivial ?_
      refine S_ret ⟨_, _, rfl, trivial, _, rfl, ?_⟩
      rw [show bitsN G 32 a b = n by rw [← hN]; simp [bitsN]]
      exact .refl .int
theorem xor1_nat (x y : Nat) (hx : x < 2) (hy : y < 2) : (x + y) % 2 < 2 ∧ Calc cx 154 [.int .i64 x, .int .i64 y] (.int .i64 ((x + y) % 2 : Nat)) := by
  refine ⟨Nat.mod_lt _ (by decide), ?_⟩
  have h := xor1_ok x y
  rw [show (x : Int) + (y : Int) = ((x + y : Nat) : Int) from rfl, w64 (k := x + y) rfl (by omega)] at h
  exact h
def xor2 (a b : Nat) : Nat := bitsN (fun x y => (x + y) % 2) 32 a b
theorem bitsN_lt (G : Nat → Nat → Nat) (hG : ∀ x y, x < 2 → y < 2 → G x y < 2) : ∀ k a b, bitsN G k a b < 2 ^ k
  | 0, _, _ => by simp [bitsN]
  | k + 1, a, b => by
    have h := bitsN_lt G hG k (a / 2) (b / 2)
    have h1 := hG (a % 2) (b % 2) (Nat.mod_lt _ (by decide)) (Nat.mod_lt _ (by decide))
    rw [bitsN, Nat.pow_succ]; omega
theorem xor2_lt (a b : Nat) : xor2 a b < 4294967296 := bitsN_lt _ (fun x y _ _ => Nat.mod_lt _ (by decide)) 32 a b
theorem xor2_ok (a b : Nat) (ha : a < 4294967296) (hb : b < 4294967296) : Calc cx 153 [.int .i64 a, .int .i64 b, .func (.func 154) [] []] (.int .i64 (xor2 a b)) := by
  unfold xor2
  exact bits_ok _ _ xor1_nat a b ha hb
def xorL (l : List Nat) : Nat := l.foldl xor2 0
def ints (l : List Nat) : List AV := l.map fun (x : Nat) => .int .i64 x
theorem xor_ok {st fl : Bool} (l : List Nat) (hl : ∀ x ∈ l, x < 4294967296) (hn : l.length ≤ 4611686018427387904) : Calc cx 116 [.sl st fl 1 (ints l)] (.int .i64 (xorL l)) :=
  pure_intro (fun a w => Tryz.call116 a w) Tryz.func116 rfl Tryz.ntmps116 rfl .int fun B => by
    refine ab 1000 rfl trivial ?_
    refine S_while (α := Nat × Nat) (fun (i, n) => [(0, .sl st fl 1 (ints l)), (3, .int .i64 n), (4, .int .i64 i)]) (fun _ => []) (fun (i, n) => i ≤ l.length ∧ n < 4294967296 ∧ (l.drop i).foldl xor2 n = xorL l) (fun (i, _) => l.length - i) (0, 0)
      ⟨by simp, by decide, by simp [xorL]⟩ (.cons rfl (.cons rfl (.cons rfl (.nil _)))) rfl ?_
    rintro ⟨i, n⟩ ⟨hi, hn', hN⟩
    refine ab 1000 rfl trivial ?_
    refine S_dec rfl (fun h => ?_) (fun h => ?_)
    · have hil : i < l.length := by simp [ints] at h; omega
      refine ab 1000 rfl trivial ?_
      refine S_index (.int .i64 l[i]) rfl rfl rfl ⟨rfl, by omega, by simp [ints, List.getElem?_eq_getElem hil], trivial⟩ ?_
      refine ab 1000 rfl trivial ?_
      have hx := hl _ (List.getElem_mem hil)
      refine S_pure rfl rfl rfl (xor2_ok n l[i] hn' hx) (.cons (.refl .int) (.cons (.refl .int) (.cons (.refl (.func (by simp) (by simp))) (.nil _)))) ?_
      refine ab 1000 rfl trivial ?_
      refine S_round (i + 1, xor2 n l[i]) (by show l.length - (i + 1) < l.length - i; omega) ⟨hil, xor2_lt _ _, ?_⟩ (.cons rfl (.cons rfl (.cons (ai64 rfl (by omega)) (.nil _)))) rfl
      show (l.drop (i + 1)).foldl xor2 (xor2 n l[i]) = _
      rw [← hN, List.drop_eq_getElem_cons hil, List.foldl_cons]
    · have hil : i = l.length := by simp [ints] at h; omega
      subst hil
      refine ab 1000 rfl trivial ?_
      refine S_ret ⟨_, _, rfl, trivial, _, rfl, ?_⟩
      rw [← hN]; simp
      exact .refl .int
end Go.Proofs.YtjkeekbfgnmngaaGreatDoor
end
section
set_option linter.unusedVariables false
set_option linter.unusedSimpArgs false
set_option maxRecDepth 20000
namespace Go.Proofs.YtjkeekbfgnmngaaGreatDoor
open Go Go.Ab
theorem xor_half (a b : Nat) : a ^^^ b = (a % 2 + b % 2) % 2 + 2 * ((a / 2) ^^^ (b / 2)) := by
  have h1 : (a ^^^ b) / 2 = (a / 2) ^^^ (b / 2) := by
    have := Nat.shiftRight_xor_distrib (a := a) (b := b) (i := 1)
    simpa [Nat.shiftRight_eq_div_pow] using this
  have h2 : (a ^^^ b) % 2 = (a % 2 + b % 2) % 2 := by
    clear h1
    have h := @Nat.xor_mod_two_eq_one a b
    have hz := Nat.mod_two_eq_zero_or_one (a ^^^ b)
    generalize (a ^^^ b) % 2 = z at *
    rcases Nat.mod_two_eq_zero_or_one a with ha | ha <;> rcases Nat.mod_two_eq_zero_or_one b with hb | hb <;> rw [ha, hb] at h ⊢ <;> rcases hz with rfl | rfl <;> simp at h ⊢
  rw [← h1, ← h2]; omega
theorem bitsN_xor : ∀ k a b, bitsN (fun x y => (x + y) % 2) k a b = (a ^^^ b) % 2 ^ k
  | 0, a, b => by simp [bitsN, Nat.mod_one]
  | k + 1, a, b => by
    rw [bitsN, bitsN_xor k, xor_half a b, Nat.pow_succ, Nat.mul_comm (2 ^ k) 2, Nat.mod_mul]
    have h : (a % 2 + b % 2) % 2 < 2 := Nat.mod_lt _ (by decide)
    generalize (a % 2 + b % 2) % 2 = x at *
    generalize (a / 2) ^^^ (b / 2) = y at *
    have e1 : (x + 2 * y) % 2 = x := by omega
    have e2 : (x + 2 * y) / 2 = y := by omega
    rw [e1, e2]
theorem xor2_eq {a b : Nat} (ha : a < 4294967296) (hb : b < 4294967296) : xor2 a b = a ^^^ b := by
  unfold xor2
  rw [bitsN_xor]
  exact Nat.mod_eq_of_lt (Nat.xor_lt_two_pow (n := 32) ha hb)
theorem xorL_two {a b : Nat} (ha : a < 4294967296) (hb : b < 4294967296) : xorL [a, b] = a ^^^ b := by
  simp only [xorL, List.foldl_cons, List.foldl_nil]
  rw [xor2_eq (by decide) ha, Nat.zero_xor, xor2_eq ha hb]
theorem xorL_three {a b c : Nat} (ha : a < 4294967296) (hb : b < 4294967296) (hc : c < 4294967296) : xorL [a, b, c] = a ^^^ b ^^^ c := by
  simp only [xorL, List.foldl_cons, List.foldl_nil]
  rw [xor2_eq (by decide) ha, Nat.zero_xor, xor2_eq ha hb, xor2_eq (Nat.xor_lt_two_pow (n := 32) ha hb) hc]
end Go.Proofs.YtjkeekbfgnmngaaGreatDoor
end
section
set_option linter.unusedVariables false
set_option linter.unusedSimpArgs false
set_option maxRecDepth 20000
namespace Go.Proofs.YtjkeekbfgnmngaaGreatDoor
open Go Go.Ab
theorem Pow2_ok (m : Nat) (hm : m ≤ 62) : Calc cx 113 [.int .i64 m] (.int .i64 ((2 ^ m : Nat) : Int)) :=
  pure_intro (fun a w => Tryz.call113 a w) Tryz.func113 rfl Tryz.ntmps113 rfl .int fun B => by
    refine ab 1000 rfl trivial ?_
    refine S_while (α := Nat) (fun i => [(0, .int .i64 ((m - i : Nat) : Int)), (3, .int .i64 ((2 ^ i : Nat) : Int))]) (fun _ => []) (fun i => i ≤ m) (fun i => m - i) 0 (Nat.zero_le _) (.cons rfl (.cons rfl (.nil _))) rfl ?_
    intro i hi
    have hp : 2 ^ i ≤ 2 ^ 62 := Nat.pow_le_pow_right (by decide) (by omega)
    refine ab 1000 rfl trivial ?_
    refine S_dec rfl (fun h => ?_) (fun h => ?_)
    · have hil : i < m := by omega
      have hp2 : 2 ^ (i + 1) = 2 * 2 ^ i := by rw [Nat.pow_succ]; omega
      have hp3 : 2 ^ (i + 1) ≤ 2 ^ 62 := Nat.pow_le_pow_right (by decide) (by omega)
      refine ab 1000 rfl trivial ?_
      refine S_round (i + 1) (by show m - (i + 1) < m - i; omega) hil (.cons ?_ (.cons ?_ (.nil _))) rfl
      · exact ai64 (k := m - (i + 1)) (by omega) (by omega)
      · exact ai64 (k := 2 ^ (i + 1)) (by rw [hp2]; rfl) (by omega)
    · have him : i = m := by omega
      subst him
      refine ab 1000 rfl trivial ?_
      exact S_retc .int rfl trivial rfl
end Go.Proofs.YtjkeekbfgnmngaaGreatDoor
end
section
set_option linter.unusedVariables false
set_option linter.unusedSimpArgs false
set_option maxRecDepth 20000
namespace Go.Proofs.YtjkeekbfgnmngaaGreatDoor
open Go Go.Ab
def M32 : Nat := 4294967296
def rotr (x n : Nat) : Nat := (x * 2 ^ (32 - n) % M32) ||| (x / 2 ^ n)
def beW (p : List UInt8) (i : Nat) : Nat := (((p.getD i 0).toNat * 256 + (p.getD (i + 1) 0).toNat) * 256 + (p.getD (i + 2) 0).toNat) * 256 + (p.getD (i + 3) 0).toNat
def sig0 (x : Nat) : Nat := rotr x 7 ^^^ rotr x 18 ^^^ (x / 8)
def sig1 (x : Nat) : Nat := rotr x 17 ^^^ rotr x 19 ^^^ (x / 1024)
def Sig0 (x : Nat) : Nat := rotr x 2 ^^^ rotr x 13 ^^^ rotr x 22
def Sig1 (x : Nat) : Nat := rotr x 6 ^^^ rotr x 11 ^^^ rotr x 25
def wNext (w : List Nat) : Nat := (w.getD (w.length - 16) 0 + sig0 (w.getD (w.length - 15) 0) + w.getD (w.length - 7) 0 + sig1 (w.getD (w.length - 2) 0)) % M32
def sched : Nat → List Nat → List Nat
  | 0, w => w
  | k + 1, w => sched k (w ++ [wNext w])
def words (p : List UInt8) : List Nat := (List.range 16).map fun t => beW p (4 * t)
def schedOf (p : List UInt8) : List Nat := sched 48 (words p)
def round (v : List Nat) (kw : Nat) : List Nat :=
  let e := v.getD 4 0
  let a := v.getD 0 0
  let u := (v.getD 7 0 + Sig1 e + ((e &&& v.getD 5 0) ^^^ ((4294967295 - e) &&& v.getD 6 0)) + kw) % M32
  let x := (Sig0 a + ((a &&& v.getD 1 0) ^^^ (a &&& v.getD 2 0) ^^^ (v.getD 1 0 &&& v.getD 2 0))) % M32
  [(u + x) % M32, a, v.getD 1 0, v.getD 2 0, (v.getD 3 0 + u) % M32, e, v.getD 5 0, v.getD 6 0]
def rounds : Nat → Nat → List Nat → List Nat → List Nat
  | 0, t, w, v => v
  | k + 1, t, w, v => rounds k (t + 1) w (round v (kTab.getD t 0 + w.getD t 0))
def addW (a b : List Nat) : List Nat := (List.range 8).map fun i => (a.getD i 0 + b.getD i 0) % M32
def block (h : List Nat) (p : List UInt8) : List Nat := addW h (rounds 64 0 (schedOf p) h)
def blocks : Nat → List Nat → List UInt8 → List Nat
  | 0, h, p => h
  | k + 1, h, p => blocks k (block h (p.take 64)) (p.drop 64)
def padLen (n : Nat) : Nat := (119 - n % 64) % 64
def be8 (n : Nat) : List UInt8 := (List.range 8).map fun i => UInt8.ofNat (n / 256 ^ (7 - i) % 256)
def padded (s : List UInt8) : List UInt8 := s ++ [128] ++ List.replicate (padLen s.length) 0 ++ be8 (8 * s.length)
def hashOf (s : List UInt8) : List Nat := blocks ((padded s).length / 64) hTab (padded s)
def hexC (n : Nat) : UInt8 := ("0123456789abcdef".toUTF8.data.toList).getD n 0
def hexW (n : Nat) : List UInt8 := (List.range 8).map fun i => hexC (n / 16 ^ (7 - i) % 16)
def sha (s : List UInt8) : List UInt8 := (hashOf s).flatMap hexW
theorem sha_abc : sha [97, 98, 99] = "ba7816bf8f01cfea414140de5dae2223b00361a396177a9cb410ff61f20015ad".toUTF8.data.toList := by decide +kernel
end Go.Proofs.YtjkeekbfgnmngaaGreatDoor
end
section
set_option linter.unusedVariables false
set_option linter.unusedSimpArgs false
set_option maxRecDepth 20000
namespace Go.Proofs.YtjkeekbfgnmngaaGreatDoor
open Go Go.Ab
theorem u32add (a b : Nat) : IntKind.u32.wrap ((a : Int) + (b : Int)) = (((a + b) % M32 : Nat) : Int) := by
  rw [show (a : Int) + (b : Int) = ((a + b : Nat) : Int) from rfl, wrap_low rfl]; rfl
theorem u32xor {a b : Nat} (ha : a < M32) (hb : b < M32) : bitsA .xor .u32 (a : Int) (b : Int) = ((a ^^^ b : Nat) : Int) := bits_xor rfl ha hb
theorem u32and {a b : Nat} (ha : a < M32) (hb : b < M32) : bitsA .and .u32 (a : Int) (b : Int) = ((a &&& b : Nat) : Int) := bits_and rfl ha hb
theorem u32or {a b : Nat} (ha : a < M32) (hb : b < M32) : bitsA .or .u32 (a : Int) (b : Int) = ((a ||| b : Nat) : Int) := bits_or rfl ha hb
theorem u32not {a : Nat} (ha : a < M32) : bitsA .xor .u32 4294967295 (a : Int) = ((4294967295 - a : Nat) : Int) := by
  rw [show (4294967295 : Int) = ((4294967295 : Nat) : Int) from rfl, u32xor (by decide) ha, xor_ones ha]
theorem u32not' {a : Nat} (ha : a < M32) : bitsA .xor .u32 (if IntKind.u32.signed = true then -1 else IntKind.u32.max) (a : Int) = ((4294967295 - a : Nat) : Int) := by
  rw [show (if IntKind.u32.signed = true then -1 else IntKind.u32.max) = (4294967295 : Int) by decide, u32not ha]
theorem xor_lt {a b : Nat} (ha : a < M32) (hb : b < M32) : a ^^^ b < M32 := Nat.xor_lt_two_pow (n := 32) ha hb
theorem and_lt {a b : Nat} (ha : a < M32) : a &&& b < M32 := Nat.lt_of_le_of_lt Nat.and_le_left ha
theorem or_lt {a b : Nat} (ha : a < M32) (hb : b < M32) : a ||| b < M32 := Nat.or_lt_two_pow (n := 32) ha hb
theorem div_lt {a : Nat} (k : Nat) (ha : a < M32) : a / k < M32 := Nat.lt_of_le_of_lt (Nat.div_le_self _ _) ha
theorem mod_lt (a : Nat) : a % M32 < M32 := Nat.mod_lt _ (by decide)
theorem rotr_lt {x : Nat} (n : Nat) (h : x < M32) : rotr x n < M32 := or_lt (mod_lt _) (div_lt _ h)
theorem Sig0_lt {x : Nat} (h : x < M32) : Sig0 x < M32 := xor_lt (xor_lt (rotr_lt _ h) (rotr_lt _ h)) (rotr_lt _ h)
theorem Sig1_lt {x : Nat} (h : x < M32) : Sig1 x < M32 := xor_lt (xor_lt (rotr_lt _ h) (rotr_lt _ h)) (rotr_lt _ h)
theorem sig0_lt {x : Nat} (h : x < M32) : sig0 x < M32 := xor_lt (xor_lt (rotr_lt _ h) (rotr_lt _ h)) (div_lt _ h)
theorem sig1_lt {x : Nat} (h : x < M32) : sig1 x < M32 := xor_lt (xor_lt (rotr_lt _ h) (rotr_lt _ h)) (div_lt _ h)
theorem Rotate_ok (x n : Nat) (hx : x < M32) (h1 : 1 ≤ n) (h2 : n ≤ 31) : Calc cx 150 [.int .u32 x, .int .i64 (-(n : Int))] (.int .u32 (rotr x n)) :=
  pure_intro (fun a w => Tryz.call150 a w) Tryz.func150 rfl Tryz.ntmps150 rfl .int fun B => by
    have hw : IntKind.u64.wrap (-(n : Int)) = ((18446744073709551616 - n : Nat) : Int) := by
      rw [show IntKind.u64.wrap (-(n : Int)) = (-(n : Int)) % 18446744073709551616 by simp [IntKind.wrap, IntKind.signed, IntKind.bits]]; omega
    have hs : bitsA .and .u64 (IntKind.u64.wrap (-(n : Int))) 31 = ((32 - n : Nat) : Int) := by
      rw [hw, show (31 : Int) = ((31 : Nat) : Int) from rfl, bits_and (k := .u64) rfl (by show _ < 18446744073709551616; omega) (by decide)]
      rw [Nat.and_two_pow_sub_one_eq_mod _ 5]
      congr 1; omega
    have hd : IntKind.u64.wrap (32 - ((32 - n : Nat) : Int)) = (n : Int) := wu64 (by omega) (by omega)
    refine ab 1000 rfl ⟨?_, ?_, trivial⟩ ?_
    · rw [hs, hd]; omega
    · rw [hs]; omega
    refine S_retc .int rfl trivial ?_
    show AV.int .u32 (bitsA .or .u32 (IntKind.u32.wrap ((x : Int) * 2 ^ (min (bitsA .and .u64 (IntKind.u64.wrap (-(n : Int))) 31).toNat 32))) ((x : Int).fdiv (2 ^ (min (IntKind.u64.wrap (32 - bitsA .and .u64 (IntKind.u64.wrap (-(n : Int))) 31)).toNat 32)))) = _
    rw [hs, hd, Int.toNat_natCast, Int.toNat_natCast, Nat.min_eq_left (by omega), Nat.min_eq_left (by omega), shr_nat]
    rw [show (x : Int) * 2 ^ (32 - n) = ((x * 2 ^ (32 - n) : Nat) : Int) by rw [Int.natCast_mul, Int.natCast_pow]; rfl, wrap_low rfl]
    rw [show (2 : Nat) ^ IntKind.u32.bits = M32 from rfl, u32or (mod_lt _) (div_lt _ hx)]
    rfl
theorem u32L_len (l : List Nat) : (u32L l).length = l.length := by simp [u32L]
theorem u32L_get {l : List Nat} {i : Nat} (h : i < l.length) : (u32L l)[i]? = some (.int .u32 (l.getD i 0 : Nat)) := by
  simp [u32L, List.getD, h]
theorem u32L_ld {l : List Nat} {i : Nat} (h : i < l.length) : ((u32L l).drop i)[0]? = some (.int .u32 (l.getD i 0 : Nat)) := by
  rw [List.getElem?_drop, Nat.add_zero]; exact u32L_get h
theorem u32L_set (l : List Nat) (i n : Nat) : setRange (u32L l) i [.int .u32 (n : Nat)] = u32L (l.set i n) := by
  show (u32L l).set i _ = _
  simp [u32L, List.map_set]
end Go.Proofs.YtjkeekbfgnmngaaGreatDoor
end
section
set_option linter.unusedVariables false
set_option linter.unusedSimpArgs false
set_option maxRecDepth 20000
namespace Go.Proofs.YtjkeekbfgnmngaaGreatDoor
open Go Go.Ab
def W32 (l : List Nat) : Prop := ∀ x ∈ l, x < M32
theorem W32.getD {l : List Nat} (h : W32 l) (i : Nat) : l.getD i 0 < M32 := by
  rcases Nat.lt_or_ge i l.length with hi | hi
  · rw [show l.getD i 0 = l[i] by simp [List.getD, hi]]; exact h _ (List.getElem_mem hi)
  · rw [show l.getD i 0 = 0 by simp [List.getD, hi]]; decide
theorem W32.app {a b : List Nat} (ha : W32 a) (hb : W32 b) : W32 (a ++ b) := by
  intro x hx; rcases List.mem_append.1 hx with h | h; exact ha x h; exact hb x h
theorem W32.one {a : Nat} (ha : a < M32) : W32 [a] := by intro x hx; simp at hx; subst hx; exact ha
def accW (p : List UInt8) (i : Nat) : Nat → Nat
  | 0 => 0
  | j + 1 => accW p i j * 256 + (p.getD (i + j) 0).toNat
theorem accW_lt (p : List UInt8) (i : Nat) : ∀ j, accW p i j < 256 ^ j
  | 0 => by simp [accW]
  | j + 1 => by
    have := accW_lt p i j
    have hb := (p.getD (i + j) 0).toNat_lt
    rw [accW, Nat.pow_succ]; omega
theorem words_len (p : List UInt8) : (words p).length = 16 := by simp [words]
theorem words_get (p : List UInt8) {t : Nat} (h : t < 16) : (words p)[t]'(by rw [words_len]; exact h) = accW p (4 * t) 4 := by
  simp [words, beW, accW]
theorem words_lt (p : List UInt8) : W32 (words p) := by
  intro x hx
  obtain ⟨t, ht, rfl⟩ := List.getElem_of_mem hx
  rw [words_len] at ht
  rw [words_get p ht]
  exact accW_lt p (4 * t) 4
theorem set_fill {α : Type} (a : List α) (n : Nat) (x y : α) (b : List α) : (a ++ y :: b).set a.length x = a ++ x :: b := by
  rw [List.set_append_right _ _ (Nat.le_refl _), Nat.sub_self]; rfl
theorem wNext_lt (w : List Nat) : wNext w < M32 := mod_lt _
theorem round_lt {v : List Nat} (k : Nat) (h : W32 v) : W32 (round v k) := by
  intro x hx
  simp only [round, List.mem_cons, List.not_mem_nil, or_false] at hx
  rcases hx with rfl | rfl | rfl | rfl | rfl | rfl | rfl | rfl <;> first | exact mod_lt _ | exact h.getD _
theorem addW_len (a b : List Nat) : (addW a b).length = 8 := by simp [addW]
theorem addW_lt (a b : List Nat) : W32 (addW a b) := by
  intro x hx
  obtain ⟨i, _, rfl⟩ := List.mem_map.1 hx
  exact mod_lt _
theorem block_lt (h : List Nat) (p : List UInt8) : W32 (block h p) := addW_lt _ _
theorem block_len (h : List Nat) (p : List UInt8) : (block h p).length = 8 := addW_len _ _
def sB (v : Nat) (h : List Nat) : Nat × Option Box := (v, some (.cells (u32L h) ⟨false, some 156⟩))
def wB (x : Nat) (w : List Nat) : Nat × Option Box := (x, some (.cells (u32L w) ⟨false, none⟩))
def bB (u : Nat) (bs : List UInt8) (g : Tag) : Nat × Option Box := (u, some (.cells (bs.map byteAV) g))
theorem bytes_ld {bs : List UInt8} {i : Nat} (h : i < bs.length) : ((bs.map byteAV).drop i)[0]? = some (byteAV (bs.getD i 0)) := by
  rw [List.getElem?_drop, Nat.add_zero, List.getElem?_map, List.getElem?_eq_getElem h]
  simp [List.getD, h]
end Go.Proofs.YtjkeekbfgnmngaaGreatDoor
end
section
set_option linter.unusedVariables false
set_option linter.unusedSimpArgs false
set_option maxRecDepth 20000
namespace Go.Proofs.YtjkeekbfgnmngaaGreatDoor
open Go Go.Ab
theorem and_half (a b : Nat) : a &&& b = (a % 2) * (b % 2) + 2 * ((a / 2) &&& (b / 2)) := by
  have h1 : (a &&& b) / 2 = (a / 2) &&& (b / 2) := by
    have := Nat.shiftRight_and_distrib (a := a) (b := b) (i := 1)
    simpa [Nat.shiftRight_eq_div_pow] using this
  have h2 : (a &&& b) % 2 = (a % 2) * (b % 2) := by
    have h := @Nat.and_mod_two_eq_one a b
    have hz := Nat.mod_two_eq_zero_or_one (a &&& b)
    clear h1
    generalize (a &&& b) % 2 = z at *
    rcases Nat.mod_two_eq_zero_or_one a with ha | ha <;> rcases Nat.mod_two_eq_zero_or_one b with hb | hb <;> rw [ha, hb] at h ⊢ <;> rcases hz with rfl | rfl <;> simp at h ⊢
  rw [← h1, ← h2]; omega
theorem bitsN_and : ∀ k a b, bitsN (fun x y => x * y) k a b = (a &&& b) % 2 ^ k
  | 0, a, b => by simp [bitsN, Nat.mod_one]
  | k + 1, a, b => by
    rw [bitsN, bitsN_and k, and_half a b, Nat.pow_succ, Nat.mul_comm (2 ^ k) 2, Nat.mod_mul]
    have h : (a % 2) * (b % 2) < 2 := by
      rcases Nat.mod_two_eq_zero_or_one a with ha | ha <;> rcases Nat.mod_two_eq_zero_or_one b with hb | hb <;> rw [ha, hb] <;> decide
    generalize (a % 2) * (b % 2) = x at *
    generalize (a / 2) &&& (b / 2) = y at *
    have e1 : (x + 2 * y) % 2 = x := by omega
    have e2 : (x + 2 * y) / 2 = y := by omega
    rw [e1, e2]
theorem and1_nat (x y : Nat) (hx : x < 2) (hy : y < 2) : x * y < 2 ∧ Calc cx 155 [.int .i64 x, .int .i64 y] (.int .i64 (x * y : Nat)) := by
  have h2 : x * y < 2 := by
    have : x = 0 ∨ x = 1 := by omega
    rcases this with rfl | rfl <;> simp <;> omega
  refine ⟨h2, pure_intro (fun a w => Tryz.call155 a w) Tryz.func155 rfl Tryz.ntmps155 rfl .int fun B => ?_⟩
  refine ab 1000 rfl trivial ?_
  refine S_retc .int rfl trivial ?_
  exact ai64 (by simp) (by omega)
theorem And_ok (a b : Nat) (ha : a < M32) (hb : b < M32) : Calc cx 119 [.int .i64 a, .int .i64 b] (.int .i64 (a &&& b : Nat)) :=
  pure_intro (fun a w => Tryz.call119 a w) Tryz.func119 rfl Tryz.ntmps119 rfl .int fun B => by
    have hc := bits_ok (fun x y => x * y) 155 and1_nat a b ha hb
    rw [bitsN_and, Nat.mod_eq_of_lt (show a &&& b < 2 ^ 32 from Nat.lt_of_le_of_lt Nat.and_le_left ha)] at hc
    refine ab 1000 rfl trivial ?_
    refine S_pure rfl rfl rfl hc (.cons (.refl .int) (.cons (.refl .int) (.cons (.refl (.func (by simp) (by simp))) (.nil _)))) ?_
    refine ab 1000 rfl trivial ?_
    exact S_retc .int rfl trivial rfl
theorem Wrap_ok (n : Nat) (hn : n ≤ 4611686018427387904) : Calc cx 118 [.int .i64 n] (.int .i64 (n % M32 : Nat)) :=
  pure_intro (fun a w => Tryz.call118 a w) Tryz.func118 rfl Tryz.ntmps118 rfl .int fun B => by
    have e : (n : Int).tmod 4294967296 = ((n % M32 : Nat) : Int) := rfl
    refine ab 1000 rfl ⟨by decide, trivial⟩ ?_
    refine S_dec rfl (fun h => ?_) (fun h => ?_)
    · exfalso
      have h : (n : Int).tmod 4294967296 < 0 := h
      rw [e] at h; omega
    · refine ab 1000 rfl trivial ?_
      exact S_retc .int rfl trivial rfl
theorem rotr_sum {x n : Nat} (h1 : n ≤ 32) : x / 2 ^ n + x % 2 ^ n * 2 ^ (32 - n) = rotr x n ∨ M32 ≤ x := by
  rcases Nat.lt_or_ge x M32 with hx | hx
  · left
    have e : M32 = 2 ^ n * 2 ^ (32 - n) := by rw [← Nat.pow_add, show n + (32 - n) = 32 by omega]; rfl
    have e2 : x * 2 ^ (32 - n) % M32 = x % 2 ^ n * 2 ^ (32 - n) := by rw [e, Nat.mul_mod_mul_right]
    have h3 : x / 2 ^ n < 2 ^ (32 - n) := by
      rw [Nat.div_lt_iff_lt_mul (Nat.two_pow_pos n), Nat.mul_comm, ← e]; exact hx
    rw [rotr, e2, Nat.mul_comm (x % 2 ^ n), ← Nat.two_pow_add_eq_or_of_lt h3, Nat.add_comm]
  · exact .inr hx
theorem Right_ok (x n : Nat) (hx : x < M32) (h1 : 1 ≤ n) (h2 : n ≤ 31) : Calc cx 117 [.int .i64 x, .int .i64 n] (.int .i64 (rotr x n : Nat)) :=
  pure_intro (fun a w => Tryz.call117 a w) Tryz.func117 rfl Tryz.ntmps117 rfl .int fun B => by
    have hs := (rotr_sum (x := x) (n := n) (by omega)).resolve_right (by omega)
    have hlt := rotr_lt n hx
    have hw : IntKind.i64.wrap (32 - (n : Int)) = ((32 - n : Nat) : Int) := w64 (by omega) (by omega)
    have p1 : 0 < 2 ^ n := Nat.two_pow_pos n
    have p2 : 0 < 2 ^ (32 - n) := Nat.two_pow_pos _
    have hx' : x < 4294967296 := hx
    have q1 : x / 2 ^ n ≤ x := Nat.div_le_self _ _
    have hlt' : rotr x n < 4294967296 := hlt
    have d1 : IntKind.i64.wrap ((x : Int).tdiv ((2 ^ n : Nat) : Int)) = ((x / 2 ^ n : Nat) : Int) := w64 rfl (by omega)
    have d2 : (x : Int).tmod ((2 ^ n : Nat) : Int) = ((x % 2 ^ n : Nat) : Int) := rfl
    have d0 : x % 2 ^ n * 2 ^ (32 - n) < 4294967296 := Nat.lt_of_le_of_lt (Nat.le_add_left _ _) (hs ▸ hlt')
    have d3 : IntKind.i64.wrap (((x % 2 ^ n : Nat) : Int) * ((2 ^ (32 - n) : Nat) : Int)) = ((x % 2 ^ n * 2 ^ (32 - n) : Nat) : Int) := w64 (by simp) (by generalize x % 2 ^ n * 2 ^ (32 - n) = z at *; omega)
    refine ab 1000 rfl trivial ?_
    refine S_draw 13 [] [.int .i64 ((2 ^ n : Nat) : Int), .int .i64 ((2 ^ n : Nat) : Int), .int .i64 ((2 ^ (32 - n) : Nat) : Int)] rfl rfl rfl rfl ⟨rfl, rfl, ⟨_, Pow2_ok n (by omega), .cons (.refl .int) (.nil _)⟩, rfl, by omega, rfl, rfl, ⟨_, Pow2_ok n (by omega), .cons (.refl .int) (.nil _)⟩, rfl, by omega, rfl, rfl, ⟨_, Pow2_ok (32 - n) (by omega), .cons (by rw [← hw]; exact .refl .int) (.nil _)⟩, rfl, rfl, trivial⟩ ?_
    refine ab 1000 rfl trivial ?_
    refine S_retc .int rfl trivial ?_
    show AV.int .i64 (IntKind.i64.wrap (IntKind.i64.wrap ((x : Int).tdiv ((2 ^ n : Nat) : Int)) + IntKind.i64.wrap ((x : Int).tmod ((2 ^ n : Nat) : Int) * ((2 ^ (32 - n) : Nat) : Int)))) = _
    rw [d2, d1, d3]
    exact ai64 (by rw [← hs]; simp) (by omega)
theorem Constants_ok : Calc cx 114 [] (.sl true true 1 (ints kTab)) :=
  pure_intro (fun a w => Tryz.call114 a w) Tryz.func114 rfl Tryz.ntmps114 rfl (.sl (fun _ => rfl) (by intro x hx; obtain ⟨y, _, rfl⟩ := List.mem_map.1 hx; exact .int)) fun B => by
    refine ab 1000 rfl trivial ?_
    exact S_retc (.sl (fun _ => rfl) (by intro x hx; obtain ⟨y, _, rfl⟩ := List.mem_map.1 hx; exact .int)) rfl trivial rfl
def iB (v : Nat) (l : List Nat) : Nat × Option Box := (v, some (.cells (ints l) ⟨false, none⟩))
theorem Firsts_ok : CallOk cx 115 [] [] (fun o σ' => o = .ret (.ms 0 0 0 8 1 true) ∧ σ' = [iB 0 hTab]) :=
  callOk_intro (fun a w => Tryz.call115 a w) Tryz.func115 rfl Tryz.ntmps115 rfl fun B => by
    refine go (M := [1]) 1000 rfl trivial ?_
    exact S_ret ⟨_, _, rfl, trivial, rfl, rfl⟩
end Go.Proofs.YtjkeekbfgnmngaaGreatDoor
end
section
set_option linter.unusedVariables false
set_option linter.unusedSimpArgs false
set_option maxRecDepth 20000
namespace Go.Proofs.YtjkeekbfgnmngaaGreatDoor
open Go Go.Ab
theorem kTab32 : W32 kTab := by
  show ∀ x ∈ kTab, x < M32
  decide +kernel
theorem addmods (a b c d e : Nat) : ((((a + b) % M32 + c) % M32 + d) % M32 + e) % M32 = (a + b + c + (d + e)) % M32 := by
  simp only [M32]; omega
set_option maxHeartbeats 8000000 in
theorem block_ok (v u a b off len : Nat) (fl : Bool) (h : List Nat) (bs : List UInt8) (g : Tag) (hh : h.length = 8) (hh2 : W32 h) (hlen : 64 ≤ len) (ho : off + len ≤ bs.length) (hbl : bs.length ≤ 4611686018427387904) :
    CallOk cx 106 [.ptr 0 v 0, .ms 1 u off len 1 fl] [sB v h, bB u bs g, (a, none), (b, none)]
      (fun o σ' => o = .ret (.tup []) ∧ σ' = [sB v (block h (bs.drop off)), bB u bs g, (a + 1, none), (b + 1, none)]) :=
  callOk_intro (fun a' w => Tryz.call106 a' w) Tryz.func106 rfl Tryz.ntmps106 rfl fun B => by
    obtain ⟨p, hp⟩ : ∃ p, p = bs.drop off := ⟨_, rfl⟩
    rw [← hp]
    have hpl : 64 ≤ p.length := by rw [hp, List.length_drop]; omega
    have hpg : ∀ i, i < 64 → bs.getD (off + i) 0 = p.getD i 0 := by
      intro i hi
      rw [hp]
      simp [List.getD]
    refine ab 1000 rfl trivial ?_
    refine S_while (α := Nat) (fun t => [(0, .ptr 0 v 0), (1, .ms 1 u off len 1 fl), (4, .ptr 2 (a + 1) 0), (21, .int .i64 t)]) (fun t => [sB v h, bB u bs g, wB (a + 1) ((words p).take t ++ List.replicate (64 - t) 0), (b, none)]) (fun t => t ≤ 16) (fun t => 16 - t) 0
      (Nat.zero_le _) (.cons rfl (.cons rfl (.cons rfl (.cons rfl (.nil _))))) rfl ?_
    intro t ht
    refine ab 1000 rfl trivial ?_
    refine S_dec rfl (fun hlt => ?_) (fun hlt => ?_)
    · have htl : t < 16 := by omega
      have hw4 : IntKind.i64.wrap (4 * (t : Int)) = ((4 * t : Nat) : Int) := w64 rfl (by omega)
      have hw8 : IntKind.i64.wrap (((4 * t : Nat) : Int) + 4) = ((4 * t + 4 : Nat) : Int) := w64 rfl (by omega)
      have hfill : (words p).take t ++ List.replicate (64 - t) 0 = (words p).take t ++ accW p (4 * t) 0 :: List.replicate (63 - t) 0 := by
        rw [show 64 - t = (63 - t) + 1 by omega, List.replicate_succ]; rfl
      have htk : ((words p).take t).length = t := by rw [List.length_take, words_len]; omega
      refine ab 1000 rfl ⟨rfl, by rw [hw4, hw8]; omega, by rw [hw4, hw8]; omega, by rw [hw4]; omega, trivial⟩ ?_
      refine S_while (α := Nat) (fun j => [(0, .ptr 0 v 0), (1, .ms 1 u off len 1 fl), (4, .ptr 2 (a + 1) 0), (5, .int .i64 t), (21, .int .i64 t), (30, .ms 1 u (off + 4 * t) 4 1 false), (31, .int .i64 4), (32, .int .i64 j)])
        (fun j => [sB v h, bB u bs g, wB (a + 1) ((words p).take t ++ accW p (4 * t) j :: List.replicate (63 - t) 0), (b, none)]) (fun j => j ≤ 4) (fun j => 4 - j) 0
        (Nat.zero_le _) (.cons rfl (.cons rfl (.cons rfl (.cons rfl (.cons rfl (.cons ?_ (.cons ?_ (.cons rfl (.nil _))))))))) (by rw [hfill]) ?_
      · show AV.ms 1 u (off + (IntKind.i64.wrap (4 * (t : Int))).toNat * 1) ((IntKind.i64.wrap (IntKind.i64.wrap (4 * (t : Int)) + 4)).toNat - (IntKind.i64.wrap (4 * (t : Int))).toNat) 1 false = _
        rw [hw4, hw8, Int.toNat_natCast, Int.toNat_natCast, Nat.mul_one, show 4 * t + 4 - 4 * t = 4 by omega]
      · show AV.int .i64 (((IntKind.i64.wrap (IntKind.i64.wrap (4 * (t : Int)) + 4)).toNat - (IntKind.i64.wrap (4 * (t : Int))).toNat : Nat) : Int) = _
        rw [hw4, hw8, Int.toNat_natCast, Int.toNat_natCast, show 4 * t + 4 - 4 * t = 4 by omega]; rfl
      intro j hj
      refine ab 1000 rfl trivial ?_
      refine S_dec rfl (fun hlt => ?_) (fun hlt => ?_)
      · have hj4 : j < 4 := by omega
        have hacc := accW_lt p (4 * t) j
        have hap : 256 ^ j ≤ 256 ^ 3 := Nat.pow_le_pow_right (by decide) (by omega)
        refine ab 1000 rfl trivial ?_
        refine S_index .top rfl rfl rfl ⟨rfl, by omega, by omega, trivial⟩ ?_
        refine S_load (byteAV (p.getD (4 * t + j) 0)) rfl rfl rfl ⟨rfl, ?_, trivial⟩ ?_
        · show ((bs.map byteAV).drop (offN (off + 4 * t) (mulN (j : Int).toNat 1)))[0]? = _
          rw [offN_eq, mulN_eq, Int.toNat_natCast, Nat.mul_one, Nat.add_assoc, bytes_ld (by omega), hpg _ (by omega)]
        refine ab 1000 rfl trivial ?_
        refine S_index .top rfl rfl rfl ⟨by omega, by omega, trivial⟩ ?_
        have hwl : ((words p).take t ++ accW p (4 * t) j :: List.replicate (63 - t) 0).length = 64 := by
          rw [List.length_append, htk, List.length_cons, List.length_replicate]; omega
        have hwg : ((words p).take t ++ accW p (4 * t) j :: List.replicate (63 - t) 0).getD t 0 = accW p (4 * t) j := by
          rw [List.getD, List.getElem?_append_right (by omega), htk, Nat.sub_self]; rfl
        refine S_load (.int .u32 (accW p (4 * t) j : Nat)) rfl rfl rfl ⟨rfl, ?_, trivial⟩ ?_
        · show ((u32L ((words p).take t ++ accW p (4 * t) j :: List.replicate (63 - t) 0)).drop (mulN (t : Int).toNat 1))[0]? = _
          rw [mulN_eq, Int.toNat_natCast, Nat.mul_one, u32L_ld (by omega), hwg]
        refine ab 1000 rfl ⟨by decide, trivial⟩ ?_
        refine S_index .top rfl rfl rfl ⟨by omega, by omega, trivial⟩ ?_
        refine S_store rfl rfl rfl ⟨rfl, rfl, rfl, ?_, trivial⟩ ?_
        · show mulN (t : Int).toNat 1 + 1 ≤ (u32L _).length
          rw [mulN_eq, Int.toNat_natCast, Nat.mul_one, u32L_len]; omega
        have hc := (p.getD (4 * t + j) 0).toNat_lt
        have hval : AV.int .u32 (bitsA .or .u32 (IntKind.u32.wrap ((accW p (4 * t) j : Nat) * 2 ^ (min (8 : Int).toNat 32))) (IntKind.u32.wrap (((p.getD (4 * t + j) 0).toNat : Nat) : Int))) = .int .u32 (accW p (4 * t) (j + 1) : Nat) := by
          rw [show ((accW p (4 * t) j : Nat) : Int) * 2 ^ (min (8 : Int).toNat 32) = ((accW p (4 * t) j * 2 ^ 8 : Nat) : Int) from rfl]
          rw [wu32 (x := ((accW p (4 * t) j * 2 ^ 8 : Nat) : Int)) (k := accW p (4 * t) j * 2 ^ 8) rfl (by omega), wu32 (x := (((p.getD (4 * t + j) 0).toNat : Nat) : Int)) (k := (p.getD (4 * t + j) 0).toNat) rfl (by omega)]
          rw [u32or (by show _ < 4294967296; omega) (by show _ < 4294967296; omega)]
          have := Nat.two_pow_add_eq_or_of_lt (i := 8) (b := (p.getD (4 * t + j) 0).toNat) (by omega) (accW p (4 * t) j)
          rw [Nat.mul_comm] at this
          rw [← this]
          simp [accW]
        refine S_heap [sB v h, bB u bs g, wB (a + 1) ((words p).take t ++ accW p (4 * t) (j + 1) :: List.replicate (63 - t) 0), (b, none)] ?_ ?_
        · show [_, _, (a + 1, some (Box.cells (setRange (u32L ((words p).take t ++ accW p (4 * t) j :: List.replicate (63 - t) 0)) (mulN (t : Int).toNat 1) [AV.int .u32 (bitsA .or .u32 (IntKind.u32.wrap ((accW p (4 * t) j : Nat) * 2 ^ (min (8 : Int).toNat 32))) (IntKind.u32.wrap (((p.getD (4 * t + j) 0).toNat : Nat) : Int)))]) _)), _] = _
          rw [hval, mulN_eq, Int.toNat_natCast, Nat.mul_one, u32L_set]
          have := set_fill ((words p).take t) 0 (accW p (4 * t) (j + 1)) (accW p (4 * t) j) (List.replicate (63 - t) 0)
          rw [htk] at this
          rw [this]; rfl
        refine ab 1000 rfl trivial ?_
        exact S_round (j + 1) (by show 4 - (j + 1) < 4 - j; omega) hj4 (.cons rfl (.cons rfl (.cons rfl (.cons rfl (.cons rfl (.cons rfl (.cons rfl (.cons (ai64 rfl (by omega)) (.nil _))))))))) rfl
      · have hj4 : j = 4 := by omega
        subst hj4
        refine ab 1000 rfl trivial ?_
        refine S_round (t + 1) (by show 16 - (t + 1) < 16 - t; omega) htl (.cons rfl (.cons rfl (.cons rfl (.cons (ai64 rfl (by omega)) (.nil _))))) ?_
        show [_, _, wB (a + 1) ((words p).take t ++ accW p (4 * t) 4 :: List.replicate (63 - t) 0), _] = [_, _, wB (a + 1) ((words p).take (t + 1) ++ List.replicate (64 - (t + 1)) 0), _]
        have hwt : (words p).take (t + 1) = (words p).take t ++ [accW p (4 * t) 4] := by
          rw [List.take_succ_eq_append_getElem (by rw [words_len]; exact htl), words_get p htl]
        rw [hwt, show 64 - (t + 1) = 63 - t by omega, List.append_assoc]; rfl
    · have ht16 : t = 16 := by omega
      subst ht16
      refine ab 1000 rfl trivial ?_
      refine S_while (α := List Nat) (fun w => [(0, .ptr 0 v 0), (4, .ptr 2 (a + 1) 0), (8, .int .i64 w.length)]) (fun w => [sB v h, bB u bs g, wB (a + 1) (w ++ List.replicate (64 - w.length) 0), (b, none)]) (fun w => 16 ≤ w.length ∧ w.length ≤ 64 ∧ W32 w ∧ sched (64 - w.length) w = schedOf p) (fun w => 64 - w.length) (words p)
        ⟨by rw [words_len]; exact Nat.le_refl _, by rw [words_len]; decide, words_lt p, by rw [words_len]; rfl⟩ (.cons rfl (.cons rfl (.cons (by rw [words_len]; rfl) (.nil _)))) (by rw [words_len, List.take_of_length_le (by rw [words_len]; exact Nat.le_refl _)]) ?_
      rintro w ⟨hw1, hw2, hw3, hw4⟩
      refine ab 1000 rfl trivial ?_
      refine S_dec rfl (fun hlt => ?_) (fun hlt => ?_)
      · have htl : w.length < 64 := by omega
        obtain ⟨t, htd⟩ : ∃ t, t = w.length := ⟨_, rfl⟩
        have hLl : (w ++ List.replicate (64 - w.length) 0).length = 64 := by rw [List.length_append, List.length_replicate]; omega
        have hLg : ∀ i, i < w.length → (w ++ List.replicate (64 - w.length) 0).getD i 0 = w.getD i 0 := by
          intro i hi
          rw [List.getD, List.getElem?_append_left hi]; rfl
        have ld : ∀ i, i < w.length → ((u32L (w ++ List.replicate (64 - w.length) 0)).drop i)[0]? = some (.int .u32 (w.getD i 0 : Nat)) := by
          intro i hi
          rw [u32L_ld (by omega), hLg i hi]
        have hw15 : IntKind.i64.wrap ((w.length : Int) - 15) = ((w.length - 15 : Nat) : Int) := w64 (by omega) (by omega)
        have hw2' : IntKind.i64.wrap ((w.length : Int) - 2) = ((w.length - 2 : Nat) : Int) := w64 (by omega) (by omega)
        have hw16 : IntKind.i64.wrap ((w.length : Int) - 16) = ((w.length - 16 : Nat) : Int) := w64 (by omega) (by omega)
        have hw7 : IntKind.i64.wrap ((w.length : Int) - 7) = ((w.length - 7 : Nat) : Int) := w64 (by omega) (by omega)
        have hx := hw3.getD (w.length - 15)
        have hy := hw3.getD (w.length - 2)
        obtain ⟨x, hxd⟩ : ∃ x, x = w.getD (w.length - 15) 0 := ⟨_, rfl⟩
        obtain ⟨y, hyd⟩ : ∃ y, y = w.getD (w.length - 2) 0 := ⟨_, rfl⟩
        rw [← hxd] at hx
        rw [← hyd] at hy
        refine ab 1000 rfl trivial ?_
        refine S_draw 9 [] [.top, .int .u32 (x : Nat), .top, .int .u32 (y : Nat)] rfl rfl rfl rfl ⟨rfl, rfl, by rw [hw15]; omega, by rw [hw15]; omega, rfl, ?_, rfl, rfl, by rw [hw2']; omega, by rw [hw2']; omega, rfl, ?_, rfl, trivial⟩ ?_
        · show ((u32L (w ++ List.replicate (64 - w.length) 0)).drop (mulN (IntKind.i64.wrap ((w.length : Int) - 15)).toNat 1))[0]? = _
          rw [mulN_eq, hw15, Int.toNat_natCast, Nat.mul_one, ld _ (by omega), ← hxd]
        · show ((u32L (w ++ List.replicate (64 - w.length) 0)).drop (mulN (IntKind.i64.wrap ((w.length : Int) - 2)).toNat 1))[0]? = _
          rw [mulN_eq, hw2', Int.toNat_natCast, Nat.mul_one, ld _ (by omega), ← hyd]
        refine ab 1000 rfl trivial ?_
        refine S_pure rfl rfl rfl (Rotate_ok x 7 hx (by decide) (by decide)) (.cons (.refl .int) (.cons (.refl .int) (.nil _))) ?_
        refine ab 1000 rfl trivial ?_
        refine S_pure rfl rfl rfl (Rotate_ok x 18 hx (by decide) (by decide)) (.cons (.refl .int) (.cons (.refl .int) (.nil _))) ?_
        refine ab 1000 rfl ⟨by decide, trivial⟩ ?_
        refine S_pure rfl rfl rfl (Rotate_ok y 17 hy (by decide) (by decide)) (.cons (.refl .int) (.cons (.refl .int) (.nil _))) ?_
        refine ab 1000 rfl trivial ?_
        refine S_pure rfl rfl rfl (Rotate_ok y 19 hy (by decide) (by decide)) (.cons (.refl .int) (.cons (.refl .int) (.nil _))) ?_
        refine ab 1000 rfl ⟨by decide, trivial⟩ ?_
        refine S_weak (fr' := [(0, .ptr 0 v 0), (4, .ptr 2 (a + 1) 0), (8, .int .i64 w.length), (11, .int .u32 (sig0 x : Nat)), (12, .int .u32 (sig1 y : Nat))]) (.cons rfl (.cons rfl (.cons rfl (.cons ?_ (.cons ?_ (.nil _)))))) ?_
        · show AV.int .u32 (bitsA .xor .u32 (bitsA .xor .u32 (rotr x 7 : Nat) (rotr x 18 : Nat)) ((x : Int).fdiv (2 ^ 3))) = _
          rw [u32xor (rotr_lt _ hx) (rotr_lt _ hx), shr_nat, u32xor (xor_lt (rotr_lt _ hx) (rotr_lt _ hx)) (div_lt _ hx)]; rfl
        · show AV.int .u32 (bitsA .xor .u32 (bitsA .xor .u32 (rotr y 17 : Nat) (rotr y 19 : Nat)) ((y : Int).fdiv (2 ^ 10))) = _
          rw [u32xor (rotr_lt _ hy) (rotr_lt _ hy), shr_nat, u32xor (xor_lt (rotr_lt _ hy) (rotr_lt _ hy)) (div_lt _ hy)]; rfl
        refine S_draw 15 [] [.top, .int .u32 (w.getD (w.length - 16) 0 : Nat), .top, .int .u32 (w.getD (w.length - 7) 0 : Nat), .top] rfl rfl rfl rfl
          ⟨rfl, rfl, rfl, by rw [hw16]; omega, by rw [hw16]; omega, rfl, ?_, rfl, rfl, rfl, rfl, by rw [hw7]; omega, by rw [hw7]; omega, rfl, ?_, rfl, rfl, rfl, by omega, by omega, trivial⟩ ?_
        · show ((u32L (w ++ List.replicate (64 - w.length) 0)).drop (mulN (IntKind.i64.wrap ((w.length : Int) - 16)).toNat 1))[0]? = _
          rw [mulN_eq, hw16, Int.toNat_natCast, Nat.mul_one, ld _ (by omega)]
        · show ((u32L (w ++ List.replicate (64 - w.length) 0)).drop (mulN (IntKind.i64.wrap ((w.length : Int) - 7)).toNat 1))[0]? = _
          rw [mulN_eq, hw7, Int.toNat_natCast, Nat.mul_one, ld _ (by omega)]
        refine S_store rfl rfl rfl ⟨rfl, rfl, rfl, ?_, trivial⟩ ?_
        · show mulN (w.length : Int).toNat 1 + 1 ≤ (u32L _).length
          rw [mulN_eq, Int.toNat_natCast, Nat.mul_one, u32L_len]; omega
        have hval : AV.int .u32 (IntKind.u32.wrap (IntKind.u32.wrap (IntKind.u32.wrap ((w.getD (w.length - 16) 0 : Nat) + (sig0 x : Nat)) + (w.getD (w.length - 7) 0 : Nat)) + (sig1 y : Nat))) = .int .u32 (wNext w : Nat) := by
          rw [u32add, u32add, u32add, wNext, ← hxd, ← hyd]
          congr 2
          simp only [M32]; omega
        refine S_heap [sB v h, bB u bs g, wB (a + 1) ((w ++ [wNext w]) ++ List.replicate (64 - (w ++ [wNext w]).length) 0), (b, none)] ?_ ?_
        · show [_, _, (a + 1, some (Box.cells (setRange (u32L (w ++ List.replicate (64 - w.length) 0)) (mulN (w.length : Int).toNat 1) [AV.int .u32 (IntKind.u32.wrap (IntKind.u32.wrap (IntKind.u32.wrap ((w.getD (w.length - 16) 0 : Nat) + (sig0 x : Nat)) + (w.getD (w.length - 7) 0 : Nat)) + (sig1 y : Nat)))]) _)), _] = _
          rw [hval, mulN_eq, Int.toNat_natCast, Nat.mul_one, u32L_set]
          have hrep : List.replicate (64 - w.length) 0 = 0 :: List.replicate (63 - w.length) 0 := by
            rw [show 64 - w.length = (63 - w.length) + 1 by omega, List.replicate_succ]
          rw [hrep, set_fill w 0 (wNext w) 0 (List.replicate (63 - w.length) 0)]
          rw [show 64 - (w ++ [wNext w]).length = 63 - w.length by simp, List.append_assoc]; rfl
        refine ab 1000 rfl trivial ?_
        refine S_round (w ++ [wNext w]) (by show 64 - (w ++ [wNext w]).length < 64 - w.length; simp; omega) ⟨by simp; omega, by simp; omega, hw3.app (.one (wNext_lt w)), ?_⟩ (.cons rfl (.cons rfl (.cons ?_ (.nil _)))) rfl
        · rw [← hw4, show 64 - w.length = (64 - (w ++ [wNext w]).length) + 1 by simp; omega, sched]
        · show AV.int .i64 (IntKind.i64.wrap ((w.length : Int) + 1)) = _
          exact ai64 (by simp) (by simp; omega)
      · have hwl : w.length = 64 := by omega
        have hws : w = schedOf p := by rw [← hw4, hwl]; rfl
        have hWl : (schedOf p).length = 64 := by rw [← hws, hwl]
        have hW32 : W32 (schedOf p) := by rw [← hws]; exact hw3
        obtain ⟨h0, h1, h2, h3, h4, h5, h6, h7, hhe⟩ : ∃ h0 h1 h2 h3 h4 h5 h6 h7, h = [h0, h1, h2, h3, h4, h5, h6, h7] := by
          match h, hh with
          | [h0, h1, h2, h3, h4, h5, h6, h7], _ => exact ⟨_, _, _, _, _, _, _, _, rfl⟩
        refine S_heap [sB v [h0, h1, h2, h3, h4, h5, h6, h7], bB u bs g, wB (a + 1) (schedOf p), (b, none)] (by
          show [sB v h, bB u bs g, wB (a + 1) (w ++ List.replicate (64 - w.length) 0), (b, none)] = _
          rw [hwl, hws, hhe]; simp) ?_
        refine ab 1000 rfl ⟨lble rfl, rfl, rfl, trivial⟩ ?_
        refine S_while (α := Nat × List Nat) (fun (t, _) => [(0, .ptr 0 v 0), (4, .ptr 2 (a + 1) 0), (13, .ptr 3 (b + 1) 0), (94, .int .i64 t)]) (fun (t, vv) => [sB v [h0, h1, h2, h3, h4, h5, h6, h7], bB u bs g, wB (a + 1) (schedOf p), wB (b + 1) vv])
          (fun (t, vv) => t ≤ 64 ∧ vv.length = 8 ∧ W32 vv ∧ rounds (64 - t) t (schedOf p) vv = rounds 64 0 (schedOf p) h) (fun (t, _) => 64 - t) (0, [h0, h1, h2, h3, h4, h5, h6, h7])
          ⟨Nat.zero_le _, rfl, by rw [← hhe]; exact hh2, by rw [← hhe]⟩ (.cons rfl (.cons rfl (.cons rfl (.cons rfl (.nil _))))) rfl ?_
        rintro ⟨t, vv⟩ ⟨ht, hvl, hv32, hN⟩
        obtain ⟨v0, v1, v2, v3, v4, v5, v6, v7, rfl⟩ : ∃ v0 v1 v2 v3 v4 v5 v6 v7, vv = [v0, v1, v2, v3, v4, v5, v6, v7] := by
          match vv, hvl with
          | [v0, v1, v2, v3, v4, v5, v6, v7], _ => exact ⟨_, _, _, _, _, _, _, _, rfl⟩
        have b0 : v0 < M32 := hv32 _ (by simp)
        have b1 : v1 < M32 := hv32 _ (by simp)
        have b2 : v2 < M32 := hv32 _ (by simp)
        have b3 : v3 < M32 := hv32 _ (by simp)
        have b4 : v4 < M32 := hv32 _ (by simp)
        have b5 : v5 < M32 := hv32 _ (by simp)
        have b6 : v6 < M32 := hv32 _ (by simp)
        have b7 : v7 < M32 := hv32 _ (by simp)
        refine ab 1000 rfl trivial ?_
        refine S_dec rfl (fun hlt => ?_) (fun hlt => ?_)
        · have htl : t < 64 := by omega
          refine ab 1000 rfl trivial ?_
          refine S_draw 5 [] [.top, .int .u32 (v0 : Nat), .top, .int .u32 (v4 : Nat)] rfl rfl rfl rfl ⟨by decide, by decide, rfl, rfl, by decide, by decide, rfl, rfl, rfl, trivial⟩ ?_
          refine ab 1000 rfl trivial ?_
          have hkg : (u32L kTab)[t]? = some (.int .u32 (kTab.getD t 0 : Nat)) := u32L_get (by show t < 64; exact htl)
          have hrot : ∀ (x n : Nat), x < M32 → 1 ≤ n → n ≤ 31 → ∀ σ, ∃ args', Calc cx 150 args' (.int .u32 (rotr x n)) ∧ Frzs σ [.int .u32 x, .int .i64 (-(n : Int))] args' :=
            fun x n hx h1 h2 σ => ⟨_, Rotate_ok x n hx h1 h2, .cons (.refl .int) (.cons (.refl .int) (.nil _))⟩
          refine S_draw 30 [] [.top, .int .u32 (v7 : Nat), .int .u32 (rotr v4 6 : Nat), .int .u32 (rotr v4 11 : Nat), .int .u32 (rotr v4 25 : Nat), .top, .int .u32 (v5 : Nat), .top, .int .u32 (v6 : Nat), .int .u32 (kTab.getD t 0 : Nat), .top, .int .u32 ((schedOf p).getD t 0 : Nat)] rfl rfl rfl rfl
            ⟨by decide, by decide, rfl, rfl, rfl, hrot v4 6 b4 (by decide) (by decide) _, rfl, hrot v4 11 b4 (by decide) (by decide) _, rfl, rfl, hrot v4 25 b4 (by decide) (by decide) _, rfl, rfl, rfl, by decide, by decide, rfl, rfl, rfl, rfl, rfl, by decide, by decide, rfl, rfl, rfl, rfl, rfl, rfl,
              by omega, by omega, ?_, rfl, rfl, rfl, by omega, by omega, rfl, ?_, rfl, trivial⟩ ?_
          · show ((u32L kTab).drop ((t : Int).toNat * 1)).take 1 = [.int .u32 (kTab.getD t 0 : Nat)]
            rw [Int.toNat_natCast, Nat.mul_one]
            have hlk : t < (u32L kTab).length := by show t < 64; exact htl
            rw [List.drop_eq_getElem_cons hlk, List.take_succ_cons, List.take_zero]
            rw [List.getElem?_eq_getElem hlk] at hkg
            simp only [Option.some.injEq] at hkg
            rw [hkg]
          · show ((u32L (schedOf p)).drop (mulN (t : Int).toNat 1))[0]? = _
            rw [mulN_eq, Int.toNat_natCast, Nat.mul_one, u32L_ld (by omega)]
          refine ab 1000 rfl trivial ?_
          refine S_draw 24 [] [.int .u32 (rotr v0 2 : Nat), .int .u32 (rotr v0 13 : Nat), .int .u32 (rotr v0 22 : Nat), .top, .int .u32 (v1 : Nat), .top, .int .u32 (v2 : Nat), .top, .int .u32 (v1 : Nat), .top, .int .u32 (v2 : Nat)] rfl rfl rfl rfl
            ⟨rfl, hrot v0 2 b0 (by decide) (by decide) _, rfl, hrot v0 13 b0 (by decide) (by decide) _, rfl, rfl, hrot v0 22 b0 (by decide) (by decide) _, rfl, rfl, by decide, by decide, rfl, rfl, rfl, rfl, by decide, by decide, rfl, rfl, rfl, rfl, by decide, by decide, rfl, rfl, by decide, by decide, rfl, rfl, rfl, rfl, rfl, trivial⟩ ?_
          refine ab 1000 rfl trivial ?_
          have hk32 : kTab.getD t 0 < M32 := kTab32.getD t
          have hw32 := hW32.getD t
          obtain ⟨U, hU⟩ : ∃ U, U = (v7 + Sig1 v4 + ((v4 &&& v5) ^^^ ((4294967295 - v4) &&& v6)) + (kTab.getD t 0 + (schedOf p).getD t 0)) % M32 := ⟨_, rfl⟩
          obtain ⟨X, hX⟩ : ∃ X, X = (Sig0 v0 + ((v0 &&& v1) ^^^ (v0 &&& v2) ^^^ (v1 &&& v2))) % M32 := ⟨_, rfl⟩
          have hround : round [v0, v1, v2, v3, v4, v5, v6, v7] (kTab.getD t 0 + (schedOf p).getD t 0) = [(U + X) % M32, v0, v1, v2, (v3 + U) % M32, v4, v5, v6] := by
            rw [hU, hX]; rfl
          refine S_weak (fr' := [(0, .ptr 0 v 0), (4, .ptr 2 (a + 1) 0), (13, .ptr 3 (b + 1) 0), (94, .int .i64 t), (17, .int .u32 (U : Nat)), (18, .int .u32 (X : Nat))]) (.cons rfl (.cons rfl (.cons rfl (.cons rfl (.cons ?_ (.cons ?_ (.nil _))))))) ?_
          · show AV.int .u32 (IntKind.u32.wrap (IntKind.u32.wrap (IntKind.u32.wrap (IntKind.u32.wrap ((v7 : Nat) + bitsA .xor .u32 (bitsA .xor .u32 (rotr v4 6 : Nat) (rotr v4 11 : Nat)) (rotr v4 25 : Nat)) + bitsA .xor .u32 (bitsA .and .u32 (v4 : Nat) (v5 : Nat)) (bitsA .and .u32 (bitsA .xor .u32 (if IntKind.u32.signed = true then -1 else IntKind.u32.max) (v4 : Nat)) (v6 : Nat))) + (kTab.getD t 0 : Nat)) + ((schedOf p).getD t 0 : Nat))) = _
            rw [u32xor (rotr_lt _ b4) (rotr_lt _ b4), u32xor (xor_lt (rotr_lt _ b4) (rotr_lt _ b4)) (rotr_lt _ b4), u32not' b4, u32and b4 b5, u32and (by show _ < 4294967296; omega) b6, u32xor (and_lt b4) (and_lt (by show _ < 4294967296; omega))]
            rw [u32add, u32add, u32add, u32add, hU]
            exact congrArg (fun z : Nat => AV.int .u32 (z : Int)) (addmods v7 (Sig1 v4) _ _ _)
          · show AV.int .u32 (IntKind.u32.wrap (bitsA .xor .u32 (bitsA .xor .u32 (rotr v0 2 : Nat) (rotr v0 13 : Nat)) (rotr v0 22 : Nat) + bitsA .xor .u32 (bitsA .xor .u32 (bitsA .and .u32 (v0 : Nat) (v1 : Nat)) (bitsA .and .u32 (v0 : Nat) (v2 : Nat))) (bitsA .and .u32 (v1 : Nat) (v2 : Nat)))) = _
            rw [u32xor (rotr_lt _ b0) (rotr_lt _ b0), u32xor (xor_lt (rotr_lt _ b0) (rotr_lt _ b0)) (rotr_lt _ b0), u32and b0 b1, u32and b0 b2, u32and b1 b2, u32xor (and_lt b0) (and_lt b0), u32xor (xor_lt (and_lt b0) (and_lt b0)) (and_lt b1), u32add, hX]
            exact congrArg (fun z : Nat => AV.int .u32 (((z + _) % M32 : Nat) : Int)) (show rotr v0 2 ^^^ rotr v0 13 ^^^ rotr v0 22 = Sig0 v0 from rfl)
          refine S_draw 2 [] [] rfl rfl rfl rfl ⟨rfl, by decide, by decide, rfl, lble rfl, by decide, rfl, by decide, by decide, rfl, lble rfl, by decide, trivial⟩ ?_
          refine ab 1000 rfl ⟨by decide, by decide, lble rfl, lble rfl, rfl, rfl, allOne_mem (cs := [_, _, _, _, _, _, _]) rfl, lble rfl, rfl, rfl, trivial⟩ ?_
          refine S_index .top rfl rfl rfl ⟨by decide, by decide, trivial⟩ ?_
          refine S_load (.int .u32 (v3 : Nat)) rfl rfl rfl ⟨rfl, rfl, trivial⟩ ?_
          refine ab 1000 rfl trivial ?_
          refine S_index .top rfl rfl rfl ⟨by decide, by decide, trivial⟩ ?_
          refine S_store rfl rfl rfl ⟨rfl, rfl, rfl, lble rfl, trivial⟩ ?_
          refine ab 1000 rfl trivial ?_
          refine S_index .top rfl rfl rfl ⟨by decide, by decide, trivial⟩ ?_
          refine S_store rfl rfl rfl ⟨rfl, rfl, rfl, lble rfl, trivial⟩ ?_
          refine S_heap [sB v [h0, h1, h2, h3, h4, h5, h6, h7], bB u bs g, wB (a + 1) (schedOf p), wB (b + 1) [(U + X) % M32, v0, v1, v2, (v3 + U) % M32, v4, v5, v6]] ?_ ?_
          · show [_, _, _, (b + 1, some (Box.cells [AV.int .u32 (IntKind.u32.wrap ((U : Nat) + (X : Nat))), .int .u32 v0, .int .u32 v1, .int .u32 v2, AV.int .u32 (IntKind.u32.wrap ((v3 : Nat) + (U : Nat))), .int .u32 v4, .int .u32 v5, .int .u32 v6] _))] = _
            rw [u32add, u32add]; rfl
          refine ab 1000 rfl trivial ?_
          refine S_round (t + 1, [(U + X) % M32, v0, v1, v2, (v3 + U) % M32, v4, v5, v6]) (by show 64 - (t + 1) < 64 - t; omega) ⟨htl, rfl, by rw [← hround]; exact round_lt _ hv32, ?_⟩ (.cons rfl (.cons rfl (.cons rfl (.cons (ai64 rfl (by omega)) (.nil _))))) rfl
          rw [← hN, show 64 - t = (64 - (t + 1)) + 1 by omega, rounds, hround]
        · have ht64 : t = 64 := by omega
          subst ht64
          have hVe : rounds 64 0 (schedOf p) h = [v0, v1, v2, v3, v4, v5, v6, v7] := hN.symm
          have hblk : block h p = addW h [v0, v1, v2, v3, v4, v5, v6, v7] := by rw [block, hVe]
          rw [hblk, hhe]
          refine ab 1000 rfl ⟨rfl, trivial⟩ ?_
          refine S_while (α := Nat) (fun i => [(0, .ptr 0 v 0), (168, .agg (u32L [v0, v1, v2, v3, v4, v5, v6, v7])), (169, .int .i64 i)])
            (fun i => [sB v ((addW [h0, h1, h2, h3, h4, h5, h6, h7] [v0, v1, v2, v3, v4, v5, v6, v7]).take i ++ [h0, h1, h2, h3, h4, h5, h6, h7].drop i), bB u bs g, wB (a + 1) (schedOf p), wB (b + 1) [v0, v1, v2, v3, v4, v5, v6, v7]]) (fun i => i ≤ 8) (fun i => 8 - i) 0
            (Nat.zero_le _) (.cons rfl (.cons rfl (.cons rfl (.nil _)))) rfl ?_
          intro i hi
          generalize hHd : [h0, h1, h2, h3, h4, h5, h6, h7] = hl at *
          generalize hVd : [v0, v1, v2, v3, v4, v5, v6, v7] = vl at *
          have hhl : hl.length = 8 := by rw [← hHd]; rfl
          have hvl' : vl.length = 8 := by rw [← hVd]; rfl
          have hal := addW_len hl vl
          refine ab 1000 rfl trivial ?_
          refine S_dec rfl (fun hlt => ?_) (fun hlt => ?_)
          · have hil : i < 8 := by omega
            have htk : ((addW hl vl).take i).length = i := by rw [List.length_take, hal]; omega
            have hdr : hl.drop i = hl.getD i 0 :: hl.drop (i + 1) := by
              rw [List.drop_eq_getElem_cons (by omega)]
              simp [List.getD, show i < hl.length by omega]
            have hcl : ((addW hl vl).take i ++ hl.drop i).length = 8 := by rw [List.length_append, htk, List.length_drop]; omega
            have hcg : ((addW hl vl).take i ++ hl.drop i).getD i 0 = hl.getD i 0 := by
              rw [List.getD, List.getElem?_append_right (by omega), htk, Nat.sub_self, hdr]; rfl
            refine ab 1000 rfl trivial ?_
            refine S_elem (.int .u32 (vl.getD i 0 : Nat)) rfl rfl rfl ⟨by omega, by omega, rfl, by rw [Int.toNat_natCast]; exact u32L_get (by omega), trivial⟩ ?_
            refine ab 1000 rfl trivial ?_
            refine S_draw 11 [] [.top, .int .u32 (hl.getD i 0 : Nat), .top] rfl rfl rfl rfl ⟨rfl, rfl, rfl, rfl, by omega, by omega, rfl, ?_, rfl, rfl, rfl, rfl, by omega, by omega, trivial⟩ ?_
            · show ((u32L ((addW hl vl).take i ++ hl.drop i)).drop (mulN (i : Int).toNat 1))[0]? = _
              rw [mulN_eq, Int.toNat_natCast, Nat.mul_one, u32L_ld (by omega), hcg]
            refine S_store rfl rfl rfl ⟨rfl, rfl, rfl, ?_, trivial⟩ ?_
            · show mulN (i : Int).toNat 1 + 1 ≤ (u32L _).length
              rw [mulN_eq, Int.toNat_natCast, Nat.mul_one, u32L_len]; omega
            refine S_heap [sB v ((addW hl vl).take (i + 1) ++ hl.drop (i + 1)), bB u bs g, wB (a + 1) (schedOf p), wB (b + 1) vl] ?_ ?_
            · show [(v, some (Box.cells (setRange (u32L ((addW hl vl).take i ++ hl.drop i)) (mulN (i : Int).toNat 1) [AV.int .u32 (IntKind.u32.wrap ((hl.getD i 0 : Nat) + (vl.getD i 0 : Nat)))]) _)), _, _, _] = _
              rw [u32add, mulN_eq, Int.toNat_natCast, Nat.mul_one, u32L_set, hdr]
              have hsf := set_fill ((addW hl vl).take i) 0 ((hl.getD i 0 + vl.getD i 0) % M32) (hl.getD i 0) (hl.drop (i + 1))
              rw [htk] at hsf
              rw [hsf]
              have hta : (addW hl vl).take (i + 1) = (addW hl vl).take i ++ [(hl.getD i 0 + vl.getD i 0) % M32] := by
                rw [List.take_succ_eq_append_getElem (by omega)]
                simp [addW]
              rw [hta, List.append_assoc]; rfl
            refine ab 1000 rfl trivial ?_
            exact S_round (i + 1) (by show 8 - (i + 1) < 8 - i; omega) hil (.cons rfl (.cons rfl (.cons (ai64 rfl (by omega)) (.nil _)))) rfl
          · have hi8 : i = 8 := by omega
            subst hi8
            refine S_drop (id := 2) rfl ?_ ⟨_, _, .inl rfl⟩
            refine S_drop (id := 3) rfl ?_ ⟨_, _, .inl rfl⟩
            refine ab 1000 rfl trivial ?_
            refine S_nil ⟨_, _, rfl, trivial, rfl, ?_⟩
            show [sB v ((addW hl vl).take 8 ++ hl.drop 8), _, _, _] = _
            rw [List.take_of_length_le (by omega), List.drop_of_length_le (by omega), List.append_nil]
end Go.Proofs.YtjkeekbfgnmngaaGreatDoor
end
section
set_option linter.unusedVariables false
set_option linter.unusedSimpArgs false
set_option maxRecDepth 20000
namespace Go.Proofs.YtjkeekbfgnmngaaGreatDoor
open Go Go.Ab
theorem padded_len (s : List UInt8) : (padded s).length = s.length + 1 + padLen s.length + 8 := by
  simp [padded, be8]; omega
theorem padded_mod (s : List UInt8) : (padded s).length % 64 = 0 := by
  rw [padded_len]; unfold padLen; omega
theorem blocks_len : ∀ (k : Nat) (h : List Nat) (p : List UInt8), h.length = 8 → (blocks k h p).length = 8
  | 0, h, p, hh => hh
  | k + 1, h, p, hh => blocks_len k _ _ (block_len _ _)
theorem blocks_lt : ∀ (k : Nat) (h : List Nat) (p : List UInt8), W32 h → W32 (blocks k h p)
  | 0, h, p, hh => hh
  | k + 1, h, p, hh => blocks_lt k _ _ (block_lt _ _)
theorem beW_take (p : List UInt8) (i : Nat) (h : i + 3 < 64) : beW (p.take 64) i = beW p i := by
  have : ∀ j, j < 64 → (p.take 64).getD j 0 = p.getD j 0 := by
    intro j hj
    simp [List.getD, List.getElem?_take, hj]
  unfold beW
  rw [this i (by omega), this (i + 1) (by omega), this (i + 2) (by omega), this (i + 3) (by omega)]
theorem words_take (p : List UInt8) : words (p.take 64) = words p := by
  unfold words
  apply List.map_congr_left
  intro t ht
  rw [List.mem_range] at ht
  exact beW_take p (4 * t) (by omega)
theorem block_take (h : List Nat) (p : List UInt8) : block h (p.take 64) = block h p := by
  unfold block schedOf; rw [words_take]
def beB (n : Nat) : List UInt8 := (List.range 4).map fun j => UInt8.ofNat (n / 2 ^ (24 - 8 * j) % 256)
def rawOf (s : List UInt8) : List UInt8 := (hashOf s).flatMap beB
theorem hashOf_len (s : List UInt8) : (hashOf s).length = 8 := blocks_len _ _ _ rfl
theorem hashOf_lt (s : List UInt8) : W32 (hashOf s) := blocks_lt _ _ _ (by show ∀ x ∈ hTab, x < M32; decide +kernel)
theorem fB_len (l : List Nat) : (l.flatMap beB).length = 4 * l.length := by
  induction l with
  | nil => rfl
  | cons a r ih => rw [List.flatMap_cons, List.length_append, ih, List.length_cons]; simp [beB]; omega
theorem rawOf_len (s : List UInt8) : (rawOf s).length = 32 := by rw [rawOf, fB_len, hashOf_len]
theorem split32 (l : List UInt8) (h : l.length = 32) : ∃ r0 r1 r2 r3 r4 r5 r6 r7 r8 r9 r10 r11 r12 r13 r14 r15 r16 r17 r18 r19 r20 r21 r22 r23 r24 r25 r26 r27 r28 r29 r30 r31, l = [r0, r1, r2, r3, r4, r5, r6, r7, r8, r9, r10, r11, r12, r13, r14, r15, r16, r17, r18, r19, r20, r21, r22, r23, r24, r25, r26, r27, r28, r29, r30, r31] := by
  match l, h with
  | [r0, r1, r2, r3, r4, r5, r6, r7, r8, r9, r10, r11, r12, r13, r14, r15, r16, r17, r18, r19, r20, r21, r22, r23, r24, r25, r26, r27, r28, r29, r30, r31], _ => exact ⟨_, _, _, _, _, _, _, _, _, _, _, _, _, _, _, _, _, _, _, _, _, _, _, _, _, _, _, _, _, _, _, _, rfl⟩
def rB : Nat × Option Box := (0, some (.cells (List.replicate 32 (.int .u8 0)) ⟨false, none⟩))
theorem raw_ok (s : List UInt8) (hs : s.length ≤ 70368744177664) : Calc cx 76 [.str s] (.agg ((rawOf s).map byteAV)) :=
  pure_intro (fun a w => Tryz.call76 a w) Tryz.func76 rfl Tryz.ntmps76 rfl (.agg (by intro x hx; obtain ⟨y, _, rfl⟩ := List.mem_map.1 hx; exact .int)) fun B => by
    refine go (M := [11]) 1000 rfl ⟨?_, ?_, ?_, rfl, rfl, allOne_mem (cs := [.int .u8 128]) rfl, allOne_mem (cs := [.int .u8 128]) rfl, rfl, trivial⟩ ?_
    · show s.length + 1 ≤ 9223372036854775807; omega
    · show (s.length + 1) * 1 ≤ 140737488355328; omega
    · show 0 + s.length * 1 = (s.map byteAV).length; simp
    obtain ⟨rb, hrb⟩ : ∃ rb : Nat × Option Box, rb = (0, some (.cells (List.replicate 32 (.int .u8 0)) ⟨false, none⟩)) := ⟨_, rfl⟩
    have hbl : ∀ k, ((s ++ [128] ++ List.replicate k (0 : UInt8))).length = s.length + 1 + k := fun k => by simp; omega
    have hpl : padLen s.length < 64 := Nat.mod_lt _ (by decide)
    refine S_while (α := Nat × Nat) (fun (u, k) => [(0, .str s), (2, .ptr 0 0 0), (3, .ms 1 u 0 (s.length + 1 + k) 1 false)]) (fun (u, k) => [rb, bB u (s ++ [128] ++ List.replicate k 0) ⟨false, some 5⟩])
      (fun (u, k) => k ≤ padLen s.length) (fun (u, k) => padLen s.length - k) (1, 0)
      (Nat.zero_le _) (.cons rfl (.cons rfl (.cons rfl (.nil _)))) (by rw [hrb]; simp only [bB, List.replicate_zero, List.append_nil, List.map_append, List.map_cons, List.map_nil]; rfl) ?_
    rintro ⟨u, k⟩ hk
    refine ab 1000 rfl ⟨by decide, trivial⟩ ?_
    have hmod : (((s.length + 1 + k : Nat) : Int)).tmod 64 = (((s.length + 1 + k) % 64 : Nat) : Int) := rfl
    refine S_bne rfl (fun h56 => ?_) (fun h56 => ?_)
    · have h56 : (s.length + 1 + k) % 64 ≠ 56 := by
        have : ((((s.length + 1 + k : Nat) : Int)).tmod 64) ≠ 56 := h56
        rw [hmod] at this; omega
      have hkl : k < padLen s.length := by unfold padLen at *; omega
      refine ab 1000 rfl ⟨?_, ?_, ?_, rfl, rfl, allOne_mem (cs := [.int .u8 0]) rfl, allOne_mem (cs := [.int .u8 0]) rfl, rfl, trivial⟩ ?_
      · show s.length + 1 + k + 1 ≤ 9223372036854775807; omega
      · show (s.length + 1 + k + 1) * 1 ≤ 140737488355328; omega
      · show 0 + (s.length + 1 + k) * 1 = ((s ++ [128] ++ List.replicate k (0 : UInt8)).map byteAV).length
        rw [List.length_map, hbl]; omega
      refine S_round (u + 1, k + 1) (by show padLen s.length - (k + 1) < padLen s.length - k; omega) hkl (.cons rfl (.cons rfl (.cons rfl (.nil _)))) ?_
      show [rb, (u + 1, some (Box.cells ((s ++ [128] ++ List.replicate k (0 : UInt8)).map byteAV ++ [.int .u8 0]) _))] = [rb, bB (u + 1) (s ++ [128] ++ List.replicate (k + 1) 0) _]
      rw [List.replicate_succ', ← List.append_assoc]
      simp only [bB, List.map_append, List.map_cons, List.map_nil]
      rfl
    · have h56 : (s.length + 1 + k) % 64 = 56 := by
        have : ((((s.length + 1 + k : Nat) : Int)).tmod 64) = 56 := h56
        rw [hmod] at this; omega
      have hkl : k = padLen s.length := by unfold padLen at *; omega
      subst hkl
      obtain ⟨base, hbase⟩ : ∃ base, base = s ++ [128] ++ List.replicate (padLen s.length) (0 : UInt8) := ⟨_, rfl⟩
      have hbl' : base.length = s.length + 1 + padLen s.length := by rw [hbase]; exact hbl _
      have hpd : padded s = base ++ be8 (8 * s.length) := by rw [hbase]; rfl
      refine ab 1000 rfl trivial ?_
      refine S_while (α := Nat × Nat) (fun (u, j) => [(0, .str s), (2, .ptr 0 0 0), (3, .ms 1 u 0 (base.length + j) 1 false), (4, .int .i64 (7 - (j : Int)))]) (fun (u, j) => [rb, bB u (base ++ (be8 (8 * s.length)).take j) ⟨false, some 5⟩])
        (fun (u, j) => j ≤ 8) (fun (u, j) => 8 - j) (u, 0)
        (Nat.zero_le _) (.cons rfl (.cons rfl (.cons (by rw [hbl']; rfl) (.cons rfl (.nil _))))) (by rw [hbase]; simp) ?_
      rintro ⟨u, j⟩ hj
      refine ab 1000 rfl trivial ?_
      refine S_dec rfl (fun hlt => ?_) (fun hlt => ?_)
      · have hj8 : j < 8 := by omega
        have hw1 : IntKind.u64.wrap (s.length : Int) = (s.length : Int) := wu64 rfl (by omega)
        have hw2 : IntKind.u64.wrap ((s.length : Int) * 8) = ((8 * s.length : Nat) : Int) := wu64 (by omega) (by omega)
        have hw3 : IntKind.i64.wrap (8 * (7 - (j : Int))) = ((8 * (7 - j) : Nat) : Int) := w64 (by omega) (by omega)
        refine ab 1000 rfl ⟨?_, ?_, ?_, rfl, rfl, ?_, ?_, rfl, by rw [hw3]; omega, trivial⟩ ?_
        · show base.length + j + 1 ≤ 9223372036854775807; omega
        · show (base.length + j + 1) * 1 ≤ 140737488355328; omega
        · show 0 + (base.length + j) * 1 = ((base ++ (be8 (8 * s.length)).take j).map byteAV).length
          simp [be8]; omega
        · exact allOne_mem (cs := [.int .u8 _]) rfl
        · exact allOne_mem (cs := [.int .u8 _]) rfl
        have hval : AV.int .u8 (IntKind.u8.wrap ((IntKind.u64.wrap (IntKind.u64.wrap (s.length : Int) * 8)).fdiv (2 ^ (min (IntKind.i64.wrap (8 * (7 - (j : Int)))).toNat 64)))) = byteAV (UInt8.ofNat (8 * s.length / 256 ^ (7 - j) % 256)) := by
          rw [hw1, hw2, hw3, Int.toNat_natCast, Nat.min_eq_left (by omega), shr_nat, wrap_low rfl]
          have : (2 : Nat) ^ (8 * (7 - j)) = 256 ^ (7 - j) := by rw [show (256 : Nat) = 2 ^ 8 from rfl, ← Nat.pow_mul]
          rw [this]
          exact byteAV_of rfl (Nat.mod_lt _ (by decide))
        refine S_round (u + 1, j + 1) (by show 8 - (j + 1) < 8 - j; omega) hj8 (.cons rfl (.cons rfl (.cons rfl (.cons ?_ (.nil _))))) ?_
        · show AV.int .i64 (IntKind.i64.wrap (7 - (j : Int) - 1)) = .int .i64 (7 - ((j + 1 : Nat) : Int))
          exact ai64i (by omega) (by omega)
        · show [rb, (u + 1, some (Box.cells ((base ++ (be8 (8 * s.length)).take j).map byteAV ++ [AV.int .u8 (IntKind.u8.wrap ((IntKind.u64.wrap (IntKind.u64.wrap (s.length : Int) * 8)).fdiv (2 ^ (min (IntKind.i64.wrap (8 * (7 - (j : Int)))).toNat 64))))]) _))] = [rb, bB (u + 1) (base ++ (be8 (8 * s.length)).take (j + 1)) _]
          rw [hval]
          have ht : (be8 (8 * s.length)).take (j + 1) = (be8 (8 * s.length)).take j ++ [UInt8.ofNat (8 * s.length / 256 ^ (7 - j) % 256)] := by
            rw [List.take_succ_eq_append_getElem (by simp [be8]; omega)]
            simp [be8]
          rw [ht]
          simp only [bB, List.map_append, List.map_cons, List.map_nil, List.append_assoc]
          rfl
      · have hj8 : j = 8 := by omega
        subst hj8
        have htake : base ++ (be8 (8 * s.length)).take 8 = padded s := by rw [hpd, List.take_of_length_le (by simp [be8])]
        have hPl : (padded s).length = base.length + 8 := by rw [hpd, List.length_append]; simp [be8]
        have hPm := padded_mod s
        have hPb : (padded s).length ≤ 4611686018427387904 := by rw [padded_len]; omega
        refine S_heap [rB, bB u (padded s) ⟨false, some 5⟩] (by rw [← htake, hrb]; rfl) ?_
        refine ab 1000 rfl trivial ?_
        refine S_dead ?_ ⟨_, _, .inl rfl⟩
        refine S_dead ?_ ⟨_, _, .inl rfl⟩
        refine S_while (α := Nat × List Nat × Nat × Nat × Bool) (fun (m, h, a, b, fl) => [(0, .str s), (2, .ptr 0 0 0), (3, .ms 1 u (64 * m) ((padded s).length - 64 * m) 1 fl), (5, .ptr 2 0 0)]) (fun (m, h, a, b, fl) => [rB, bB u (padded s) ⟨false, some 5⟩, sB 0 h, (a, none), (b, none)])
          (fun (m, h, a, b, fl) => 64 * m ≤ (padded s).length ∧ h.length = 8 ∧ W32 h ∧ blocks ((padded s).length / 64 - m) h ((padded s).drop (64 * m)) = hashOf s) (fun (m, h, a, b, fl) => (padded s).length - 64 * m) (0, hTab, 0, 0, false)
          ⟨Nat.zero_le _, rfl, by show ∀ x ∈ hTab, x < M32; decide +kernel, rfl⟩ (.cons rfl (.cons rfl (.cons (by rw [hPl]; rfl) (.cons rfl (.nil _))))) rfl ?_
        rintro ⟨m, h, a, b, fl⟩ ⟨hm, hhl, hh32, hN⟩
        refine ab 1000 rfl trivial ?_
        refine S_dec rfl (fun hlt => ?_) (fun hlt => ?_)
        · have hm64 : 64 * m + 64 ≤ (padded s).length := by omega
          refine ab 1000 rfl trivial ?_
          refine S_callf [2, 1, 3, 4] (block_ok 0 u a b (64 * m) ((padded s).length - 64 * m) fl h (padded s) ⟨false, some 5⟩ hhl hh32 (by omega) (by omega) hPb) rfl (.cons (.ptr rfl) (.cons (.ms rfl) (.nil _)))
            (Part.mk' (es := [sB 0 h, bB u (padded s) ⟨false, some 5⟩, (a, none), (b, none)]) rfl rfl (.cons (.live (.cells (Rns.free ?_))) (.cons (.live (.cells (Rns.free ?_))) (.cons .dead (.cons .dead (.nil _)))))) rfl rfl ?_ (by rintro y σ1 ⟨h1, _⟩; cases h1)
          · intro x hx; obtain ⟨y, _, rfl⟩ := List.mem_map.1 hx; exact .int
          · intro x hx; obtain ⟨y, _, rfl⟩ := List.mem_map.1 hx; exact .int
          rintro y σ1 ⟨h1, rfl⟩
          cases h1
          refine ⟨.tup [], [sB 0 (block h ((padded s).drop (64 * m))), bB u (padded s) ⟨false, some 5⟩, (a + 1, none), (b + 1, none)], .cons (.live (.cells (Rns.free ?_))) (.cons (.live (.cells (Rns.free ?_))) (.cons .dead (.cons .dead (.nil _)))), .free (.tup (by simp)), ?_⟩
          · intro x hx; obtain ⟨y, _, rfl⟩ := List.mem_map.1 hx; exact .int
          · intro x hx; obtain ⟨y, _, rfl⟩ := List.mem_map.1 hx; exact .int
          refine ab 1000 rfl ⟨rfl, by omega, by decide, trivial⟩ ?_
          refine S_round (m + 1, block h ((padded s).drop (64 * m)), a + 1, b + 1, fl) (by show (padded s).length - 64 * (m + 1) < (padded s).length - 64 * m; omega) ⟨by omega, block_len _ _, block_lt _ _, ?_⟩ (.cons rfl (.cons rfl (.cons ?_ (.cons rfl (.nil _))))) rfl
          · rw [← hN, show (padded s).length / 64 - m = ((padded s).length / 64 - (m + 1)) + 1 by omega, blocks, block_take, List.drop_drop]
            congr 2
          · show AV.ms 1 u (64 * m + (64 : Int).toNat * 1) ((((padded s).length - 64 * m : Nat) : Int).toNat - (64 : Int).toNat) 1 fl = _
            congr 1
        · have hm64 : 64 * m = (padded s).length := by omega
          have hH : h = hashOf s := by
            rw [← hN, show (padded s).length / 64 - m = 0 by omega]; rfl
          subst hH
          obtain ⟨h0, h1, h2, h3, h4, h5, h6, h7, hhe⟩ : ∃ h0 h1 h2 h3 h4 h5 h6 h7, hashOf s = [h0, h1, h2, h3, h4, h5, h6, h7] := by
            have h8 := hashOf_len s
            match hashOf s, h8 with
            | [h0, h1, h2, h3, h4, h5, h6, h7], _ => exact ⟨_, _, _, _, _, _, _, _, rfl⟩
          have hHlt := hashOf_lt s
          have hro : rawOf s = (hashOf s).flatMap beB := rfl
          rw [hhe] at hHlt hro
          refine S_heap [rB, bB u (padded s) ⟨false, some 5⟩, sB 0 [h0, h1, h2, h3, h4, h5, h6, h7], (a, none), (b, none)] (by rw [← hhe]) ?_
          refine ab 1000 rfl ⟨rfl, trivial⟩ ?_
          obtain ⟨HL, hHL⟩ : ∃ HL, HL = [h0, h1, h2, h3, h4, h5, h6, h7] := ⟨_, rfl⟩
          rw [← hHL] at hHlt hro
          have hHl : HL.length = 8 := by rw [hHL]; rfl
          have hbB : ∀ n, (beB n).length = 4 := fun n => by simp [beB]
          refine S_while (α := Nat) (fun i => [(2, .ptr 0 0 0), (6, .ptr 3 (a + 1) 0), (50, .agg (u32L HL)), (51, .int .i64 i)]) (fun i => [rB, bB u (padded s) ⟨false, some 5⟩, sB 0 HL, (a + 1, some (.cells (((HL.take i).flatMap beB ++ List.replicate (32 - 4 * i) 0).map byteAV) ⟨false, none⟩)), (b, none)])
            (fun i => i ≤ 8) (fun i => 8 - i) 0 (Nat.zero_le _) (.cons rfl (.cons rfl (.cons (by rw [hHL]; rfl) (.cons rfl (.nil _))))) (by rw [hHL]; rfl) ?_
          intro i hi
          have htk : ((HL.take i).flatMap beB).length = 4 * i := by rw [fB_len, List.length_take]; omega
          refine ab 1000 rfl trivial ?_
          refine S_dec rfl (fun hlt => ?_) (fun hlt => ?_)
          · have hil : i < 8 := by omega
            refine ab 1000 rfl trivial ?_
            refine S_elem (.int .u32 (HL.getD i 0 : Nat)) rfl rfl rfl ⟨by omega, by omega, rfl, by rw [Int.toNat_natCast]; exact u32L_get (by omega), trivial⟩ ?_
            refine ab 1000 rfl trivial ?_
            have hn := hHlt.getD i
            obtain ⟨nn, hnn⟩ : ∃ nn, nn = HL.getD i 0 := ⟨_, rfl⟩
            rw [← hnn] at hn
            refine S_while (α := Nat) (fun j => [(2, .ptr 0 0 0), (6, .ptr 3 (a + 1) 0), (7, .int .i64 i), (8, .int .u32 (nn : Nat)), (50, .agg (u32L HL)), (51, .int .i64 i), (55, .int .i64 j)]) (fun j => [rB, bB u (padded s) ⟨false, some 5⟩, sB 0 HL, (a + 1, some (.cells ((((HL.take i).flatMap beB ++ (beB nn).take j) ++ List.replicate (32 - 4 * i - j) 0).map byteAV) ⟨false, none⟩)), (b, none)])
              (fun j => j ≤ 4) (fun j => 4 - j) 0 (Nat.zero_le _) (.cons rfl (.cons rfl (.cons rfl (.cons (by rw [hnn]; rfl) (.cons rfl (.cons rfl (.cons rfl (.nil _)))))))) (by simp) ?_
            intro j hj
            refine ab 1000 rfl trivial ?_
            refine S_dec rfl (fun hlt => ?_) (fun hlt => ?_)
            · have hj4 : j < 4 := by omega
              have hpre : ((HL.take i).flatMap beB ++ (beB nn).take j).length = 4 * i + j := by rw [List.length_append, htk, List.length_take, hbB]; omega
              have hw1 : IntKind.i64.wrap (8 * (j : Int)) = ((8 * j : Nat) : Int) := w64 rfl (by omega)
              have hw2 : IntKind.i64.wrap (24 - ((8 * j : Nat) : Int)) = ((24 - 8 * j : Nat) : Int) := w64 (by omega) (by omega)
              have hw3 : IntKind.i64.wrap (4 * (i : Int)) = ((4 * i : Nat) : Int) := w64 rfl (by omega)
              have hw4 : IntKind.i64.wrap (((4 * i : Nat) : Int) + (j : Int)) = ((4 * i + j : Nat) : Int) := w64 rfl (by omega)
              refine ab 1000 rfl ⟨by rw [hw1, hw2]; omega, trivial⟩ ?_
              refine S_index .top rfl rfl rfl ⟨by rw [hw3, hw4]; omega, by rw [hw3, hw4]; omega, trivial⟩ ?_
              refine S_store rfl rfl rfl ⟨rfl, rfl, rfl, ?_, trivial⟩ ?_
              · show mulN (IntKind.i64.wrap (IntKind.i64.wrap (4 * (i : Int)) + (j : Int))).toNat 1 + 1 ≤ (((((HL.take i).flatMap beB ++ (beB nn).take j) ++ List.replicate (32 - 4 * i - j) 0).map byteAV)).length
                rw [mulN_eq, hw3, hw4, Int.toNat_natCast, Nat.mul_one, List.length_map, List.length_append, hpre, List.length_replicate]; omega
              have hval : AV.int .u8 (IntKind.u8.wrap ((nn : Int).fdiv (2 ^ (min (IntKind.i64.wrap (24 - IntKind.i64.wrap (8 * (j : Int)))).toNat 32)))) = byteAV (UInt8.ofNat (nn / 2 ^ (24 - 8 * j) % 256)) := by
                rw [hw1, hw2, Int.toNat_natCast, Nat.min_eq_left (by omega), shr_nat, wrap_low rfl]
                exact byteAV_of rfl (Nat.mod_lt _ (by decide))
              have ht : (beB nn).take (j + 1) = (beB nn).take j ++ [UInt8.ofNat (nn / 2 ^ (24 - 8 * j) % 256)] := by
                rw [List.take_succ_eq_append_getElem (by rw [hbB]; exact hj4)]
                simp [beB]
              refine S_heap [rB, bB u (padded s) ⟨false, some 5⟩, sB 0 HL, (a + 1, some (.cells ((((HL.take i).flatMap beB ++ (beB nn).take (j + 1)) ++ List.replicate (32 - 4 * i - (j + 1)) 0).map byteAV) ⟨false, none⟩)), (b, none)] ?_ ?_
              · show [_, _, _, (a + 1, some (Box.cells (setRange (((((HL.take i).flatMap beB ++ (beB nn).take j) ++ List.replicate (32 - 4 * i - j) 0).map byteAV)) (mulN (IntKind.i64.wrap (IntKind.i64.wrap (4 * (i : Int)) + (j : Int))).toNat 1) [AV.int .u8 (IntKind.u8.wrap ((nn : Int).fdiv (2 ^ (min (IntKind.i64.wrap (24 - IntKind.i64.wrap (8 * (j : Int)))).toNat 32))))]) _)), _] = _
                rw [hval, mulN_eq, hw3, hw4, Int.toNat_natCast, Nat.mul_one]
                have hrep : List.replicate (32 - 4 * i - j) (0 : UInt8) = 0 :: List.replicate (32 - 4 * i - (j + 1)) 0 := by
                  rw [show 32 - 4 * i - j = (32 - 4 * i - (j + 1)) + 1 by omega, List.replicate_succ]
                rw [hrep]
                have hsf := set_fill (((HL.take i).flatMap beB ++ (beB nn).take j).map byteAV) 0 (byteAV (UInt8.ofNat (nn / 2 ^ (24 - 8 * j) % 256))) (byteAV 0) ((List.replicate (32 - 4 * i - (j + 1)) (0 : UInt8)).map byteAV)
                rw [List.length_map, hpre] at hsf
                have hL : ((((HL.take i).flatMap beB ++ (beB nn).take j) ++ 0 :: List.replicate (32 - 4 * i - (j + 1)) (0 : UInt8)).map byteAV) = ((HL.take i).flatMap beB ++ (beB nn).take j).map byteAV ++ byteAV 0 :: (List.replicate (32 - 4 * i - (j + 1)) (0 : UInt8)).map byteAV := by
                  rw [List.map_append, List.map_cons]
                rw [hL]
                show [_, _, _, (a + 1, some (Box.cells (List.set _ (4 * i + j) _) _)), _] = _
                rw [hsf, ht]
                simp only [List.map_append, List.map_cons, List.map_nil, List.append_assoc, List.singleton_append, List.cons_append, List.nil_append]
              refine ab 1000 rfl trivial ?_
              exact S_round (j + 1) (by show 4 - (j + 1) < 4 - j; omega) hj4 (.cons rfl (.cons rfl (.cons rfl (.cons rfl (.cons rfl (.cons rfl (.cons (ai64 rfl (by omega)) (.nil _)))))))) rfl
            · have hj4 : j = 4 := by omega
              subst hj4
              refine ab 1000 rfl trivial ?_
              refine S_round (i + 1) (by show 8 - (i + 1) < 8 - i; omega) hil (.cons rfl (.cons rfl (.cons rfl (.cons (ai64 rfl (by omega)) (.nil _))))) ?_
              show [_, _, _, (a + 1, some (Box.cells ((((HL.take i).flatMap beB ++ (beB nn).take 4) ++ List.replicate (32 - 4 * i - 4) 0).map byteAV) _)), _] = [_, _, _, (a + 1, some (Box.cells (((HL.take (i + 1)).flatMap beB ++ List.replicate (32 - 4 * (i + 1)) 0).map byteAV) _)), _]
              have hti : HL.take (i + 1) = HL.take i ++ [nn] := by
                rw [List.take_succ_eq_append_getElem (by omega), hnn]
                simp [List.getD, show i < HL.length by omega]
              rw [hti, List.flatMap_append, show (beB nn).take 4 = beB nn from List.take_of_length_le (by rw [hbB]; exact Nat.le_refl _), show 32 - 4 * (i + 1) = 32 - 4 * i - 4 by omega]
              simp
          · have hi8 : i = 8 := by omega
            subst hi8
            have hL : (HL.take 8).flatMap beB ++ List.replicate (32 - 4 * 8) 0 = rawOf s := by
              rw [List.take_of_length_le (by omega), hro]; simp
            obtain ⟨r0, r1, r2, r3, r4, r5, r6, r7, r8, r9, r10, r11, r12, r13, r14, r15, r16, r17, r18, r19, r20, r21, r22, r23, r24, r25, r26, r27, r28, r29, r30, r31, hr32⟩ := split32 (rawOf s) (rawOf_len s)
            refine S_heap [(0, some (.cells (List.replicate 32 (.int .u8 0)) ⟨false, none⟩)), bB u (padded s) ⟨false, some 5⟩, sB 0 HL, (a + 1, some (.cells ([r0, r1, r2, r3, r4, r5, r6, r7, r8, r9, r10, r11, r12, r13, r14, r15, r16, r17, r18, r19, r20, r21, r22, r23, r24, r25, r26, r27, r28, r29, r30, r31].map byteAV) ⟨false, none⟩)), (b, none)] (by rw [← hr32, ← hL]; rfl) ?_
            refine ab 1000 rfl ⟨lble rfl, rfl, rfl, trivial⟩ ?_
            refine S_retc (.agg (by intro x hx; obtain ⟨y, _, rfl⟩ := List.mem_map.1 hx; exact .int)) rfl ⟨rfl, trivial⟩ ?_
            rw [hr32]; rfl
def hex2 (b : UInt8) : List UInt8 := [hexC (b.toNat / 16), hexC (b.toNat % 16)]
theorem hexW_of (n : Nat) : (beB n).flatMap hex2 = hexW n := by
  have e : ∀ x, (UInt8.ofNat (x % 256)).toNat = x % 256 := fun x => by rw [UInt8.toNat_ofNat', Nat.mod_eq_of_lt (by omega)]
  show [hexC ((UInt8.ofNat (n / 16777216 % 256)).toNat / 16), hexC ((UInt8.ofNat (n / 16777216 % 256)).toNat % 16), hexC ((UInt8.ofNat (n / 65536 % 256)).toNat / 16), hexC ((UInt8.ofNat (n / 65536 % 256)).toNat % 16),
    hexC ((UInt8.ofNat (n / 256 % 256)).toNat / 16), hexC ((UInt8.ofNat (n / 256 % 256)).toNat % 16), hexC ((UInt8.ofNat (n / 1 % 256)).toNat / 16), hexC ((UInt8.ofNat (n / 1 % 256)).toNat % 16)] =
    [hexC (n / 268435456 % 16), hexC (n / 16777216 % 16), hexC (n / 1048576 % 16), hexC (n / 65536 % 16), hexC (n / 4096 % 16), hexC (n / 256 % 16), hexC (n / 16 % 16), hexC (n / 1 % 16)]
  simp only [e]
  rw [show n / 16777216 % 256 / 16 = n / 268435456 % 16 by omega, show n / 16777216 % 256 % 16 = n / 16777216 % 16 by omega, show n / 65536 % 256 / 16 = n / 1048576 % 16 by omega, show n / 65536 % 256 % 16 = n / 65536 % 16 by omega,
    show n / 256 % 256 / 16 = n / 4096 % 16 by omega, show n / 256 % 256 % 16 = n / 256 % 16 by omega, show n / 1 % 256 / 16 = n / 16 % 16 by omega, show n / 1 % 256 % 16 = n / 1 % 16 by omega]
theorem sha_raw (s : List UInt8) : (rawOf s).flatMap hex2 = sha s := by
  unfold rawOf sha
  rw [List.flatMap_assoc]
  congr 1
  funext n
  exact hexW_of n
theorem hex2_len (l : List UInt8) : (l.flatMap hex2).length = 2 * l.length := by
  induction l with
  | nil => rfl
  | cons a r ih => rw [List.flatMap_cons, List.length_append, ih]; simp [hex2]; omega
theorem sha_len (s : List UInt8) : (sha s).length = 64 := by
  rw [← sha_raw, hex2_len, rawOf_len]
theorem Sum_ok (s : List UInt8) (hs : s.length ≤ 70368744177664) : Calc cx 35 [.str s] (.str (sha s)) :=
  pure_intro (fun a w => Tryz.call35 a w) Tryz.func35 rfl Tryz.ntmps35 rfl .str fun B => by
    refine ab 1000 rfl trivial ?_
    refine S_ghostF (t := 3) 1 ⟨false, none⟩ rfl rfl ⟨.skip, _, .inr ⟨_, _, _, rfl⟩⟩ ?_
    refine S_pure rfl rfl rfl (raw_ok s hs) (.cons (.refl .str) (.nil _)) ?_
    have hrl := rawOf_len s
    have hsr := sha_raw s
    generalize rawOf s = R at *
    refine ab 1000 rfl trivial ?_
    refine S_while (α := Nat × Nat) (fun (i, u) => [(3, .ms 0 u 0 (2 * i) 1 false), (7, .agg (R.map byteAV)), (8, .int .i64 i)]) (fun (i, u) => [(u, some (.cells (((R.take i).flatMap hex2).map byteAV) ⟨false, none⟩))]) (fun (i, u) => i ≤ 32) (fun (i, u) => 32 - i) (0, 0)
      (Nat.zero_le _) (.cons rfl (.cons rfl (.cons rfl (.nil _)))) rfl ?_
    rintro ⟨i, u⟩ hi
    have hfl : ((R.take i).flatMap hex2).length = 2 * i := by rw [hex2_len, List.length_take]; omega
    refine ab 1000 rfl trivial ?_
    refine S_dec rfl (fun hlt => ?_) (fun hlt => ?_)
    · have hil : i < 32 := by omega
      have hiR : i < R.length := by omega
      refine ab 1000 rfl trivial ?_
      refine S_elem (byteAV R[i]) rfl rfl rfl ⟨by omega, by omega, rfl, by rw [Int.toNat_natCast, List.getElem?_map, List.getElem?_eq_getElem hiR]; rfl, trivial⟩ ?_
      refine ab 1000 rfl trivial ?_
      have hc := R[i].toNat_lt
      have hs1 : ((R[i].toNat : Nat) : Int).fdiv (2 ^ (min (4 : Int).toNat IntKind.u8.bits)) = ((R[i].toNat / 16 : Nat) : Int) := shr_nat _ 4
      have hs2 : bitsA .and .u8 ((R[i].toNat : Nat) : Int) 15 = ((R[i].toNat % 16 : Nat) : Int) := by
        rw [show (15 : Int) = ((15 : Nat) : Int) from rfl, bits_and (k := .u8) rfl (by show _ < 256; omega) (by decide), Nat.and_two_pow_sub_one_eq_mod _ 4]
      refine S_draw 8 [] [] rfl rfl rfl rfl ⟨rfl, rfl, rfl, by decide, rfl, by rw [hs1]; omega, by rw [hs1]; show _ < (16 : Int); omega, rfl, rfl, rfl, by rw [hs2]; omega, by rw [hs2]; show _ < (16 : Int); omega, rfl, trivial⟩ ?_
      refine ab 1000 rfl ⟨?_, ?_, ?_, rfl, rfl, ?_, ?_, rfl, trivial⟩ ?_
      · show 2 * i + 2 ≤ 9223372036854775807; omega
      · show (2 * i + 2) * 1 ≤ 140737488355328; omega
      · show 0 + (2 * i) * 1 = (((R.take i).flatMap hex2).map byteAV).length
        rw [List.length_map, hfl]; omega
      · exact allOne_mem (cs := [.int .u8 _, .int .u8 _]) rfl
      · exact allOne_mem (cs := [.int .u8 _, .int .u8 _]) rfl
      refine S_round (i + 1, u + 1) (by show 32 - (i + 1) < 32 - i; omega) hil (.cons rfl (.cons rfl (.cons (ai64 rfl (by omega)) (.nil _)))) ?_
      show [(u + 1, some (Box.cells ((((R.take i).flatMap hex2).map byteAV) ++ [byteAV (hexC (((R[i].toNat : Nat) : Int).fdiv (2 ^ (min (4 : Int).toNat 8))).toNat), byteAV (hexC (bitsA .and .u8 ((R[i].toNat : Nat) : Int) 15).toNat)]) _))] = [(u + 1, some (Box.cells (((R.take (i + 1)).flatMap hex2).map byteAV) _))]
      rw [show ((R[i].toNat : Nat) : Int).fdiv (2 ^ (min (4 : Int).toNat 8)) = ((R[i].toNat / 16 : Nat) : Int) from hs1, hs2, Int.toNat_natCast, Int.toNat_natCast, List.take_succ_eq_append_getElem hiR]
      simp only [List.flatMap_append, List.flatMap_cons, List.flatMap_nil, List.append_nil, List.map_append, hex2, List.map_cons, List.map_nil]
      rfl
    · have hi32 : i = 32 := by omega
      subst hi32
      have hall : (R.take 32).flatMap hex2 = sha s := by rw [List.take_of_length_le (by omega), hsr]
      have htk : ((((R.take 32).flatMap hex2).map byteAV).drop 0).take (2 * 32) = (sha s).map byteAV := by
        rw [hall, List.drop_zero]; exact List.take_of_length_le (by rw [List.length_map, sha_len]; decide)
      refine ab 1000 rfl ⟨?_, ?_, rfl, rfl, trivial⟩ ?_
      · rw [htk]; exact bytes_isByte _
      · rw [hall, List.length_map, sha_len]; decide
      refine S_retc .str rfl trivial ?_
      show AV.str (((((R.take 32).flatMap hex2).map byteAV).drop 0).take (2 * 32) |>.map Go.Ab.byteOf) = _
      rw [htk, bytes_of]
theorem isDig_hex (s : List UInt8) : ∀ x ∈ sha s, hexB x = true := by
  intro x hx
  rw [← sha_raw] at hx
  obtain ⟨b, _, hb⟩ := List.mem_flatMap.1 hx
  have key : ∀ m, m < 16 → hexB (hexC m) = true := by
    intro m hm
    have : ∀ m : Fin 16, hexB (hexC m.1) = true := by decide +kernel
    exact this ⟨m, hm⟩
  have hbl := b.toNat_lt
  simp only [hex2, List.mem_cons, List.not_mem_nil, or_false] at hb
  rcases hb with rfl | rfl
  · exact key _ (by omega)
  · exact key _ (by omega)
theorem isDig_sha (s : List UInt8) : isDig (sha s) = true := by
  unfold isDig
  rw [List.all_eq_true.2 (isDig_hex s), sha_len]; rfl
theorem digestBegun_ok : Calc cx 14 [] (.bool true) :=
  pure_intro (fun a w => Tryz.call14 a w) Tryz.func14 rfl Tryz.ntmps14 rfl .bool fun B => by
    refine ab 1000 rfl trivial ?_
    refine S_pure rfl rfl rfl (Sum_ok [97, 98, 99] (by decide)) (.cons (.refl .str) (.nil _)) ?_
    rw [sha_abc]
    refine ab 1000 rfl trivial ?_
    refine S_guard rfl rfl rfl rfl (fun _ => ?_) (fun h => absurd h (by decide +kernel))
    refine ab 1000 rfl trivial ?_
    refine S_pure rfl rfl rfl (Sum_ok [] (by decide)) (.cons (.refl .str) (.nil _)) ?_
    refine ab 1000 rfl trivial ?_
    refine S_pure rfl rfl rfl (digestIs_ok (sha []) (by rw [sha_len]; decide)) (.cons (.refl .str) (.nil _)) ?_
    rw [isDig_sha]
    refine ab 1000 rfl trivial ?_
    exact S_retc .bool rfl trivial rfl
end Go.Proofs.YtjkeekbfgnmngaaGreatDoor
end
section
set_option linter.unusedVariables false
set_option linter.unusedSimpArgs false
set_option maxRecDepth 20000
namespace Go.Proofs.YtjkeekbfgnmngaaGreatDoor
open Go Go.Ab
theorem ints_len (l : List Nat) : (ints l).length = l.length := by simp [ints]
theorem ints_one (l : List Nat) : ∀ x ∈ ints l, x.one = true := by
  intro x hx; obtain ⟨y, _, rfl⟩ := List.mem_map.1 hx; rfl
theorem ints_any {st : Bool} (l : List Nat) : ∀ x ∈ ints l, Free st x := by
  intro x hx; obtain ⟨y, _, rfl⟩ := List.mem_map.1 hx; exact .int
theorem ints_get {l : List Nat} {i : Nat} (h : i < l.length) : (ints l)[i]? = some (.int .i64 (l.getD i 0 : Nat)) := by
  simp [ints, List.getD, h]
theorem ints_ld {l : List Nat} {i : Nat} (h : i < l.length) : ((ints l).drop i)[0]? = some (.int .i64 (l.getD i 0 : Nat)) := by
  simp [ints, List.getD, h]
theorem getD_mid (A : List Nat) (x : Nat) (B : List Nat) : (A ++ x :: B).getD A.length 0 = x := by simp [List.getD]
def WInv (p : List UInt8) (t : Nat) (w : List Nat) : Prop := w.length = t ∧ W32 w ∧ (t ≤ 16 → w = (words p).take t) ∧ (16 ≤ t → sched (64 - t) w = schedOf p)
theorem sum4 {Z a V b : Nat} (hZ : Z < M32) (ha : a < M32) (hV : V < M32) (hb : b < M32) :
    IntKind.i64.wrap (IntKind.i64.wrap (IntKind.i64.wrap ((Z : Int) + (a : Int)) + (V : Int)) + (b : Int)) = ((Z + a + V + b : Nat) : Int) ∧ Z + a + V + b ≤ 4611686018427387904 := by
  simp only [M32] at *
  have e1 : IntKind.i64.wrap ((Z : Int) + (a : Int)) = ((Z + a : Nat) : Int) := w64 (by omega) (by omega)
  have e2 : IntKind.i64.wrap (((Z + a : Nat) : Int) + (V : Int)) = ((Z + a + V : Nat) : Int) := w64 (by omega) (by omega)
  have e3 : IntKind.i64.wrap (((Z + a + V : Nat) : Int) + (b : Int)) = ((Z + a + V + b : Nat) : Int) := w64 (by omega) (by omega)
  rw [e1, e2, e3]
  exact ⟨rfl, by omega⟩
theorem sum5 {Z a V b d : Nat} (hZ : Z < M32) (ha : a < M32) (hV : V < M32) (hb : b < M32) (hd : d < M32) :
    IntKind.i64.wrap (IntKind.i64.wrap (IntKind.i64.wrap (IntKind.i64.wrap ((Z : Int) + (a : Int)) + (V : Int)) + (b : Int)) + (d : Int)) = ((Z + a + V + b + d : Nat) : Int) ∧ Z + a + V + b + d ≤ 4611686018427387904 := by
  obtain ⟨h1, _⟩ := sum4 hZ ha hV hb
  rw [h1]
  simp only [M32] at *
  exact ⟨w64 (by omega) (by omega), by omega⟩
theorem sum2 {Z a : Nat} (hZ : Z < M32) (ha : a < M32 + M32) : IntKind.i64.wrap ((Z : Int) + (a : Int)) = ((Z + a : Nat) : Int) ∧ Z + a ≤ 4611686018427387904 := by
  simp only [M32] at *
  exact ⟨w64 (by omega) (by omega), by omega⟩
theorem lt2 {a : Nat} (h : a < M32) : a < M32 + M32 := Nat.lt_of_lt_of_le h (Nat.le_add_left _ _)
theorem round_eq (v0 v1 v2 v3 v4 v5 v6 v7 kt wt : Nat) : round [v0, v1, v2, v3, v4, v5, v6, v7] (kt + wt) =
    [((v7 + Sig1 v4 + ((v4 &&& v5) ^^^ ((4294967295 - v4) &&& v6)) + kt + wt) % M32 + (Sig0 v0 + ((v0 &&& v1) ^^^ (v0 &&& v2) ^^^ (v1 &&& v2)))) % M32, v0, v1, v2,
      (v3 + (v7 + Sig1 v4 + ((v4 &&& v5) ^^^ ((4294967295 - v4) &&& v6)) + kt + wt) % M32) % M32, v4, v5, v6] := by
  simp only [round, List.getD, List.getElem?_cons_zero, List.getElem?_cons_succ, Option.getD_some]
  rw [Nat.add_mod_mod, ← Nat.add_assoc (v7 + Sig1 v4 + ((v4 &&& v5) ^^^ ((4294967295 - v4) &&& v6))) kt wt]
theorem div32 {X k : Nat} (hX : X < M32) : IntKind.i64.wrap ((X : Int).tdiv (k : Int)) = ((X / k : Nat) : Int) :=
  w64 rfl (by have := Nat.div_le_self X k; simp only [M32] at hX; omega)
set_option maxHeartbeats 8000000 in
theorem SumR_ok (s : List UInt8) (hs : s.length ≤ 70368744177664) : Calc cx 84 [.str s] (.str (sha s)) :=
  pure_intro (fun a w => Tryz.call84 a w) Tryz.func84 rfl Tryz.ntmps84 rfl .str fun B => by
    refine go (M := [30]) 1000 rfl ⟨?_, ?_, ?_, rfl, rfl, allOne_mem (cs := [.int .u8 128]) rfl, allOne_mem (cs := [.int .u8 128]) rfl, rfl, trivial⟩ ?_
    · show s.length + 1 ≤ 9223372036854775807; omega
    · show (s.length + 1) * 1 ≤ 140737488355328; omega
    · show 0 + s.length * 1 = (s.map byteAV).length; simp
    have hbl : ∀ k, ((s ++ [128] ++ List.replicate k (0 : UInt8))).length = s.length + 1 + k := fun k => by simp; omega
    have hpl : padLen s.length < 64 := Nat.mod_lt _ (by decide)
    refine S_while (α := Nat × Nat) (fun (u, k) => [(0, .str s), (3, .ms 0 u 0 (s.length + 1 + k) 1 false)]) (fun (u, k) => [bB u (s ++ [128] ++ List.replicate k 0) ⟨false, some 5⟩])
      (fun (u, k) => k ≤ padLen s.length) (fun (u, k) => padLen s.length - k) (1, 0)
      (Nat.zero_le _) (.cons rfl (.cons rfl (.nil _))) (by simp only [bB, List.replicate_zero, List.append_nil, List.map_append, List.map_cons, List.map_nil]; rfl) ?_
    rintro ⟨u, k⟩ hk
    refine ab 1000 rfl ⟨by decide, trivial⟩ ?_
    have hmod : (((s.length + 1 + k : Nat) : Int)).tmod 64 = (((s.length + 1 + k) % 64 : Nat) : Int) := rfl
    refine S_bne rfl (fun h56 => ?_) (fun h56 => ?_)
    · have h56 : (s.length + 1 + k) % 64 ≠ 56 := by
        have : ((((s.length + 1 + k : Nat) : Int)).tmod 64) ≠ 56 := h56
        rw [hmod] at this; omega
      have hkl : k < padLen s.length := by unfold padLen at *; omega
      refine ab 1000 rfl ⟨?_, ?_, ?_, rfl, rfl, allOne_mem (cs := [.int .u8 0]) rfl, allOne_mem (cs := [.int .u8 0]) rfl, rfl, trivial⟩ ?_
      · show s.length + 1 + k + 1 ≤ 9223372036854775807; omega
      · show (s.length + 1 + k + 1) * 1 ≤ 140737488355328; omega
      · show 0 + (s.length + 1 + k) * 1 = ((s ++ [128] ++ List.replicate k (0 : UInt8)).map byteAV).length
        rw [List.length_map, hbl]; omega
      refine S_round (u + 1, k + 1) (by show padLen s.length - (k + 1) < padLen s.length - k; omega) hkl (.cons rfl (.cons rfl (.nil _))) ?_
      show [(u + 1, some (Box.cells ((s ++ [128] ++ List.replicate k (0 : UInt8)).map byteAV ++ [.int .u8 0]) _))] = [bB (u + 1) (s ++ [128] ++ List.replicate (k + 1) 0) _]
      rw [List.replicate_succ', ← List.append_assoc]
      simp only [bB, List.map_append, List.map_cons, List.map_nil]
      rfl
    have h56 : (s.length + 1 + k) % 64 = 56 := by
      have : ((((s.length + 1 + k : Nat) : Int)).tmod 64) = 56 := h56
      rw [hmod] at this; omega
    have hkl : k = padLen s.length := by unfold padLen at *; omega
    subst hkl
    obtain ⟨base, hbase⟩ : ∃ base, base = s ++ [128] ++ List.replicate (padLen s.length) (0 : UInt8) := ⟨_, rfl⟩
    have hbl' : base.length = s.length + 1 + padLen s.length := by rw [hbase]; exact hbl _
    have hpd : padded s = base ++ be8 (8 * s.length) := by rw [hbase]; rfl
    have hw8 : IntKind.i64.wrap (8 * (s.length : Int)) = ((8 * s.length : Nat) : Int) := w64 (by omega) (by omega)
    refine ab 1000 rfl trivial ?_
    refine S_while (α := Nat × Nat) (fun (u, j) => [(3, .ms 0 u 0 (base.length + j) 1 false), (4, .int .i64 (8 * s.length : Nat)), (5, .int .i64 (7 - (j : Int)))]) (fun (u, j) => [bB u (base ++ (be8 (8 * s.length)).take j) ⟨false, some 5⟩])
      (fun (u, j) => j ≤ 8) (fun (u, j) => 8 - j) (u, 0)
      (Nat.zero_le _) (.cons (by rw [hbl']; rfl) (.cons (ai64 (by omega) (by omega)) (.cons rfl (.nil _)))) (by rw [hbase]; simp) ?_
    rintro ⟨u, j⟩ hj
    refine ab 1000 rfl trivial ?_
    refine S_dec rfl (fun hlt => ?_) (fun hlt => ?_)
    · have hj8 : j < 8 := by omega
      have hw3 : IntKind.i64.wrap (8 * (7 - (j : Int))) = ((8 * (7 - j) : Nat) : Int) := w64 (by omega) (by omega)
      refine ab 1000 rfl trivial ?_
      refine S_pure rfl rfl rfl (Pow2_ok (8 * (7 - j)) (by omega)) (.cons (by show Frz false _ (AV.int .i64 (IntKind.i64.wrap (8 * (7 - (j : Int))))) _; rw [hw3]; exact .refl .int) (.nil _)) ?_
      have hp0 : 0 < 2 ^ (8 * (7 - j)) := Nat.two_pow_pos _
      have e256 : (2 : Nat) ^ (8 * (7 - j)) = 256 ^ (7 - j) := by rw [show (256 : Nat) = 2 ^ 8 from rfl, ← Nat.pow_mul]
      have hval : AV.int .u8 (IntKind.u8.wrap ((IntKind.i64.wrap (((8 * s.length : Nat) : Int).tdiv ((2 ^ (8 * (7 - j)) : Nat) : Int))).tmod 256)) = byteAV (UInt8.ofNat (8 * s.length / 256 ^ (7 - j) % 256)) := by
        have hd : IntKind.i64.wrap (((8 * s.length : Nat) : Int).tdiv ((2 ^ (8 * (7 - j)) : Nat) : Int)) = ((8 * s.length / 256 ^ (7 - j) : Nat) : Int) := by
          rw [← e256]
          exact w64 rfl (by have := Nat.div_le_self (8 * s.length) (2 ^ (8 * (7 - j))); omega)
        rw [hd]
        show AV.int .u8 (IntKind.u8.wrap ((8 * s.length / 256 ^ (7 - j) % 256 : Nat) : Int)) = _
        rw [wrap_low rfl]
        exact byteAV_of (by simp [IntKind.bits]) (Nat.mod_lt _ (by decide))
      refine ab 1000 rfl ⟨?_, ?_, ?_, rfl, rfl, ?_, ?_, rfl, by decide, by omega, trivial⟩ ?_
      · show base.length + j + 1 ≤ 9223372036854775807; omega
      · show (base.length + j + 1) * 1 ≤ 140737488355328; omega
      · show 0 + (base.length + j) * 1 = ((base ++ (be8 (8 * s.length)).take j).map byteAV).length
        simp [be8]; omega
      · exact allOne_mem (cs := [.int .u8 _]) rfl
      · exact allOne_mem (cs := [.int .u8 _]) rfl
      refine S_round (u + 1, j + 1) (by show 8 - (j + 1) < 8 - j; omega) hj8 (.cons rfl (.cons rfl (.cons ?_ (.nil _)))) ?_
      · show AV.int .i64 (IntKind.i64.wrap (7 - (j : Int) - 1)) = .int .i64 (7 - ((j + 1 : Nat) : Int))
        exact ai64i (by omega) (by omega)
      · show [(u + 1, some (Box.cells ((base ++ (be8 (8 * s.length)).take j).map byteAV ++ [AV.int .u8 (IntKind.u8.wrap ((IntKind.i64.wrap (((8 * s.length : Nat) : Int).tdiv ((2 ^ (8 * (7 - j)) : Nat) : Int))).tmod 256))]) _))] = [bB (u + 1) (base ++ (be8 (8 * s.length)).take (j + 1)) _]
        rw [hval]
        have ht : (be8 (8 * s.length)).take (j + 1) = (be8 (8 * s.length)).take j ++ [UInt8.ofNat (8 * s.length / 256 ^ (7 - j) % 256)] := by
          rw [List.take_succ_eq_append_getElem (by simp [be8]; omega)]
          simp [be8]
        rw [ht]
        simp only [bB, List.map_append, List.map_cons, List.map_nil, List.append_assoc]
        rfl
    have hj8 : j = 8 := by omega
    subst hj8
    have htake : base ++ (be8 (8 * s.length)).take 8 = padded s := by rw [hpd, List.take_of_length_le (by simp [be8])]
    have hPl : (padded s).length = base.length + 8 := by rw [hpd, List.length_append]; simp [be8]
    have hPm := padded_mod s
    have hPb : (padded s).length ≤ 140737488355328 := by rw [padded_len]; omega
    refine S_heap [bB u (padded s) ⟨false, some 5⟩] (by rw [← htake]) ?_
    refine ab 1000 rfl trivial ?_
    refine S_pure rfl rfl rfl Constants_ok (.nil _) ?_
    refine ab 1000 rfl trivial ?_
    refine S_callf [] Firsts_ok rfl (.nil _) (Part.mk' (es := []) rfl rfl (.nil _)) rfl rfl ?_ (by rintro y σ1 ⟨h1, _⟩; cases h1)
    rintro y σ1 ⟨h1, rfl⟩
    cases h1
    refine ⟨.ms 1 0 0 8 1 true, [iB 0 hTab], .cons (.live (.cells (Rns.free (ints_any _)))) (.nil _), .ms rfl, ?_⟩
    refine S_heap [bB u (padded s) ⟨false, some 5⟩, iB 0 hTab] rfl ?_
    refine ab 1000 rfl trivial ?_
    refine S_dead ?_ ⟨_, _, .inl rfl⟩
    refine S_dead ?_ ⟨_, _, .inl rfl⟩
    refine S_dead ?_ ⟨_, _, .inl rfl⟩
    obtain ⟨P, hP⟩ : ∃ P, P = padded s := ⟨_, rfl⟩
    rw [← hP] at hPl hPm hPb ⊢
    have hHs : hashOf s = blocks (P.length / 64) hTab P := by rw [hP]; rfl
    refine S_while (α := Nat × List Nat × Nat × Nat × Nat) (fun (m, h, a, b, c) => [(3, .ms 0 u 0 P.length 1 false), (6, .sl true true 1 (ints kTab)), (7, .ms 1 0 0 8 1 true), (8, .int .i64 (64 * m : Nat))])
      (fun (m, h, a, b, c) => [bB u P ⟨false, some 5⟩, iB 0 h, (a, none), (b, none), (c, none)])
      (fun (m, h, a, b, c) => 64 * m ≤ P.length ∧ h.length = 8 ∧ W32 h ∧ blocks (P.length / 64 - m) h (P.drop (64 * m)) = hashOf s) (fun (m, h, a, b, c) => P.length - 64 * m) (0, hTab, 0, 0, 0)
      ⟨Nat.zero_le _, rfl, by show ∀ x ∈ hTab, x < M32; decide +kernel, by rw [hHs]; rfl⟩ (.cons (by rw [hPl]; rfl) (.cons rfl (.cons rfl (.cons rfl (.nil _))))) rfl ?_
    rintro ⟨m, h, a, b, c⟩ ⟨hm, hhl, hh32, hN⟩
    refine ab 1000 rfl trivial ?_
    refine S_dec rfl (fun hlt => ?_) (fun hlt => ?_)
    · have hm64 : 64 * m + 64 ≤ P.length := by omega
      obtain ⟨p, hp⟩ : ∃ p, p = P.drop (64 * m) := ⟨_, rfl⟩
      have hpl : 64 ≤ p.length := by rw [hp, List.length_drop]; omega
      have hpg : ∀ i, i < 64 → P.getD (64 * m + i) 0 = p.getD i 0 := by
        intro i hi
        rw [hp]
        simp [List.getD]
      refine ab 1000 rfl trivial ?_
      refine S_ghostF (t := 9) 1 ⟨false, none⟩ rfl rfl ⟨_, _, .inl rfl⟩ ?_
      refine S_while (α := Nat × List Nat × Nat) (fun (t, w, x) => [(3, .ms 0 u 0 P.length 1 false), (6, .sl true true 1 (ints kTab)), (7, .ms 1 0 0 8 1 true), (8, .int .i64 (64 * m : Nat)), (9, .ms 2 x 0 t 1 false), (10, .int .i64 (t : Nat))])
        (fun (t, w, x) => [bB u P ⟨false, some 5⟩, iB 0 h, iB x w, (b, none), (c, none)])
        (fun (t, w, x) => t ≤ 64 ∧ WInv p t w) (fun (t, w, x) => 64 - t) (0, [], a + 1)
        ⟨Nat.zero_le _, rfl, (by intro y hy; cases hy), fun _ => rfl, fun h => absurd h (by decide)⟩ (.cons rfl (.cons rfl (.cons rfl (.cons rfl (.cons rfl (.cons rfl (.nil _))))))) rfl ?_
      rintro ⟨t, w, x⟩ ⟨ht64, hwl, hw32, hw16, hws⟩
      have ht64 : t ≤ 64 := ht64
      refine ab 1000 rfl trivial ?_
      refine S_dec rfl (fun hlt => ?_) (fun hlt => ?_)
      · have ht : t < 64 := by omega
        refine ab 1000 rfl trivial ?_
        refine S_dec rfl (fun hlt => ?_) (fun hlt => ?_)
        · have ht16 : t < 16 := by omega
          have hw0 := hw16 (by omega)
          refine ab 1000 rfl trivial ?_
          refine S_while (α := Nat) (fun j => [(3, .ms 0 u 0 P.length 1 false), (6, .sl true true 1 (ints kTab)), (7, .ms 1 0 0 8 1 true), (8, .int .i64 (64 * m : Nat)), (9, .ms 2 x 0 t 1 false), (10, .int .i64 (t : Nat)), (11, .int .i64 (accW p (4 * t) j : Nat)), (12, .int .i64 (j : Nat))])
            (fun j => [bB u P ⟨false, some 5⟩, iB 0 h, iB x w, (b, none), (c, none)]) (fun j => j ≤ 4) (fun j => 4 - j) 0
            (Nat.zero_le _) (.cons rfl (.cons rfl (.cons rfl (.cons rfl (.cons rfl (.cons rfl (.cons rfl (.cons rfl (.nil _))))))))) rfl ?_
          intro j hj
          refine ab 1000 rfl trivial ?_
          refine S_dec rfl (fun hlt => ?_) (fun hlt => ?_)
          · have hj4 : j < 4 := by omega
            have hacc := accW_lt p (4 * t) j
            have hap : 256 ^ j ≤ 256 ^ 3 := Nat.pow_le_pow_right (by decide) (by omega)
            have hi1 : IntKind.i64.wrap (4 * (t : Int)) = ((4 * t : Nat) : Int) := w64 (by omega) (by omega)
            have hi2 : IntKind.i64.wrap (((64 * m : Nat) : Int) + ((4 * t : Nat) : Int)) = ((64 * m + 4 * t : Nat) : Int) := w64 (by omega) (by omega)
            have hi3 : IntKind.i64.wrap (((64 * m + 4 * t : Nat) : Int) + (j : Int)) = ((64 * m + (4 * t + j) : Nat) : Int) := w64 (by omega) (by omega)
            refine ab 1000 rfl trivial ?_
            refine S_index .top rfl rfl rfl ⟨rfl, by rw [hi1, hi2, hi3]; omega, by rw [hi1, hi2, hi3]; omega, trivial⟩ ?_
            refine S_load (byteAV (p.getD (4 * t + j) 0)) rfl rfl rfl ⟨rfl, ?_, trivial⟩ ?_
            · show ((P.map byteAV).drop (offN 0 (mulN (IntKind.i64.wrap (IntKind.i64.wrap (((64 * m : Nat) : Int) + IntKind.i64.wrap (4 * (t : Int))) + (j : Int))).toNat 1)))[0]? = _
              rw [hi1, hi2, hi3, offN_eq, mulN_eq, Int.toNat_natCast, Nat.mul_one, Nat.zero_add, bytes_ld (by omega), hpg _ (by omega)]
            refine ab 1000 rfl trivial ?_
            have hb8 := (p.getD (4 * t + j) 0).toNat_lt
            refine S_round (j + 1) (by show 4 - (j + 1) < 4 - j; omega) hj4 (.cons rfl (.cons rfl (.cons rfl (.cons rfl (.cons rfl (.cons rfl (.cons ?_ (.cons (ai64 rfl (by omega)) (.nil _))))))))) rfl
            show AV.int .i64 (IntKind.i64.wrap (IntKind.i64.wrap (256 * ((accW p (4 * t) j : Nat) : Int)) + IntKind.i64.wrap (((p.getD (4 * t + j) 0).toNat : Nat) : Int))) = .int .i64 (accW p (4 * t) (j + 1) : Nat)
            rw [w64 (x := 256 * ((accW p (4 * t) j : Nat) : Int)) (k := 256 * accW p (4 * t) j) (by omega) (by omega), w64 (k := (p.getD (4 * t + j) 0).toNat) rfl (by omega)]
            exact ai64 (by rw [accW]; omega) (by rw [accW]; omega)
          · have hj4 : j = 4 := by omega
            subst hj4
            have hacc := accW_lt p (4 * t) 4
            refine ab 1000 rfl ⟨?_, ?_, ?_, rfl, rfl, ?_, ?_, rfl, trivial⟩ ?_
            · show t + 1 ≤ 9223372036854775807; omega
            · show (t + 1) * 8 ≤ 140737488355328; omega
            · show 0 + t * 1 = (ints w).length; rw [ints_len]; omega
            · exact allOne_mem (cs := [.int .i64 _]) rfl
            · exact allOne_mem (cs := [.int .i64 _]) rfl
            have hnext : (words p).take (t + 1) = w ++ [accW p (4 * t) 4] := by
              rw [List.take_succ_eq_append_getElem (by rw [words_len]; exact ht16), words_get p ht16, ← hw0]
            refine S_round (t + 1, w ++ [accW p (4 * t) 4], x + 1) (by show 64 - (t + 1) < 64 - t; omega) ⟨by omega, by simp [hwl], hw32.app (.one hacc), fun _ => hnext.symm, fun h => ?_⟩ (.cons rfl (.cons rfl (.cons rfl (.cons rfl (.cons rfl (.cons (ai64 rfl (by omega)) (.nil _))))))) ?_
            · have h15 : t + 1 = 16 := by omega
              rw [← hnext, h15, List.take_of_length_le (by rw [words_len]; exact Nat.le_refl _)]; rfl
            · show [bB u P _, iB 0 h, (x + 1, some (Box.cells (ints w ++ [.int .i64 (accW p (4 * t) 4 : Nat)]) ⟨false, none⟩)), (b, none), (c, none)] = _
              simp [iB, ints]
        · have ht16 : 16 ≤ t := by omega
          have hi15 : IntKind.i64.wrap ((t : Int) - 15) = ((t - 15 : Nat) : Int) := w64 (by omega) (by omega)
          have hi2 : IntKind.i64.wrap ((t : Int) - 2) = ((t - 2 : Nat) : Int) := w64 (by omega) (by omega)
          have hi16 : IntKind.i64.wrap ((t : Int) - 16) = ((t - 16 : Nat) : Int) := w64 (by omega) (by omega)
          have hi7 : IntKind.i64.wrap ((t : Int) - 7) = ((t - 7 : Nat) : Int) := w64 (by omega) (by omega)
          have g15 : 0 ≤ IntKind.i64.wrap ((t : Int) - 15) ∧ IntKind.i64.wrap ((t : Int) - 15) < (t : Int) ∧ t - 15 < t := by rw [hi15]; omega
          have g2 : 0 ≤ IntKind.i64.wrap ((t : Int) - 2) ∧ IntKind.i64.wrap ((t : Int) - 2) < (t : Int) ∧ t - 2 < t := by rw [hi2]; omega
          have g16 : 0 ≤ IntKind.i64.wrap ((t : Int) - 16) ∧ IntKind.i64.wrap ((t : Int) - 16) < (t : Int) ∧ t - 16 < t := by rw [hi16]; omega
          have g7 : 0 ≤ IntKind.i64.wrap ((t : Int) - 7) ∧ IntKind.i64.wrap ((t : Int) - 7) < (t : Int) ∧ t - 7 < t := by rw [hi7]; omega
          have k1 : t + 1 ≤ 9223372036854775807 ∧ (t + 1) * 8 ≤ 140737488355328 ∧ 0 + t * 1 = (ints w).length := by rw [ints_len]; omega
          have k2 : 64 - (t + 1) < 64 - t ∧ t + 1 ≤ 64 ∧ ¬ t + 1 ≤ 16 ∧ (w ++ [wNext w]).length = t + 1 := by rw [List.length_append]; simp only [List.length_cons, List.length_nil]; omega
          have k3 : AV.int .i64 (IntKind.i64.wrap ((t : Int) + 1)) = .int .i64 ((t + 1 : Nat) : Int) := ai64 rfl (by omega)
          have k4 : 64 - t = (64 - (t + 1)) + 1 := by omega
          have ld : ∀ (i : Int) (k : Nat), i = (k : Int) → k < t → ((ints w).drop (offN 0 (mulN i.toNat 1)))[0]? = some (.int .i64 (w.getD k 0 : Nat)) := by
            intro i k hi hk
            rw [hi, offN_eq, mulN_eq, Int.toNat_natCast, Nat.mul_one, Nat.zero_add, ints_ld (by omega)]
          obtain ⟨X, hX⟩ : ∃ X, X = w.getD (t - 15) 0 := ⟨_, rfl⟩
          obtain ⟨Y, hY⟩ : ∃ Y, Y = w.getD (t - 2) 0 := ⟨_, rfl⟩
          obtain ⟨Z, hZ⟩ : ∃ Z, Z = w.getD (t - 16) 0 := ⟨_, rfl⟩
          obtain ⟨V, hV⟩ : ∃ V, V = w.getD (t - 7) 0 := ⟨_, rfl⟩
          have hX32 : X < M32 := by rw [hX]; exact hw32.getD _
          have hY32 : Y < M32 := by rw [hY]; exact hw32.getD _
          have hZ32 : Z < M32 := by rw [hZ]; exact hw32.getD _
          have hV32 : V < M32 := by rw [hV]; exact hw32.getD _
          refine ab 1000 rfl trivial ?_
          refine S_draw 12 [] [.top, .int .i64 (X : Nat), .top, .int .i64 (Y : Nat)] rfl rfl rfl rfl ⟨rfl, rfl, rfl, rfl, g15.1, g15.2.1, rfl, (by rw [hX]; exact ld _ _ hi15 g15.2.2), rfl, rfl, rfl, rfl, g2.1, g2.2.1, rfl, (by rw [hY]; exact ld _ _ hi2 g2.2.2), rfl, rfl, trivial⟩ ?_
          refine ab 1000 rfl trivial ?_
          refine S_pure rfl rfl rfl (Right_ok X 7 hX32 (by decide) (by decide)) (.cons (.refl .int) (.cons (.refl .int) (.nil _))) ?_
          refine ab 1000 rfl trivial ?_
          refine S_pure rfl rfl rfl (Right_ok X 18 hX32 (by decide) (by decide)) (.cons (.refl .int) (.cons (.refl .int) (.nil _))) ?_
          refine ab 1000 rfl ⟨by decide, trivial⟩ ?_
          have hx8 : IntKind.i64.wrap ((X : Int).tdiv 8) = ((X / 8 : Nat) : Int) := div32 (k := 8) hX32
          have hs0 : Calc cx 116 [.sl true true 1 (ints [rotr X 7, rotr X 18, X / 8])] (.int .i64 (sig0 X : Nat)) := by
            have := xor_ok (st := true) (fl := true) [rotr X 7, rotr X 18, X / 8] (by intro y hy; simp at hy; rcases hy with rfl | rfl | rfl; exact rotr_lt _ hX32; exact rotr_lt _ hX32; exact div_lt _ hX32) (by simp)
            rwa [xorL_three (rotr_lt _ hX32) (rotr_lt _ hX32) (div_lt _ hX32)] at this
          refine S_pure rfl rfl rfl hs0 (.cons ?_ (.nil _)) ?_
          · show Frz false _ (.sl true true 1 [.int .i64 (rotr X 7 : Nat), .int .i64 (rotr X 18 : Nat), .int .i64 (IntKind.i64.wrap ((X : Int).tdiv 8))]) _
            rw [hx8]; exact .refl (.sl (fun h => by cases h) (ints_any [rotr X 7, rotr X 18, X / 8]))
          refine ab 1000 rfl trivial ?_
          refine S_pure rfl rfl rfl (Right_ok Y 17 hY32 (by decide) (by decide)) (.cons (.refl .int) (.cons (.refl .int) (.nil _))) ?_
          refine ab 1000 rfl trivial ?_
          refine S_pure rfl rfl rfl (Right_ok Y 19 hY32 (by decide) (by decide)) (.cons (.refl .int) (.cons (.refl .int) (.nil _))) ?_
          refine ab 1000 rfl ⟨by decide, trivial⟩ ?_
          have hy10 : IntKind.i64.wrap ((Y : Int).tdiv 1024) = ((Y / 1024 : Nat) : Int) := div32 (k := 1024) hY32
          have hs1 : Calc cx 116 [.sl true true 1 (ints [rotr Y 17, rotr Y 19, Y / 1024])] (.int .i64 (sig1 Y : Nat)) := by
            have := xor_ok (st := true) (fl := true) [rotr Y 17, rotr Y 19, Y / 1024] (by intro y hy; simp at hy; rcases hy with rfl | rfl | rfl; exact rotr_lt _ hY32; exact rotr_lt _ hY32; exact div_lt _ hY32) (by simp)
            rwa [xorL_three (rotr_lt _ hY32) (rotr_lt _ hY32) (div_lt _ hY32)] at this
          refine S_pure rfl rfl rfl hs1 (.cons ?_ (.nil _)) ?_
          · show Frz false _ (.sl true true 1 [.int .i64 (rotr Y 17 : Nat), .int .i64 (rotr Y 19 : Nat), .int .i64 (IntKind.i64.wrap ((Y : Int).tdiv 1024))]) _
            rw [hy10]; exact .refl (.sl (fun h => by cases h) (ints_any [rotr Y 17, rotr Y 19, Y / 1024]))
          refine ab 1000 rfl trivial ?_
          obtain ⟨hsum, hsle⟩ := sum4 hZ32 (sig0_lt hX32) hV32 (sig1_lt hY32)
          have hnx : wNext w = (Z + sig0 X + V + sig1 Y) % M32 := by rw [wNext, hwl, hX, hY, hZ, hV]
          refine S_draw 18 [] [.top, .int .i64 (Z : Nat), .top, .int .i64 (V : Nat), .int .i64 (wNext w : Nat)] rfl rfl rfl rfl ⟨rfl, rfl, rfl, rfl, rfl, g16.1, g16.2.1, rfl, (by rw [hZ]; exact ld _ _ hi16 g16.2.2), rfl, rfl, rfl, rfl, rfl, rfl, g7.1, g7.2.1, rfl, (by rw [hV]; exact ld _ _ hi7 g7.2.2), rfl, rfl, rfl, ⟨_, (by rw [hnx]; exact Wrap_ok (Z + sig0 X + V + sig1 Y) hsle), .cons (by show Frz false _ (.int .i64 (IntKind.i64.wrap (IntKind.i64.wrap (IntKind.i64.wrap ((Z : Int) + ((sig0 X : Nat) : Int)) + (V : Int)) + ((sig1 Y : Nat) : Int)))) _; rw [hsum]; exact .refl .int) (.nil _)⟩, rfl, trivial⟩ ?_
          refine ab 1000 rfl ⟨k1.1, k1.2.1, k1.2.2, rfl, rfl, allOne_mem (cs := [.int .i64 _]) rfl, allOne_mem (cs := [.int .i64 _]) rfl, rfl, trivial⟩ ?_
          refine S_round (t + 1, w ++ [wNext w], x + 1) k2.1 ⟨k2.2.1, k2.2.2.2, hw32.app (.one (wNext_lt w)), fun h => absurd h k2.2.2.1, fun _ => ?_⟩ (.cons rfl (.cons rfl (.cons rfl (.cons rfl (.cons rfl (.cons k3 (.nil _))))))) ?_
          · have := hws ht16
            rw [k4, sched] at this
            exact this
          · show [bB u P _, iB 0 h, (x + 1, some (Box.cells (ints w ++ [.int .i64 (wNext w : Nat)]) ⟨false, none⟩)), (b, none), (c, none)] = _
            simp [iB, ints]
      · have ht : t = 64 := by omega
        subst ht
        have hW : w = schedOf p := hws (by decide)
        have hWl : w.length = 64 := hwl
        refine go (M := [137]) 1000 rfl ⟨by decide, ?_, .inl (by decide), ?_, rfl, rfl, fun y hy => ints_one h y (List.mem_of_mem_take hy), ?_, rfl, rfl, trivial⟩ ?_
        · show (0 + 8) * 8 ≤ 140737488355328; decide
        · exact Nat.zero_le _
        · show 0 + 8 * 1 ≤ (ints h).length; rw [ints_len]; omega
        refine S_drop (id := 3) rfl ?_ ⟨_, _, .inl rfl⟩
        refine S_heap [bB u P ⟨false, some 5⟩, iB 0 h, iB x w, (b + 1, none), iB (c + 1) h] ?_ ?_
        · show [_, _, _, (b + 1, none), (c + 1, some (Box.cells ((ints h).take 8) ⟨false, none⟩))] = _
          rw [List.take_of_length_le (by rw [ints_len]; omega)]; rfl
        refine S_freeze1 (t := 17) (id := 4) (len := 8) rfl rfl (by rw [ints_len]; exact hhl) (ints_one h) (ints_any h) ⟨_, _, .inl rfl⟩ ?_
        refine S_while (α := Nat × List Nat × Bool × Bool) (fun (t, v, st, fl) => [(3, .ms 0 u 0 P.length 1 false), (6, .sl true true 1 (ints kTab)), (7, .ms 1 0 0 8 1 true), (8, .int .i64 (64 * m : Nat)), (9, .ms 2 x 0 64 1 false), (17, .sl st fl 1 (ints v)), (18, .int .i64 (t : Nat))])
          (fun (t, v, st, fl) => [bB u P ⟨false, some 5⟩, iB 0 h, iB x w, (b + 1, none), (c + 1, none)])
          (fun (t, v, st, fl) => t ≤ 64 ∧ v.length = 8 ∧ W32 v ∧ rounds (64 - t) t w v = rounds 64 0 w h) (fun (t, v, st, fl) => 64 - t) (0, h, false, false)
          ⟨Nat.zero_le _, hhl, hh32, rfl⟩ (.cons rfl (.cons rfl (.cons rfl (.cons rfl (.cons rfl (.cons rfl (.cons rfl (.nil _)))))))) rfl ?_
        rintro ⟨t, v, st, fl⟩ ⟨ht64, hvl, hv32, hvN⟩
        have ht64 : t ≤ 64 := ht64
        have hvl : v.length = 8 := hvl
        refine ab 1000 rfl trivial ?_
        refine S_dec rfl (fun hlt => ?_) (fun hlt => ?_)
        · have ht : t < 64 := by omega
          obtain ⟨v0, v1, v2, v3, v4, v5, v6, v7, rfl⟩ : ∃ v0 v1 v2 v3 v4 v5 v6 v7, v = [v0, v1, v2, v3, v4, v5, v6, v7] := by
            match v, hvl with
            | [v0, v1, v2, v3, v4, v5, v6, v7], _ => exact ⟨_, _, _, _, _, _, _, _, rfl⟩
          have q0 : v0 < M32 := hv32 _ (by simp)
          have q1 : v1 < M32 := hv32 _ (by simp)
          have q2 : v2 < M32 := hv32 _ (by simp)
          have q3 : v3 < M32 := hv32 _ (by simp)
          have q4 : v4 < M32 := hv32 _ (by simp)
          have q5 : v5 < M32 := hv32 _ (by simp)
          have q6 : v6 < M32 := hv32 _ (by simp)
          have q7 : v7 < M32 := hv32 _ (by simp)
          have qn : 4294967295 - v4 < M32 := by simp only [M32]; omega
          obtain ⟨kt, hkt⟩ : ∃ kt, kt = kTab.getD t 0 := ⟨_, rfl⟩
          obtain ⟨wt, hwt⟩ : ∃ wt, wt = w.getD t 0 := ⟨_, rfl⟩
          have qk : kt < M32 := by rw [hkt]; exact kTab32.getD _
          have qw : wt < M32 := by rw [hwt]; exact hw32.getD _
          have hkg : (ints kTab)[(t : Int).toNat]? = some (.int .i64 (kt : Nat)) := by rw [Int.toNat_natCast, hkt]; exact ints_get (by show t < 64; exact ht)
          have hwg : ((ints w).drop (offN 0 (mulN (t : Int).toNat 1)))[0]? = some (.int .i64 (wt : Nat)) := by
            rw [offN_eq, mulN_eq, Int.toNat_natCast, Nat.mul_one, Nat.zero_add, hwt, ints_ld (by omega)]
          have hnw : IntKind.i64.wrap (4294967295 - (v4 : Int)) = ((4294967295 - v4 : Nat) : Int) := w64 (by simp only [M32] at q4; omega) (by omega)
          have t1 : 0 ≤ (t : Int) ∧ (t : Int) < 64 := by omega
          have t2 : 64 - (t + 1) < 64 - t ∧ t + 1 ≤ 64 := by omega
          have t3 : AV.int .i64 (IntKind.i64.wrap ((t : Int) + 1)) = .int .i64 ((t + 1 : Nat) : Int) := ai64 rfl (by omega)
          have t4 : 64 - t = (64 - (t + 1)) + 1 := by omega
          have xor2c : ∀ {a b : Nat}, a < M32 → b < M32 → Calc cx 116 [.sl true true 1 (ints [a, b])] (.int .i64 (a ^^^ b : Nat)) := fun {a b} ha hb => by
            have := xor_ok (st := true) (fl := true) [a, b] (by intro y hy; simp at hy; rcases hy with rfl | rfl; exact ha; exact hb) (by simp)
            rwa [xorL_two ha hb] at this
          have xor3c : ∀ {a b c : Nat}, a < M32 → b < M32 → c < M32 → Calc cx 116 [.sl true true 1 (ints [a, b, c])] (.int .i64 (a ^^^ b ^^^ c : Nat)) := fun {a b c} ha hb hc => by
            have := xor_ok (st := true) (fl := true) [a, b, c] (by intro y hy; simp at hy; rcases hy with rfl | rfl | rfl; exact ha; exact hb; exact hc) (by simp)
            rwa [xorL_three ha hb hc] at this
          refine ab 1000 rfl trivial ?_
          have z0 : (0 : Int) ≤ 0 := Int.le_refl _
          have z1 : (0 : Int) ≤ 1 := by decide
          have z2 : (0 : Int) ≤ 2 := by decide
          have z3 : (0 : Int) ≤ 3 := by decide
          have z4 : (0 : Int) ≤ 4 := by decide
          have z5 : (0 : Int) ≤ 5 := by decide
          have z6 : (0 : Int) ≤ 6 := by decide
          have z7 : (0 : Int) ≤ 7 := by decide
          have i2 : ∀ {σ : Heap} {a b : Nat}, Frzs σ [.int .i64 (a : Nat), .int .i64 (b : Nat)] [.int .i64 (a : Nat), .int .i64 (b : Nat)] := .cons (.refl .int) (.cons (.refl .int) (.nil _))
          have sl3 : ∀ {σ : Heap} {a b c : Nat}, Frzs σ [.sl true true 1 (ints [a, b, c])] [.sl true true 1 (ints [a, b, c])] := fun {σ a b c} => .cons (.refl (.sl (fun h => by cases h) (ints_any _))) (.nil _)
          have sl2 : ∀ {σ : Heap} {a b : Nat}, Frzs σ [.sl true true 1 (ints [a, b])] [.sl true true 1 (ints [a, b])] := fun {σ a b} => .cons (.refl (.sl (fun h => by cases h) (ints_any _))) (.nil _)
          refine S_draw 8 [] [.int .i64 (v0 : Nat), .int .i64 (v4 : Nat)] rfl rfl rfl rfl ⟨rfl, rfl, z0, rfl, rfl, rfl, rfl, z4, rfl, rfl, rfl, rfl, trivial⟩ ?_
          obtain ⟨ch, hch⟩ : ∃ ch, ch = (v4 &&& v5) ^^^ ((4294967295 - v4) &&& v6) := ⟨_, rfl⟩
          have qch : ch < M32 := by rw [hch]; exact xor_lt (and_lt q4) (and_lt qn)
          refine ab 1000 rfl trivial ?_
          refine S_draw 14 [] [.int .i64 (v5 : Nat), .int .i64 (v4 &&& v5 : Nat), .int .i64 (v6 : Nat), .int .i64 ((4294967295 - v4) &&& v6 : Nat), .int .i64 (ch : Nat)] rfl rfl rfl rfl
            ⟨rfl, rfl, rfl, z5, rfl, rfl, ⟨_, And_ok v4 v5 q4 q5, i2⟩, rfl, rfl, rfl, rfl, z6, rfl, rfl, ⟨_, And_ok (4294967295 - v4) v6 qn q6, .cons (by show Frz false _ (.int .i64 (IntKind.i64.wrap (4294967295 - (v4 : Int)))) _; rw [hnw]; exact .refl .int) (.cons (.refl .int) (.nil _))⟩, rfl, ⟨_, (by rw [hch]; exact xor2c (and_lt q4) (and_lt qn)), sl2⟩, rfl, trivial⟩ ?_
          refine ab 1000 rfl trivial ?_
          obtain ⟨hs5, hs5l⟩ := sum5 q7 (Sig1_lt q4) qch qk qw
          obtain ⟨U, hU⟩ : ∃ U, U = (v7 + Sig1 v4 + ch + kt + wt) % M32 := ⟨_, rfl⟩
          have qU : U < M32 := by rw [hU]; exact mod_lt _
          refine S_draw 26 [] [.int .i64 (v7 : Nat), .int .i64 (rotr v4 6 : Nat), .int .i64 (rotr v4 11 : Nat), .int .i64 (rotr v4 25 : Nat), .int .i64 (Sig1 v4 : Nat), .int .i64 (kt : Nat), .top, .int .i64 (wt : Nat), .int .i64 (U : Nat)] rfl rfl rfl rfl
            ⟨rfl, rfl, z7, rfl, rfl, rfl, ⟨_, Right_ok v4 6 q4 (by decide) (by decide), i2⟩, rfl, ⟨_, Right_ok v4 11 q4 (by decide) (by decide), i2⟩, rfl, ⟨_, Right_ok v4 25 q4 (by decide) (by decide), i2⟩, rfl, ⟨_, xor3c (rotr_lt 6 q4) (rotr_lt 11 q4) (rotr_lt 25 q4), sl3⟩, rfl, rfl, rfl, rfl, rfl, rfl, t1.1, hkg, rfl, rfl, rfl, rfl, rfl, t1.1, t1.2, rfl, hwg, rfl, ⟨_, (by rw [hU]; exact Wrap_ok _ hs5l), .cons (by show Frz false _ (.int .i64 (IntKind.i64.wrap (IntKind.i64.wrap (IntKind.i64.wrap (IntKind.i64.wrap ((v7 : Int) + ((Sig1 v4 : Nat) : Int)) + (ch : Int)) + (kt : Int)) + (wt : Int)))) _; rw [hs5]; exact .refl .int) (.nil _)⟩, rfl, trivial⟩ ?_
          refine ab 1000 rfl trivial ?_
          obtain ⟨mo, hmo⟩ : ∃ mo, mo = (v0 &&& v1) ^^^ (v0 &&& v2) ^^^ (v1 &&& v2) := ⟨_, rfl⟩
          have qmo : mo < M32 := by rw [hmo]; exact xor_lt (xor_lt (and_lt q0) (and_lt q0)) (and_lt q1)
          refine S_draw 20 [] [.int .i64 (v1 : Nat), .int .i64 (v0 &&& v1 : Nat), .int .i64 (v2 : Nat), .int .i64 (v0 &&& v2 : Nat), .int .i64 (v1 : Nat), .int .i64 (v2 : Nat), .int .i64 (v1 &&& v2 : Nat), .int .i64 (mo : Nat)] rfl rfl rfl rfl
            ⟨rfl, rfl, rfl, z1, rfl, rfl, ⟨_, And_ok v0 v1 q0 q1, i2⟩, rfl, rfl, rfl, z2, rfl, rfl, ⟨_, And_ok v0 v2 q0 q2, i2⟩, rfl, rfl, z1, rfl, rfl, rfl, rfl, z2, rfl, rfl, ⟨_, And_ok v1 v2 q1 q2, i2⟩, rfl, ⟨_, (by rw [hmo]; exact xor3c (and_lt q0) (and_lt q0) (and_lt q1)), sl3⟩, rfl, trivial⟩ ?_
          refine ab 1000 rfl trivial ?_
          refine S_pure rfl rfl rfl (Right_ok v0 2 q0 (by decide) (by decide)) i2 ?_
          refine ab 1000 rfl trivial ?_
          refine S_pure rfl rfl rfl (Right_ok v0 13 q0 (by decide) (by decide)) i2 ?_
          refine ab 1000 rfl trivial ?_
          refine S_pure rfl rfl rfl (Right_ok v0 22 q0 (by decide) (by decide)) i2 ?_
          refine ab 1000 rfl trivial ?_
          refine S_pure rfl rfl rfl (xor3c (rotr_lt 2 q0) (rotr_lt 13 q0) (rotr_lt 22 q0)) sl3 ?_
          have hsm := (sum2 (Z := Sig0 v0) (a := mo) (Sig0_lt q0) (lt2 qmo)).1
          have qsm : Sig0 v0 + mo < M32 + M32 := Nat.add_lt_add (Sig0_lt q0) qmo
          refine ab 1000 rfl trivial ?_
          refine S_weak (fr' := [(3, .ms 0 u 0 P.length 1 false), (6, .sl true true 1 (ints kTab)), (7, .ms 1 0 0 8 1 true), (8, .int .i64 (64 * m : Nat)), (9, .ms 2 x 0 64 1 false), (17, .sl st fl 1 (ints [v0, v1, v2, v3, v4, v5, v6, v7])), (18, .int .i64 (t : Nat)), (22, .int .i64 (U : Nat)), (24, .int .i64 (Sig0 v0 + mo : Nat))]) (.cons rfl (.cons rfl (.cons rfl (.cons rfl (.cons rfl (.cons rfl (.cons rfl (.cons rfl (.cons (congrArg (AV.int .i64) hsm) (.nil _)))))))))) ?_
          obtain ⟨na, hna⟩ : ∃ na, na = (U + (Sig0 v0 + mo)) % M32 := ⟨_, rfl⟩
          obtain ⟨ne, hne⟩ : ∃ ne, ne = (v3 + U) % M32 := ⟨_, rfl⟩
          obtain ⟨hs6, hs6l⟩ := sum2 qU qsm
          obtain ⟨hs7, hs7l⟩ := sum2 q3 (lt2 qU)
          refine S_draw 30 [] [.int .i64 (na : Nat), .int .i64 (v0 : Nat), .int .i64 (v1 : Nat), .int .i64 (v2 : Nat), .int .i64 (v3 : Nat), .int .i64 (ne : Nat), .int .i64 (v4 : Nat), .int .i64 (v5 : Nat), .int .i64 (v6 : Nat)] rfl rfl rfl rfl
            ⟨rfl, rfl, rfl, ⟨_, (by rw [hna]; exact Wrap_ok _ hs6l), .cons (by show Frz false _ (.int .i64 (IntKind.i64.wrap ((U : Int) + ((Sig0 v0 + mo : Nat) : Int)))) _; rw [hs6]; exact .refl .int) (.nil _)⟩, rfl, rfl, z0, rfl, rfl, rfl, rfl, z1, rfl, rfl, rfl, rfl, z2, rfl, rfl, rfl, rfl, z3, rfl, rfl, rfl, rfl, ⟨_, (by rw [hne]; exact Wrap_ok _ hs7l), .cons (by show Frz false _ (.int .i64 (IntKind.i64.wrap ((v3 : Int) + (U : Int)))) _; rw [hs7]; exact .refl .int) (.nil _)⟩, rfl, rfl, z4, rfl, rfl, rfl, rfl, z5, rfl, rfl, rfl, rfl, z6, rfl, rfl, rfl, rfl, trivial⟩ ?_
          refine ab 1000 rfl trivial ?_
          have hro : round [v0, v1, v2, v3, v4, v5, v6, v7] (kt + wt) = [na, v0, v1, v2, ne, v4, v5, v6] := by rw [round_eq, hna, hne, hU, hch, hmo]
          refine S_round (t + 1, [na, v0, v1, v2, ne, v4, v5, v6], true, true) t2.1 ⟨t2.2, rfl, by rw [← hro]; exact round_lt _ hv32, ?_⟩ (.cons rfl (.cons rfl (.cons rfl (.cons rfl (.cons rfl (.cons rfl (.cons t3 (.nil _)))))))) rfl
          rw [t4, rounds, ← hkt, ← hwt, hro] at hvN
          exact hvN
        · have ht : t = 64 := by omega
          subst ht
          have hvE : v = rounds 64 0 w h := hvN
          have hblk : block h p = addW h v := by rw [block, hvE, ← hW]
          have hal := addW_len h v
          refine ab 1000 rfl trivial ?_
          refine S_while (α := Nat) (fun i => [(3, .ms 0 u 0 P.length 1 false), (6, .sl true true 1 (ints kTab)), (7, .ms 1 0 0 8 1 true), (8, .int .i64 (64 * m : Nat)), (17, .sl st fl 1 (ints v)), (25, .int .i64 (i : Nat))])
            (fun i => [bB u P ⟨false, some 5⟩, iB 0 ((addW h v).take i ++ h.drop i), iB x w, (b + 1, none), (c + 1, none)])
            (fun i => i ≤ 8) (fun i => 8 - i) 0 (Nat.zero_le _) (.cons rfl (.cons rfl (.cons rfl (.cons rfl (.cons rfl (.cons rfl (.nil _))))))) (by simp) ?_
          intro i hi
          refine ab 1000 rfl trivial ?_
          refine S_dec rfl (fun hlt => ?_) (fun hlt => ?_)
          · have hi8 : i < 8 := by omega
            have c1 : 0 ≤ (i : Int) ∧ (i : Int) < 8 := by omega
            have c2 : 8 - (i + 1) < 8 - i := by omega
            have c3 : AV.int .i64 (IntKind.i64.wrap ((i : Int) + 1)) = .int .i64 ((i + 1 : Nat) : Int) := ai64 rfl (by omega)
            have htk : ((addW h v).take i).length = i := by rw [List.length_take, hal]; omega
            have hil : i < h.length := by omega
            have hiv : i < v.length := by omega
            have hdr : h.drop i = h.getD i 0 :: h.drop (i + 1) := by
              rw [List.drop_eq_getElem_cons hil]
              simp [List.getD, hil]
            have hld : ((ints ((addW h v).take i ++ h.drop i)).drop (offN 0 (mulN (i : Int).toNat 1)))[0]? = some (.int .i64 (h.getD i 0 : Nat)) := by
              have hgi : ((addW h v).take i ++ h.drop i).getD i 0 = h.getD i 0 := by
                rw [hdr]
                have h2 := getD_mid ((addW h v).take i) (h.getD i 0) (h.drop (i + 1))
                rwa [htk] at h2
              rw [offN_eq, mulN_eq, Int.toNat_natCast, Nat.mul_one, Nat.zero_add, ints_ld (by rw [List.length_append, htk, List.length_drop]; omega), hgi]
            have hvg : (ints v)[(i : Int).toNat]? = some (.int .i64 (v.getD i 0 : Nat)) := by rw [Int.toNat_natCast]; exact ints_get hiv
            obtain ⟨hh1, hhle⟩ := sum2 (hh32.getD i) (lt2 (hv32.getD i))
            have hst : offN 0 (mulN (i : Int).toNat 1) + 1 ≤ (ints ((addW h v).take i ++ h.drop i)).length := by
              rw [offN_eq, mulN_eq, Int.toNat_natCast, ints_len, List.length_append, htk, List.length_drop]; omega
            refine ab 1000 rfl trivial ?_
            refine S_draw 12 [] [.top, .int .i64 (h.getD i 0 : Nat), .int .i64 (v.getD i 0 : Nat), .int .i64 ((h.getD i 0 + v.getD i 0) % M32 : Nat)] rfl rfl rfl rfl
              ⟨rfl, rfl, rfl, rfl, rfl, c1.1, c1.2, rfl, hld, rfl, rfl, rfl, c1.1, hvg, rfl, rfl, ⟨_, Wrap_ok _ hhle, .cons (by show Frz false _ (.int .i64 (IntKind.i64.wrap (((h.getD i 0 : Nat) : Int) + ((v.getD i 0 : Nat) : Int)))) _; rw [hh1]; exact .refl .int) (.nil _)⟩, trivial⟩ ?_
            refine S_index .top rfl rfl rfl ⟨rfl, c1.1, c1.2, trivial⟩ ?_
            refine S_store rfl rfl rfl ⟨rfl, rfl, rfl, hst, trivial⟩ ?_
            refine ab 1000 rfl trivial ?_
            refine S_round (i + 1) c2 hi8 (.cons rfl (.cons rfl (.cons rfl (.cons rfl (.cons rfl (.cons c3 (.nil _))))))) ?_
            show [bB u P _, (0, some (Box.cells (setRange (ints ((addW h v).take i ++ h.drop i)) (offN 0 (mulN (i : Int).toNat 1)) [.int .i64 ((h.getD i 0 + v.getD i 0) % M32 : Nat)]) ⟨false, none⟩)), iB x w, (b + 1, none), (c + 1, none)] = _
            rw [offN_eq, mulN_eq, Int.toNat_natCast, Nat.mul_one, Nat.zero_add]
            have hta : (addW h v).take (i + 1) = (addW h v).take i ++ [(h.getD i 0 + v.getD i 0) % M32] := by
              rw [List.take_succ_eq_append_getElem (by rw [hal]; exact hi8)]
              simp [addW]
            have hsf := set_fill ((addW h v).take i) 0 ((h.getD i 0 + v.getD i 0) % M32) (h.getD i 0) (h.drop (i + 1))
            rw [htk] at hsf
            show [_, (0, some (Box.cells (List.set (ints ((addW h v).take i ++ h.drop i)) i (.int .i64 ((h.getD i 0 + v.getD i 0) % M32 : Nat))) _)), _, _, _] = _
            have hse : List.set (ints ((addW h v).take i ++ h.drop i)) i (.int .i64 ((h.getD i 0 + v.getD i 0) % M32 : Nat)) = ints ((addW h v).take (i + 1) ++ h.drop (i + 1)) := by
              rw [hta, hdr, List.append_assoc, List.singleton_append, ← hsf]
              simp only [ints, List.map_set]
            rw [hse]; rfl
          · have hi8 : i = 8 := by omega
            subst hi8
            have hfin : (addW h v).take 8 ++ h.drop 8 = block h p := by
              rw [List.take_of_length_le (by omega), List.drop_of_length_le (by omega), List.append_nil, hblk]
            rw [hfin]
            have d1 : P.length - 64 * (m + 1) < P.length - 64 * m ∧ 64 * (m + 1) ≤ P.length := by omega
            have d2 : AV.int .i64 (IntKind.i64.wrap (((64 * m : Nat) : Int) + 64)) = .int .i64 ((64 * (m + 1) : Nat) : Int) := ai64 (by omega) (by omega)
            have d3 : P.length / 64 - m = (P.length / 64 - (m + 1)) + 1 := by omega
            have d4 : 64 * m + 64 = 64 * (m + 1) := by omega
            refine S_drop (id := 2) rfl ?_ ⟨_, _, .inl rfl⟩
            refine ab 1000 rfl trivial ?_
            refine S_round (m + 1, block h p, x, b + 1, c + 1) d1.1 ⟨d1.2, block_len _ _, block_lt _ _, ?_⟩ (.cons rfl (.cons rfl (.cons rfl (.cons d2 (.nil _))))) rfl
            rw [← hN, d3, blocks, block_take, List.drop_drop, d4, hp]
    · have hm64 : 64 * m = P.length := by omega
      have hH : h = hashOf s := by
        rw [← hN, show P.length / 64 - m = 0 by omega]; rfl
      subst hH
      obtain ⟨HL, hHL⟩ : ∃ HL, HL = hashOf s := ⟨_, rfl⟩
      have hsh : sha s = HL.flatMap hexW := by rw [hHL]; rfl
      have hHl : HL.length = 8 := by rw [hHL]; exact hashOf_len s
      have hH32 : W32 HL := by rw [hHL]; exact hashOf_lt s
      rw [hsh]
      rw [← hHL] at *
      have hxl : ∀ n, (hexW n).length = 8 := fun n => by simp [hexW]
      have hfl : ∀ l : List Nat, (l.flatMap hexW).length = 8 * l.length := by
        intro l
        induction l with
        | nil => rfl
        | cons a r ih => rw [List.flatMap_cons, List.length_append, hxl, ih, List.length_cons]; omega
      refine ab 1000 rfl trivial ?_
      refine S_while (α := Nat) (fun i => [(7, .ms 1 0 0 8 1 true), (26, .str ((HL.take i).flatMap hexW)), (27, .int .i64 (i : Nat))]) (fun i => [bB u P ⟨false, some 5⟩, iB 0 HL, (a, none), (b, none), (c, none)])
        (fun i => i ≤ 8) (fun i => 8 - i) 0 (Nat.zero_le _) (.cons rfl (.cons rfl (.cons rfl (.nil _)))) rfl ?_
      intro i hi
      refine ab 1000 rfl trivial ?_
      refine S_dec rfl (fun hlt => ?_) (fun hlt => ?_)
      · have hi8 : i < 8 := by omega
        obtain ⟨nn, hnn⟩ : ∃ nn, nn = HL.getD i 0 := ⟨_, rfl⟩
        have qn : nn < M32 := by rw [hnn]; exact hH32.getD i
        have htl : ((HL.take i).flatMap hexW).length = 8 * i := by rw [hfl, List.length_take]; omega
        refine ab 1000 rfl trivial ?_
        refine S_while (α := Nat) (fun j => [(7, .ms 1 0 0 8 1 true), (26, .str ((HL.take i).flatMap hexW ++ (hexW nn).take j)), (27, .int .i64 (i : Nat)), (28, .int .i64 (7 - (j : Int)))]) (fun j => [bB u P ⟨false, some 5⟩, iB 0 HL, (a, none), (b, none), (c, none)])
          (fun j => j ≤ 8) (fun j => 8 - j) 0 (Nat.zero_le _) (.cons rfl (.cons (by simp; rfl) (.cons rfl (.cons rfl (.nil _))))) rfl ?_
        intro j hj
        refine ab 1000 rfl trivial ?_
        refine S_dec rfl (fun hlt => ?_) (fun hlt => ?_)
        · have hj8 : j < 8 := by omega
          have c1 : 0 ≤ (i : Int) ∧ (i : Int) < 8 := by omega
          have c2 : 8 - (j + 1) < 8 - j := by omega
          have hw4 : IntKind.i64.wrap (4 * (7 - (j : Int))) = ((4 * (7 - j) : Nat) : Int) := w64 (by omega) (by omega)
          have c3 : AV.int .i64 (IntKind.i64.wrap (7 - (j : Int) - 1)) = .int .i64 (7 - ((j + 1 : Nat) : Int)) := ai64i (by omega) (by omega)
          have c4 : 4 * (7 - j) ≤ 62 := by omega
          have hp0 : ((2 ^ (4 * (7 - j)) : Nat) : Int) ≠ 0 := by have := Nat.two_pow_pos (4 * (7 - j)); omega
          have hld : ((ints HL).drop (offN 0 (mulN (i : Int).toNat 1)))[0]? = some (.int .i64 (nn : Nat)) := by
            rw [offN_eq, mulN_eq, Int.toNat_natCast, Nat.mul_one, Nat.zero_add, hnn, ints_ld (by omega)]
          have e16 : (2 : Nat) ^ (4 * (7 - j)) = 16 ^ (7 - j) := by rw [show (16 : Nat) = 2 ^ 4 from rfl, ← Nat.pow_mul]
          have hdv : IntKind.i64.wrap ((nn : Int).tdiv ((2 ^ (4 * (7 - j)) : Nat) : Int)) = ((nn / 16 ^ (7 - j) : Nat) : Int) := by
            rw [← e16]; exact div32 qn
          have hm16 : (((nn / 16 ^ (7 - j) : Nat) : Int)).tmod 16 = ((nn / 16 ^ (7 - j) % 16 : Nat) : Int) := rfl
          have hlen : (((((HL.take i).flatMap hexW ++ (hexW nn).take j).length + 1 : Nat)) : Int) ≤ 9223372036854775807 := by
            rw [List.length_append, htl, List.length_take, hxl]; omega
          have hnx : (hexW nn).take (j + 1) = (hexW nn).take j ++ [hexC (nn / 16 ^ (7 - j) % 16)] := by
            rw [List.take_succ_eq_append_getElem (by rw [hxl]; exact hj8)]
            simp [hexW]
          refine ab 1000 rfl trivial ?_
          refine S_draw 13 [] [.top, .int .i64 (nn : Nat), .int .i64 ((2 ^ (4 * (7 - j)) : Nat) : Int), .str [hexC (nn / 16 ^ (7 - j) % 16)]] rfl rfl rfl rfl
            ⟨rfl, rfl, rfl, rfl, c1.1, c1.2, rfl, hld, rfl, rfl, ⟨_, Pow2_ok (4 * (7 - j)) c4, .cons (by show Frz false _ (.int .i64 (IntKind.i64.wrap (4 * (7 - (j : Int))))) _; rw [hw4]; exact .refl .int) (.nil _)⟩, rfl, hp0, rfl, by decide, ⟨_, HexDigit_ok (nn / 16 ^ (7 - j) % 16) (Nat.mod_lt _ (by decide)), .cons (by show Frz false _ (.int .i64 ((IntKind.i64.wrap ((nn : Int).tdiv ((2 ^ (4 * (7 - j)) : Nat) : Int))).tmod 16)) _; rw [hdv, hm16]; exact .refl .int) (.nil _)⟩, rfl, hlen, rfl, trivial⟩ ?_
          refine ab 1000 rfl trivial ?_
          exact S_round (j + 1) c2 hj8 (.cons rfl (.cons (by rw [hnx, ← List.append_assoc]; rfl) (.cons rfl (.cons c3 (.nil _))))) rfl
        · have hj8 : j = 8 := by omega
          subst hj8
          have hti : HL.take (i + 1) = HL.take i ++ [nn] := by
            rw [List.take_succ_eq_append_getElem (by omega), hnn]
            simp [List.getD, show i < HL.length by omega]
          have c3 : AV.int .i64 (IntKind.i64.wrap ((i : Int) + 1)) = .int .i64 ((i + 1 : Nat) : Int) := ai64 rfl (by omega)
          refine ab 1000 rfl trivial ?_
          refine S_round (i + 1) (by show 8 - (i + 1) < 8 - i; omega) hi8 (.cons rfl (.cons ?_ (.cons c3 (.nil _)))) rfl
          show AV.str ((HL.take i).flatMap hexW ++ (hexW nn).take 8) = .str ((HL.take (i + 1)).flatMap hexW)
          rw [hti, List.flatMap_append, List.take_of_length_le (l := hexW nn) (by rw [hxl]; exact Nat.le_refl _)]
          simp
      · have hi8 : i = 8 := by omega
        subst hi8
        refine ab 1000 rfl trivial ?_
        refine S_retc .str rfl trivial ?_
        show AV.str ((HL.take 8).flatMap hexW) = _
        rw [List.take_of_length_le (by omega)]
end Go.Proofs.YtjkeekbfgnmngaaGreatDoor
end
section
set_option linter.unusedVariables false
set_option linter.unusedSimpArgs false
set_option maxRecDepth 20000
namespace Go.Proofs.YtjkeekbfgnmngaaGreatDoor
open Go Go.Ab
def hexV (c : UInt8) : Nat := if c.toNat ≤ 57 then c.toNat - 48 else c.toNat - 87
theorem hexV_lt {c : UInt8} (h : hexB c = true) : hexV c < 16 := by
  unfold hexB at h; unfold hexV
  simp only [Bool.or_eq_true, Bool.and_eq_true, decide_eq_true_eq] at h
  split <;> omega
theorem hexOf_hexV {c : UInt8} (h : hexB c = true) : hexOf c.toNat = (hexV c : Int) := by
  unfold hexB at h; unfold hexV hexOf
  simp only [Bool.or_eq_true, Bool.and_eq_true, decide_eq_true_eq] at h
  split
  · rw [if_pos (by omega)]; omega
  · rw [if_pos (by omega), if_neg (by omega)]; omega
theorem lower_ok (c : Nat) (h1 : 97 ≤ c) (h2 : c ≤ 102) : Calc cx 183 [.int .u8 c] (.int .u8 c) :=
  pure_intro (fun a w => Tryz.call183 a w) Tryz.func183 rfl Tryz.ntmps183 rfl .int fun B => by
    refine ab 1000 rfl trivial ?_
    refine S_retc .int rfl trivial ?_
    have : c = 97 ∨ c = 98 ∨ c = 99 ∨ c = 100 ∨ c = 101 ∨ c = 102 := by omega
    rcases this with rfl | rfl | rfl | rfl | rfl | rfl <;> rfl
theorem parseI_ok (x y : UInt8) (hx : hexB x = true) (hy : hexB y = true) : Calc cx 179 [.str [x, y], .int .i64 16, .int .i64 8] (.tup [.int .u64 (16 * hexV x + hexV y : Nat), .nili]) :=
  pure_intro (fun a w => Tryz.call179 a w) Tryz.func179 rfl Tryz.ntmps179 rfl (.tup (by intro z hz; simp at hz; rcases hz with rfl | rfl; exact .int; exact .nili)) fun B => by
    have vx := hexV_lt hx
    have vy := hexV_lt hy
    refine ab 1000 rfl trivial ?_
    refine S_cond (b := false) rfl (fun h => by cases h) (fun _ => ?_)
    refine ab 1000 rfl trivial ?_
    refine S_guard rfl rfl rfl rfl (fun _ => ?_) (fun h => by cases h)
    refine ab 1000 rfl trivial ?_
    refine S_cond (b := true) rfl (fun _ => ?_) (fun h => by cases h)
    refine ab 1000 rfl trivial ?_
    refine S_cond (b := false) rfl (fun h => by cases h) (fun _ => ?_)
    refine ab 1000 rfl trivial ?_
    refine S_guard rfl rfl rfl rfl (fun h => by cases h) (fun _ => ?_)
    refine ab 1000 rfl trivial ?_
    refine S_cond (b := false) rfl (fun h => by cases h) (fun _ => ?_)
    refine ab 1000 rfl trivial ?_
    refine S_cond (b := false) rfl (fun h => by cases h) (fun _ => ?_)
    refine ab 1000 rfl trivial ?_
    refine S_cond (b := true) rfl (fun _ => ?_) (fun h => by cases h)
    refine ab 1000 rfl ⟨by decide, trivial⟩ ?_
    obtain ⟨val, hval⟩ : ∃ val : Nat → Nat, val = fun i => if i = 0 then 0 else if i = 1 then hexV x else 16 * hexV x + hexV y := ⟨_, rfl⟩
    have vlt : ∀ i, val i < 256 := fun i => by rw [hval]; simp only; split; omega; split <;> omega
    have hget : ∀ i, i < 2 → hexB ([x, y].getD i 0) = true ∧ val (i + 1) = 16 * val i + hexV ([x, y].getD i 0) := fun i hi => by
      have : i = 0 ∨ i = 1 := by omega
      rcases this with rfl | rfl
      · exact ⟨hx, by rw [hval]; simp [List.getD]⟩
      · exact ⟨hy, by rw [hval]; simp [List.getD]⟩
    refine S_while (α := Nat) (fun i => [(0, .str [x, y]), (1, .int .i64 16), (8, .bool false), (10, .int .u64 1152921504606846976), (11, .int .u64 255), (12, .bool false), (13, .int .u64 (val i : Nat)), (99, .sl true false 1 ([x, y].map byteAV)), (100, .int .i64 2), (101, .int .i64 (i : Nat))]) (fun _ => []) (fun i => i ≤ 2) (fun i => 2 - i) 0
      (Nat.zero_le _) (.cons rfl (.cons rfl (.cons rfl (.cons rfl (.cons rfl (.cons rfl (.cons (by rw [hval]; rfl) (.cons rfl (.cons rfl (.cons rfl (.nil _))))))))))) rfl ?_
    intro i hi
    refine ab 1000 rfl trivial ?_
    refine S_dec rfl (fun hlt => ?_) (fun hlt => ?_)
    · have hi2 : i < 2 := by omega
      obtain ⟨c, hc⟩ : ∃ c, c = [x, y].getD i 0 := ⟨_, rfl⟩
      obtain ⟨hcb, hnx⟩ := hget i hi2
      rw [← hc] at hcb hnx
      have hlt8 := hexV_lt hcb
      have hcb' := hcb
      unfold hexB at hcb'
      simp only [Bool.or_eq_true, Bool.and_eq_true, decide_eq_true_eq] at hcb'
      have hv := vlt i
      have hg : ([x, y].map byteAV)[(i : Int).toNat]? = some (byteAV c) := by
        rw [Int.toNat_natCast, hc]
        have : i = 0 ∨ i = 1 := by omega
        rcases this with rfl | rfl <;> rfl
      refine ab 1000 rfl trivial ?_
      refine S_index (byteAV c) rfl rfl rfl ⟨rfl, by omega, hg, trivial⟩ ?_
      refine ab 1000 rfl trivial ?_
      refine S_guard rfl rfl rfl rfl (fun h => ?_) (fun _ => ?_)
      · exfalso
        have h : ((c.toNat : Int) == 95) = true := h
        have : (c.toNat : Int) = 95 := by simpa using h
        omega
      refine ab 1000 rfl trivial ?_
      refine S_cond (b := false) rfl (fun h => by cases h) (fun _ => ?_)
      refine ab 1000 rfl trivial ?_
      refine S_guard rfl rfl rfl rfl (fun _ => ?_) (fun h => ?_)
      · refine ab 1000 rfl trivial ?_
        refine S_dec rfl (fun h57 => ?_) (fun h57 => ?_)
        · have h57 : c.toNat ≤ 57 := by have : (c.toNat : Int) ≤ 57 := h57; omega
          have hd : IntKind.u8.wrap ((c.toNat : Int) - 48) = ((hexV c : Nat) : Int) := by
            rw [hexV, if_pos h57]; exact wu8 (by omega) (by omega)
          refine ab 1000 rfl trivial ?_
          refine S_dec rfl (fun h => ?_) (fun _ => ?_)
          · exfalso
            have h : (16 : Int) ≤ IntKind.u8.wrap ((c.toNat : Int) - 48) := h
            rw [hd] at h; omega
          refine ab 1000 rfl trivial ?_
          refine S_dec rfl (fun h => ?_) (fun _ => ?_)
          · exfalso
            have h : (1152921504606846976 : Int) ≤ ((val i : Nat) : Int) := h
            omega
          have e1 : IntKind.u64.wrap (((val i : Nat) : Int) * 16) = ((16 * val i : Nat) : Int) := wu64 (by omega) (by omega)
          have e2 : IntKind.u64.wrap (IntKind.u8.wrap ((c.toNat : Int) - 48)) = ((hexV c : Nat) : Int) := by rw [hd]; exact wu64 rfl (by omega)
          have e3 : IntKind.u64.wrap (((16 * val i : Nat) : Int) + ((hexV c : Nat) : Int)) = ((val (i + 1) : Nat) : Int) := by rw [hnx]; exact wu64 (by omega) (by have := vlt (i + 1); omega)
          have h4 := vlt (i + 1)
          refine ab 1000 rfl trivial ?_
          refine S_guard rfl rfl rfl rfl (fun h => ?_) (fun _ => ?_)
          · exfalso
            have h : IntKind.u64.wrap (IntKind.u64.wrap (((val i : Nat) : Int) * 16) + IntKind.u64.wrap (IntKind.u8.wrap ((c.toNat : Int) - 48))) < IntKind.u64.wrap (((val i : Nat) : Int) * 16) := of_decide_eq_true h
            rw [e1, e2, e3] at h; omega
          refine ab 1000 rfl trivial ?_
          refine S_dec rfl (fun h => ?_) (fun _ => ?_)
          · exfalso
            have h : (255 : Int) < IntKind.u64.wrap (IntKind.u64.wrap (((val i : Nat) : Int) * 16) + IntKind.u64.wrap (IntKind.u8.wrap ((c.toNat : Int) - 48))) := h
            rw [e1, e2, e3] at h; omega
          refine ab 1000 rfl trivial ?_
          refine S_round (i + 1) (by show 2 - (i + 1) < 2 - i; omega) hi2 (.cons rfl (.cons rfl (.cons rfl (.cons rfl (.cons rfl (.cons rfl (.cons ?_ (.cons rfl (.cons rfl (.cons (ai64 rfl (by omega)) (.nil _))))))))))) rfl
          show AV.int .u64 (IntKind.u64.wrap (IntKind.u64.wrap (((val i : Nat) : Int) * 16) + IntKind.u64.wrap (IntKind.u8.wrap ((c.toNat : Int) - 48)))) = _
          rw [e1, e2, e3]
        · have h57 : ¬ c.toNat ≤ 57 := by have : ¬ (c.toNat : Int) ≤ 57 := h57; omega
          have h97 : 97 ≤ c.toNat ∧ c.toNat ≤ 102 := by omega
          have hd0 : IntKind.u8.wrap ((c.toNat : Int) - 97) = ((c.toNat - 97 : Nat) : Int) := wu8 (by omega) (by omega)
          have hd : IntKind.u8.wrap (IntKind.u8.wrap ((c.toNat : Int) - 97) + 10) = ((hexV c : Nat) : Int) := by
            rw [hd0, hexV, if_neg h57]; exact wu8 (by omega) (by omega)
          refine ab 1000 rfl trivial ?_
          refine S_pure rfl rfl rfl (lower_ok c.toNat h97.1 h97.2) (.cons (.refl .int) (.nil _)) ?_
          refine ab 1000 rfl trivial ?_
          refine S_guard rfl rfl rfl rfl (fun _ => ?_) (fun h => ?_)
          · refine ab 1000 rfl trivial ?_
            refine S_pure rfl rfl rfl (lower_ok c.toNat h97.1 h97.2) (.cons (.refl .int) (.nil _)) ?_
            refine ab 1000 rfl trivial ?_
            refine S_dec rfl (fun _ => ?_) (fun h => ?_)
            · refine ab 1000 rfl trivial ?_
              refine S_pure rfl rfl rfl (lower_ok c.toNat h97.1 h97.2) (.cons (.refl .int) (.nil _)) ?_
              refine ab 1000 rfl trivial ?_
              refine S_dec rfl (fun h => ?_) (fun _ => ?_)
              · exfalso
                have h : (16 : Int) ≤ IntKind.u8.wrap (IntKind.u8.wrap ((c.toNat : Int) - 97) + 10) := h
                rw [hd] at h; omega
              refine ab 1000 rfl trivial ?_
              refine S_dec rfl (fun h => ?_) (fun _ => ?_)
              · exfalso
                have h : (1152921504606846976 : Int) ≤ ((val i : Nat) : Int) := h
                omega
              have e1 : IntKind.u64.wrap (((val i : Nat) : Int) * 16) = ((16 * val i : Nat) : Int) := wu64 (by omega) (by omega)
              have e2 : IntKind.u64.wrap (IntKind.u8.wrap (IntKind.u8.wrap ((c.toNat : Int) - 97) + 10)) = ((hexV c : Nat) : Int) := by rw [hd]; exact wu64 rfl (by omega)
              have e3 : IntKind.u64.wrap (((16 * val i : Nat) : Int) + ((hexV c : Nat) : Int)) = ((val (i + 1) : Nat) : Int) := by rw [hnx]; exact wu64 (by omega) (by have := vlt (i + 1); omega)
              have h4 := vlt (i + 1)
              refine ab 1000 rfl trivial ?_
              refine S_guard rfl rfl rfl rfl (fun h => ?_) (fun _ => ?_)
              · exfalso
                have h : IntKind.u64.wrap (IntKind.u64.wrap (((val i : Nat) : Int) * 16) + IntKind.u64.wrap (IntKind.u8.wrap (IntKind.u8.wrap ((c.toNat : Int) - 97) + 10))) < IntKind.u64.wrap (((val i : Nat) : Int) * 16) := of_decide_eq_true h
                rw [e1, e2, e3] at h; omega
              refine ab 1000 rfl trivial ?_
              refine S_dec rfl (fun h => ?_) (fun _ => ?_)
              · exfalso
                have h : (255 : Int) < IntKind.u64.wrap (IntKind.u64.wrap (((val i : Nat) : Int) * 16) + IntKind.u64.wrap (IntKind.u8.wrap (IntKind.u8.wrap ((c.toNat : Int) - 97) + 10))) := h
                rw [e1, e2, e3] at h; omega
              refine ab 1000 rfl trivial ?_
              refine S_round (i + 1) (by show 2 - (i + 1) < 2 - i; omega) hi2 (.cons rfl (.cons rfl (.cons rfl (.cons rfl (.cons rfl (.cons rfl (.cons ?_ (.cons rfl (.cons rfl (.cons (ai64 rfl (by omega)) (.nil _))))))))))) rfl
              show AV.int .u64 (IntKind.u64.wrap (IntKind.u64.wrap (((val i : Nat) : Int) * 16) + IntKind.u64.wrap (IntKind.u8.wrap (IntKind.u8.wrap ((c.toNat : Int) - 97) + 10)))) = _
              rw [e1, e2, e3]
            · exfalso
              have h : ¬ (c.toNat : Int) ≤ 122 := h
              omega
          · exfalso
            have h : ¬ (97 : Int) ≤ (c.toNat : Int) := of_decide_eq_false h
            omega
      · exfalso
        have h : ¬ (48 : Int) ≤ (c.toNat : Int) := of_decide_eq_false h
        omega
    · have hi2 : i = 2 := by omega
      subst hi2
      refine ab 1000 rfl trivial ?_
      refine S_guard rfl rfl rfl rfl (fun h => by cases h) (fun _ => ?_)
      refine ab 1000 rfl trivial ?_
      refine S_cond (b := false) rfl (fun h => by cases h) (fun _ => ?_)
      refine ab 1000 rfl trivial ?_
      refine S_retc (.tup (by intro z hz; simp at hz; rcases hz with rfl | rfl; exact .int; exact .nili)) rfl trivial ?_
      rw [hval]; rfl
theorem parse_free {n : Int} : Free true (.tup [.int .u64 n, .nili]) := .tup (by intro z hz; simp at hz; rcases hz with rfl | rfl; exact .int; exact .nili)
theorem parse_ok (x y : UInt8) (hx : hexB x = true) (hy : hexB y = true) : Calc cx 173 [.str [x, y], .int .i64 16, .int .i64 8] (.tup [.int .u64 (16 * hexV x + hexV y : Nat), .nili]) :=
  pure_intro (fun a w => Tryz.call173 a w) Tryz.func173 rfl Tryz.ntmps173 rfl parse_free fun B => by
    refine ab 1000 rfl trivial ?_
    refine S_pure rfl rfl rfl (parseI_ok x y hx hy) (.cons (.refl .str) (.cons (.refl .int) (.cons (.refl .int) (.nil _)))) ?_
    refine ab 1000 rfl trivial ?_
    refine S_cond (b := false) rfl (fun h => by cases h) (fun _ => ?_)
    refine ab 1000 rfl trivial ?_
    exact S_retc parse_free rfl trivial rfl
def unhex : List UInt8 → List UInt8
  | x :: y :: r => UInt8.ofNat (16 * hexV x + hexV y) :: unhex r
  | _ => []
theorem unhex_len : ∀ (k : Nat) (d : List UInt8), d.length = 2 * k → (unhex d).length = k
  | 0, d, h => by
    obtain rfl := List.eq_nil_of_length_eq_zero (by simpa using h)
    rfl
  | k + 1, x :: y :: d, h => by
    rw [unhex, List.length_cons, unhex_len k d (by simp only [List.length_cons] at h; omega)]
  | k + 1, [x], h => by simp at h; omega
  | k + 1, [], h => by simp at h
theorem unhex_app : ∀ (k : Nat) (d e : List UInt8), d.length = 2 * k → unhex (d ++ e) = unhex d ++ unhex e
  | 0, d, e, h => by
    obtain rfl := List.eq_nil_of_length_eq_zero (by simpa using h)
    rfl
  | k + 1, x :: y :: d, e, h => by
    show unhex (x :: y :: (d ++ e)) = _
    rw [unhex, unhex_app k d e (by simp only [List.length_cons] at h; omega)]; rfl
  | k + 1, [x], e, h => by simp at h; omega
  | k + 1, [], e, h => by simp at h
def HexE (d : List UInt8) (k : Nat) : Prop := d.length = 2 * k ∧ ∀ c ∈ d, hexB c = true
theorem hexE_dig {d : List UInt8} (h : isDig d = true) : HexE d 32 := by
  unfold isDig at h
  simp only [Bool.and_eq_true, beq_iff_eq] at h
  exact ⟨h.2, List.all_eq_true.1 h.1⟩
theorem hexE_two {d : List UInt8} {k i : Nat} (h : HexE d k) (hi : i < k) : ∃ x y, d.drop (2 * i) = x :: y :: d.drop (2 * (i + 1)) ∧ hexB x = true ∧ hexB y = true ∧ d.getD (2 * i) 0 = x ∧ d.getD (2 * i + 1) 0 = y := by
  obtain ⟨h1, h2⟩ := h
  have a1 : 2 * i < d.length := by omega
  have a2 : 2 * i + 1 < d.length := by omega
  refine ⟨d[2 * i], d[2 * i + 1], ?_, h2 _ (List.getElem_mem _), h2 _ (List.getElem_mem _), by simp [List.getD, a1], by simp [List.getD, a2]⟩
  rw [List.drop_eq_getElem_cons a1, List.drop_eq_getElem_cons a2, show 2 * i + 1 + 1 = 2 * (i + 1) by omega]
theorem unhex_step {d : List UInt8} {k i : Nat} (h : HexE d k) (hi : i < k) : unhex (d.take (2 * (i + 1))) = unhex (d.take (2 * i)) ++ [UInt8.ofNat (16 * hexV (d.getD (2 * i) 0) + hexV (d.getD (2 * i + 1) 0))] := by
  obtain ⟨x, y, e, hx, hy, gx, gy⟩ := hexE_two h hi
  have ht : d.take (2 * (i + 1)) = d.take (2 * i) ++ [x, y] := by
    have h1 := List.take_append_drop (2 * i) d
    rw [e] at h1
    have h3 : (d.take (2 * i)).length = 2 * i := by rw [List.length_take]; have := h.1; omega
    conv => lhs; rw [← h1]
    rw [List.take_append, h3, List.take_of_length_le (by omega), show 2 * (i + 1) - 2 * i = 2 by omega]
    rfl
  rw [ht, unhex_app i _ _ (by rw [List.length_take]; have := h.1; omega), gx, gy]
  rfl
theorem bytes_ok (d : List UInt8) (k : Nat) (h : HexE d k) (hk : k ≤ 1000) : Calc cx 151 [.str d] (.str (unhex d)) :=
  pure_intro (fun a w => Tryz.call151 a w) Tryz.func151 rfl Tryz.ntmps151 rfl .str fun B => by
    have hdl := h.1
    refine ab 1000 rfl trivial ?_
    refine S_ghostF (t := 3) 1 ⟨false, some 5⟩ rfl rfl ⟨_, _, .inl rfl⟩ ?_
    refine S_while (α := Nat × Nat) (fun (i, u) => [(0, .str d), (3, .ms 0 u 0 i 1 false), (4, .int .i64 (2 * i : Nat))]) (fun (i, u) => [bB u (unhex (d.take (2 * i))) ⟨false, some 5⟩]) (fun (i, u) => i ≤ k) (fun (i, u) => k - i) (0, 0)
      (Nat.zero_le _) (.cons rfl (.cons rfl (.cons rfl (.nil _)))) rfl ?_
    rintro ⟨i, u⟩ hi
    have hi : i ≤ k := hi
    refine ab 1000 rfl trivial ?_
    refine S_dec rfl (fun hlt => ?_) (fun hlt => ?_)
    · have hik : i < k := by omega
      obtain ⟨x, y, e, hx, hy, gx, gy⟩ := hexE_two h hik
      have vx := hexV_lt hx
      have vy := hexV_lt hy
      have hw : IntKind.i64.wrap (((2 * i : Nat) : Int) + 2) = ((2 * i + 2 : Nat) : Int) := w64 (by omega) (by omega)
      have hcut : cutL (some ((2 * i : Nat) : Int)) (some (IntKind.i64.wrap (((2 * i : Nat) : Int) + 2))) d = [x, y] := by
        rw [hw]
        show (d.take ((2 * i + 2 : Nat) : Int).toNat).drop ((2 * i : Nat) : Int).toNat = _
        rw [Int.toNat_natCast, Int.toNat_natCast, List.drop_take, e, show 2 * i + 2 - 2 * i = 2 by omega]
        rfl
      have hul : (unhex (d.take (2 * i))).length = i := unhex_len i _ (by rw [List.length_take]; omega)
      have hst := unhex_step h hik
      rw [gx, gy] at hst
      refine ab 1000 rfl ⟨by rw [hw]; omega, by rw [hw]; omega, by omega, trivial⟩ ?_
      refine S_pure rfl rfl rfl (parse_ok x y hx hy) (.cons (by show Frz false _ (.str (cutL (some ((2 * i : Nat) : Int)) (some (IntKind.i64.wrap (((2 * i : Nat) : Int) + 2))) d)) _; rw [hcut]; exact .refl .str) (.cons (.refl .int) (.cons (.refl .int) (.nil _)))) ?_
      have hval : AV.int .u8 (IntKind.u8.wrap ((16 * hexV x + hexV y : Nat) : Int)) = byteAV (UInt8.ofNat (16 * hexV x + hexV y)) := by
        rw [wu8 rfl (by omega)]
        exact byteAV_of rfl (by omega)
      refine ab 1000 rfl ⟨?_, ?_, ?_, rfl, rfl, ?_, ?_, rfl, trivial⟩ ?_
      · show i + 1 ≤ 9223372036854775807; omega
      · show (i + 1) * 1 ≤ 140737488355328; omega
      · show 0 + i * 1 = ((unhex (d.take (2 * i))).map byteAV).length; rw [List.length_map, hul]; omega
      · exact allOne_mem (cs := [.int .u8 _]) rfl
      · exact allOne_mem (cs := [.int .u8 _]) rfl
      refine S_round (i + 1, u + 1) (by show k - (i + 1) < k - i; omega) hik (.cons rfl (.cons rfl (.cons (ai64 (by omega) (by omega)) (.nil _)))) ?_
      show [(u + 1, some (Box.cells ((unhex (d.take (2 * i))).map byteAV ++ [AV.int .u8 (IntKind.u8.wrap ((16 * hexV x + hexV y : Nat) : Int))]) _))] = [bB (u + 1) (unhex (d.take (2 * (i + 1)))) _]
      rw [hval, hst]
      simp only [bB, List.map_append, List.map_cons, List.map_nil]
      rfl
    · have hik : i = k := by omega
      subst hik
      have hdt : d.take (2 * i) = d := List.take_of_length_le (by omega)
      rw [hdt]
      have hul : (unhex d).length = i := unhex_len i _ hdl
      refine ab 1000 rfl ⟨?_, ?_, rfl, rfl, trivial⟩ ?_
      · intro x hx
        exact bytes_isByte _ x (List.mem_of_mem_drop (List.mem_of_mem_take hx))
      · show 0 + i ≤ ((unhex d).map byteAV).length
        rw [List.length_map, hul]; omega
      refine S_retc .str rfl trivial ?_
      show AV.str (((((unhex d).map byteAV).drop 0).take i).map Ab.byteOf) = _
      rw [List.drop_zero, List.take_of_length_le (by rw [List.length_map, hul]; exact Nat.le_refl _), bytes_of]
def pairT (a b : List UInt8) : List UInt8 := 1 :: (unhex a ++ unhex b)
def pairS (a b : List UInt8) : List UInt8 := sha (pairT a b)
theorem pairT_len {a b : List UInt8} {k j : Nat} (ha : HexE a k) (hb : HexE b j) : (pairT a b).length = k + j + 1 := by
  rw [pairT, List.length_cons, List.length_append, unhex_len k a ha.1, unhex_len j b hb.1]
theorem pair_ok (a b : List UInt8) (k j : Nat) (ha : HexE a k) (hb : HexE b j) (hk : k ≤ 1000) (hj : j ≤ 1000) : Calc cx 108 [.str a, .str b] (.str (pairS a b)) :=
  pure_intro (fun a w => Tryz.call108 a w) Tryz.func108 rfl Tryz.ntmps108 rfl .str fun B => by
    have la := unhex_len k a ha.1
    have lb := unhex_len j b hb.1
    refine ab 1000 rfl trivial ?_
    refine S_pure rfl rfl rfl (bytes_ok a k ha hk) (.cons (.refl .str) (.nil _)) ?_
    refine ab 1000 rfl ⟨?_, trivial⟩ ?_
    · show ((1 + (unhex a).length : Nat) : Int) ≤ 9223372036854775807; omega
    refine S_pure rfl rfl rfl (bytes_ok b j hb hj) (.cons (.refl .str) (.nil _)) ?_
    refine ab 1000 rfl ⟨?_, trivial⟩ ?_
    · show (((([1] : List UInt8) ++ unhex a).length + (unhex b).length : Nat) : Int) ≤ 9223372036854775807
      rw [List.length_append]; simp only [List.length_cons, List.length_nil]; omega
    have hp := pairT_len ha hb
    refine S_pure rfl rfl rfl (Sum_ok (pairT a b) (by omega)) (.cons ?_ (.nil _)) ?_
    · show Frz false _ (.str (([1] ++ unhex a) ++ unhex b)) (.str (1 :: (unhex a ++ unhex b)))
      rw [List.append_assoc]; exact .refl .str
    refine ab 1000 rfl trivial ?_
    exact S_retc .str rfl trivial rfl
theorem pairS_dig (a b : List UInt8) : isDig (pairS a b) = true := isDig_sha _
theorem PairOf_ok (a b : List UInt8) (ha : isDig a = true) (hb : isDig b = true) : Calc cx 86 [.str a, .str b] (.str (pairS a b)) :=
  pure_intro (fun a w => Tryz.call86 a w) Tryz.func86 rfl Tryz.ntmps86 rfl .str fun B => by
    have h1 := hexE_dig ha
    have h2 := hexE_dig hb
    obtain ⟨d, hd⟩ : ∃ d, d = a ++ b := ⟨_, rfl⟩
    have hE : HexE d 64 := ⟨by rw [hd, List.length_append, h1.1, h2.1], fun c hc => by
      rw [hd] at hc
      rcases List.mem_append.1 hc with h | h
      · exact h1.2 c h
      · exact h2.2 c h⟩
    have hT : pairT a b = 1 :: unhex d := by rw [hd, unhex_app 32 a b h1.1]; rfl
    have hdl := hE.1
    refine go (M := [8]) 1000 rfl ⟨?_, trivial⟩ ?_
    · show ((a.length + b.length : Nat) : Int) ≤ 9223372036854775807; have := h1.1; have := h2.1; omega
    refine S_unfull (t := 5) rfl ⟨_, _, .inl rfl⟩ ?_
    refine S_while (α := Nat × Nat) (fun (i, u) => [(5, .ms 0 u 0 (i + 1) 1 false), (6, .str d), (7, .int .i64 (2 * i : Nat))]) (fun (i, u) => [bB u (1 :: unhex (d.take (2 * i))) ⟨false, some 5⟩]) (fun (i, u) => i ≤ 64) (fun (i, u) => 64 - i) (0, 0)
      (Nat.zero_le _) (.cons rfl (.cons (by rw [hd]; rfl) (.cons rfl (.nil _)))) rfl ?_
    rintro ⟨i, u⟩ hi
    have hi : i ≤ 64 := hi
    refine ab 1000 rfl trivial ?_
    refine S_dec rfl (fun hlt => ?_) (fun hlt => ?_)
    · have hik : i < 64 := by omega
      obtain ⟨x, y, e, hx, hy, gx, gy⟩ := hexE_two hE hik
      have vx := hexV_lt hx
      have vy := hexV_lt hy
      have hxo := hexOf_hexV hx
      have hyo := hexOf_hexV hy
      have hw : IntKind.i64.wrap (((2 * i : Nat) : Int) + 1) = ((2 * i + 1 : Nat) : Int) := w64 (by omega) (by omega)
      have hul : (unhex (d.take (2 * i))).length = i := unhex_len i _ (by rw [List.length_take]; omega)
      have hst := unhex_step hE hik
      rw [gx, gy] at hst
      have b1 : 0 ≤ ((2 * i : Nat) : Int) ∧ ((2 * i : Nat) : Int) < (d.length : Int) := by omega
      have b2 : 0 ≤ IntKind.i64.wrap (((2 * i : Nat) : Int) + 1) ∧ IntKind.i64.wrap (((2 * i : Nat) : Int) + 1) < (d.length : Int) := by rw [hw]; omega
      have g1 : (((d.getD ((2 * i : Nat) : Int).toNat 0).toNat : Nat) : Int) = (x.toNat : Int) := by rw [Int.toNat_natCast, gx]
      have g2 : (((d.getD (IntKind.i64.wrap (((2 * i : Nat) : Int) + 1)).toNat 0).toNat : Nat) : Int) = (y.toNat : Int) := by rw [hw, Int.toNat_natCast, gy]
      have e1 : IntKind.i64.wrap (16 * ((hexV x : Nat) : Int)) = ((16 * hexV x : Nat) : Int) := w64 (by omega) (by omega)
      have e2 : IntKind.i64.wrap (((16 * hexV x : Nat) : Int) + ((hexV y : Nat) : Int)) = ((16 * hexV x + hexV y : Nat) : Int) := w64 (by omega) (by omega)
      have hval : AV.int .u8 (IntKind.u8.wrap (IntKind.i64.wrap (IntKind.i64.wrap (16 * ((hexV x : Nat) : Int)) + ((hexV y : Nat) : Int)))) = byteAV (UInt8.ofNat (16 * hexV x + hexV y)) := by
        rw [e1, e2, wu8 rfl (by omega)]
        exact byteAV_of rfl (by omega)
      have hHx := HexOf_ok x.toNat x.toNat_lt
      have hHy := HexOf_ok y.toNat y.toNat_lt
      rw [hxo] at hHx
      rw [hyo] at hHy
      refine ab 1000 rfl trivial ?_
      refine S_draw 14 [] [.int .i64 (hexV x : Nat), .int .i64 (hexV y : Nat)] rfl rfl rfl rfl
        ⟨rfl, rfl, rfl, rfl, b1.1, b1.2, ⟨_, hHx, .cons (by show Frz false _ (.int .u8 (((d.getD ((2 * i : Nat) : Int).toNat 0).toNat : Nat) : Int)) _; rw [g1]; exact .refl .int) (.nil _)⟩, rfl, rfl, rfl, rfl, rfl, b2.1, b2.2, ⟨_, hHy, .cons (by show Frz false _ (.int .u8 (((d.getD (IntKind.i64.wrap (((2 * i : Nat) : Int) + 1)).toNat 0).toNat : Nat) : Int)) _; rw [g2]; exact .refl .int) (.nil _)⟩, rfl, rfl, rfl, trivial⟩ ?_
      refine ab 1000 rfl ⟨?_, ?_, ?_, rfl, rfl, ?_, ?_, rfl, trivial⟩ ?_
      · show i + 1 + 1 ≤ 9223372036854775807; omega
      · show (i + 1 + 1) * 1 ≤ 140737488355328; omega
      · show 0 + (i + 1) * 1 = ((1 :: unhex (d.take (2 * i))).map byteAV).length; rw [List.length_map, List.length_cons, hul]; omega
      · exact allOne_mem (cs := [.int .u8 _]) rfl
      · exact allOne_mem (cs := [.int .u8 _]) rfl
      refine S_round (i + 1, u + 1) (by show 64 - (i + 1) < 64 - i; omega) hik (.cons rfl (.cons rfl (.cons (ai64 (by omega) (by omega)) (.nil _)))) ?_
      show [(u + 1, some (Box.cells ((1 :: unhex (d.take (2 * i))).map byteAV ++ [AV.int .u8 (IntKind.u8.wrap (IntKind.i64.wrap (IntKind.i64.wrap (16 * ((hexV x : Nat) : Int)) + ((hexV y : Nat) : Int))))]) _))] = [bB (u + 1) (1 :: unhex (d.take (2 * (i + 1)))) _]
      rw [hval, hst]
      simp only [bB, List.map_append, List.map_cons, List.map_nil, List.cons_append]
      rfl
    · have hik : i = 64 := by omega
      subst hik
      have hdt : d.take (2 * 64) = d := List.take_of_length_le (by omega)
      rw [hdt, ← hT]
      have hpl := pairT_len h1 h2
      refine ab 1000 rfl ⟨?_, ?_, rfl, rfl, trivial⟩ ?_
      · intro x hx
        exact bytes_isByte _ x (List.mem_of_mem_drop (List.mem_of_mem_take hx))
      · show 0 + (64 + 1) ≤ ((pairT a b).map byteAV).length
        rw [List.length_map, hpl]; decide
      have hcv : ((((pairT a b).map byteAV).drop 0).take (64 + 1)).map Ab.byteOf = pairT a b := by
        rw [List.drop_zero, List.take_of_length_le (by rw [List.length_map, hpl]; decide), bytes_of]
      refine S_pure rfl rfl rfl (SumR_ok (pairT a b) (by omega)) (.cons (by show Frz false _ (.str (((((pairT a b).map byteAV).drop 0).take (64 + 1)).map Ab.byteOf)) _; rw [hcv]; exact .refl .str) (.nil _)) ?_
      refine ab 1000 rfl trivial ?_
      exact S_retc .str rfl trivial rfl
end Go.Proofs.YtjkeekbfgnmngaaGreatDoor
end
section
set_option linter.unusedVariables false
set_option linter.unusedSimpArgs false
set_option maxRecDepth 20000
namespace Go.Proofs.YtjkeekbfgnmngaaGreatDoor
open Go Go.Ab
def halfN (n : Nat) : Nat := 2 ^ Nat.log2 (n - 1)
theorem halfN_spec {n : Nat} (h : 2 ≤ n) : 1 ≤ halfN n ∧ halfN n < n ∧ n ≤ 2 * halfN n := by
  unfold halfN
  have h1 := Nat.log2_self_le (n := n - 1) (by omega)
  have h2 := Nat.lt_log2_self (n := n - 1)
  have h3 := Nat.two_pow_pos (Nat.log2 (n - 1))
  rw [Nat.pow_succ] at h2
  omega
theorem halfN_of {n k : Nat} (h1 : 2 ^ k < n) (h2 : n ≤ 2 * 2 ^ k) : halfN n = 2 ^ k := by
  unfold halfN
  have h0 := Nat.two_pow_pos k
  have : Nat.log2 (n - 1) = k := by
    rw [Nat.log2_eq_iff (by omega)]
    rw [Nat.pow_succ]; omega
  rw [this]
def len8 (x : Nat) : Nat := if x = 0 then 0 else Nat.log2 x + 1
def T8 : List UInt8 := [0, 1, 2, 2, 3, 3, 3, 3, 4, 4, 4, 4, 4, 4, 4, 4] ++ List.replicate 16 5 ++ List.replicate 32 6 ++ List.replicate 64 7 ++ List.replicate 128 8
theorem T8_len8 : ∀ x, x < 256 → (T8.getD x 0).toNat = len8 x := by decide +kernel
theorem len64_ok (x : Nat) (hx : x < 65536) : Calc cx 136 [.int .u64 x] (.int .i64 (len8 x : Nat)) :=
  pure_intro (fun a w => Tryz.call136 a w) Tryz.func136 rfl Tryz.ntmps136 rfl .int fun B => by
    refine ab 1000 rfl trivial ?_
    refine S_dec rfl (fun h => ?_) (fun _ => ?_)
    · exfalso
      have h : (4294967296 : Int) ≤ (x : Int) := h
      omega
    refine ab 1000 rfl trivial ?_
    refine S_dec rfl (fun h => ?_) (fun _ => ?_)
    · exfalso
      have h : (65536 : Int) ≤ (x : Int) := h
      omega
    refine ab 1000 rfl trivial ?_
    refine S_dec rfl (fun h => ?_) (fun h => ?_)
    · have h : 256 ≤ x := by have : (256 : Int) ≤ (x : Int) := h; omega
      have hs : IntKind.u8.wrap ((x : Int).fdiv (2 ^ (min (8 : Int).toNat IntKind.u64.bits))) = ((x / 256 : Nat) : Int) := by
        rw [show min (8 : Int).toNat IntKind.u64.bits = 8 from rfl, shr_nat x 8]
        exact wu8 rfl (by omega)
      refine ab 1000 rfl ⟨by rw [hs]; show ((x / 256 : Nat) : Int) < 256; omega, by rw [hs]; omega, by decide, trivial⟩ ?_
      refine S_retc .int rfl trivial ?_
      show AV.int .i64 (IntKind.i64.wrap (IntKind.i64.wrap (0 + 8) + IntKind.i64.wrap (((T8.getD (IntKind.u8.wrap ((x : Int).fdiv (2 ^ (min (8 : Int).toNat IntKind.u64.bits)))).toNat 0).toNat : Nat) : Int))) = _
      rw [hs, Int.toNat_natCast, T8_len8 _ (by omega)]
      have hl : len8 x = 8 + len8 (x / 256) := by
        unfold len8
        rw [if_neg (by omega), if_neg (by omega)]
        have h2 : Nat.log2 x = Nat.log2 (x / 256) + 8 := by
          rw [Nat.log2_eq_iff (by omega)]
          have a1 := Nat.log2_self_le (n := x / 256) (by omega)
          have a2 := Nat.lt_log2_self (n := x / 256)
          rw [Nat.pow_succ] at a2
          rw [Nat.pow_add, Nat.pow_add, Nat.pow_add]
          omega
        omega
      have hb : len8 (x / 256) ≤ 16 := by
        have : Nat.log2 (x / 256) < 9 := by
          by_cases h0 : x / 256 = 0
          · rw [h0]; decide
          · exact (Nat.log2_lt h0).2 (by omega)
        unfold len8; split <;> omega
      rw [w64 (x := ((len8 (x / 256) : Nat) : Int)) rfl (by omega)]
      exact ai64 (by rw [hl]; rfl) (by omega)
    · have h : x < 256 := by have : ¬ (256 : Int) ≤ (x : Int) := h; omega
      have hs : IntKind.u8.wrap (x : Int) = (x : Int) := wu8 rfl (by omega)
      refine ab 1000 rfl ⟨by rw [hs]; show (x : Int) < 256; omega, by rw [hs]; omega, trivial⟩ ?_
      refine S_retc .int rfl trivial ?_
      show AV.int .i64 (IntKind.i64.wrap (0 + IntKind.i64.wrap (((T8.getD (IntKind.u8.wrap (x : Int)).toNat 0).toNat : Nat) : Int))) = _
      rw [hs, Int.toNat_natCast, T8_len8 _ h]
      have hb : len8 x ≤ 16 := by
        have : Nat.log2 x < 9 := by
          by_cases h0 : x = 0
          · rw [h0]; decide
          · exact (Nat.log2_lt h0).2 (by omega)
        unfold len8; split <;> omega
      rw [w64 (x := ((len8 x : Nat) : Int)) rfl (by omega)]
      exact ai64 (by omega) (by omega)
theorem len_ok (x : Nat) (hx : x < 65536) : Calc cx 99 [.int .u64 x] (.int .i64 (len8 x : Nat)) :=
  pure_intro (fun a w => Tryz.call99 a w) Tryz.func99 rfl Tryz.ntmps99 rfl .int fun B => by
    refine ab 1000 rfl trivial ?_
    refine S_cond (b := false) rfl (fun h => by cases h) (fun _ => ?_)
    refine ab 1000 rfl trivial ?_
    refine S_pure rfl rfl rfl (len64_ok x hx) (.cons (.refl .int) (.nil _)) ?_
    refine ab 1000 rfl trivial ?_
    exact S_retc .int rfl trivial rfl
theorem half_ok (n : Nat) (h2 : 2 ≤ n) (hn : n ≤ 65536) : Calc cx 79 [.int .i64 n] (.int .i64 (halfN n : Nat)) :=
  pure_intro (fun a w => Tryz.call79 a w) Tryz.func79 rfl Tryz.ntmps79 rfl .int fun B => by
    have hw1 : IntKind.i64.wrap ((n : Int) - 1) = ((n - 1 : Nat) : Int) := w64 (by omega) (by omega)
    have hw2 : IntKind.u64.wrap (IntKind.i64.wrap ((n : Int) - 1)) = ((n - 1 : Nat) : Int) := by rw [hw1]; exact wu64 rfl (by omega)
    have hlg : Nat.log2 (n - 1) < 16 := (Nat.log2_lt (by omega)).2 (by omega)
    have hl8 : len8 (n - 1) = Nat.log2 (n - 1) + 1 := by rw [len8, if_neg (by omega)]
    have hw3 : IntKind.i64.wrap (((len8 (n - 1) : Nat) : Int) - 1) = ((Nat.log2 (n - 1) : Nat) : Int) := w64 (by rw [hl8]; omega) (by omega)
    have hp : 2 ^ Nat.log2 (n - 1) ≤ 2 ^ 16 := Nat.pow_le_pow_right (by decide) (by omega)
    refine ab 1000 rfl trivial ?_
    refine S_pure rfl rfl rfl (len_ok (n - 1) (by omega)) (.cons (by show Frz false _ (.int .u64 (IntKind.u64.wrap (IntKind.i64.wrap ((n : Int) - 1)))) _; rw [hw2]; exact .refl .int) (.nil _)) ?_
    refine ab 1000 rfl ⟨by rw [hw3]; omega, trivial⟩ ?_
    refine S_retc .int rfl trivial ?_
    show AV.int .i64 (IntKind.i64.wrap (1 * 2 ^ (min (IntKind.i64.wrap (((len8 (n - 1) : Nat) : Int) - 1)).toNat 64))) = _
    rw [hw3, Int.toNat_natCast, Nat.min_eq_left (by omega)]
    exact ai64 (by rw [halfN]; simp) (by rw [halfN]; omega)
theorem Half_ok (n : Nat) (h2 : 2 ≤ n) (hn : n ≤ 65536) : Calc cx 43 [.int .i64 n] (.int .i64 (halfN n : Nat)) :=
  pure_intro (fun a w => Tryz.call43 a w) Tryz.func43 rfl Tryz.ntmps43 rfl .int fun B => by
    refine ab 1000 rfl trivial ?_
    refine S_while (α := Nat) (fun k => [(0, .int .i64 (n : Nat)), (3, .int .i64 (2 ^ k : Nat))]) (fun _ => []) (fun k => 2 ^ k < n) (fun k => n - 2 ^ k) 0
      (by show 2 ^ 0 < n; omega) (.cons rfl (.cons rfl (.nil _))) rfl ?_
    intro k hk
    have hk : 2 ^ k < n := hk
    have h0 := Nat.two_pow_pos k
    have hw : IntKind.i64.wrap (2 * ((2 ^ k : Nat) : Int)) = ((2 ^ (k + 1) : Nat) : Int) := w64 (by rw [Nat.pow_succ]; omega) (by rw [Nat.pow_succ]; omega)
    have hps : 2 ^ (k + 1) = 2 * 2 ^ k := by rw [Nat.pow_succ]; omega
    refine ab 1000 rfl trivial ?_
    refine S_dec rfl (fun h => ?_) (fun h => ?_)
    · have h : 2 ^ (k + 1) < n := by
        have h' : IntKind.i64.wrap (2 * ((2 ^ k : Nat) : Int)) < (n : Int) := h
        rw [hw] at h'; omega
      refine ab 1000 rfl trivial ?_
      exact S_round (k + 1) (by show n - 2 ^ (k + 1) < n - 2 ^ k; omega) h (.cons rfl (.cons (congrArg (AV.int .i64) hw) (.nil _))) rfl
    · have h : n ≤ 2 * 2 ^ k := by
        have h' : ¬ IntKind.i64.wrap (2 * ((2 ^ k : Nat) : Int)) < (n : Int) := h
        rw [hw] at h'; omega
      refine ab 1000 rfl trivial ?_
      refine S_retc .int rfl trivial ?_
      rw [halfN_of hk h]; rfl
end Go.Proofs.YtjkeekbfgnmngaaGreatDoor
end
section
set_option linter.unusedVariables false
set_option linter.unusedSimpArgs false
set_option maxRecDepth 20000
namespace Go.Proofs.YtjkeekbfgnmngaaGreatDoor
open Go Go.Ab
def mroot (l : List (List UInt8)) : List UInt8 :=
  if h : l.length ≤ 1 then l.headD [] else pairS (mroot (l.take (halfN l.length))) (mroot (l.drop (halfN l.length)))
termination_by l.length
decreasing_by
  · have := halfN_spec (n := l.length) (by omega)
    rw [List.length_take]; omega
  · have := halfN_spec (n := l.length) (by omega)
    rw [List.length_drop]; omega
def pairUp : List (List UInt8) → List (List UInt8)
  | a :: b :: r => pairS a b :: pairUp r
  | [a] => [a]
  | [] => []
theorem pairUp_len : ∀ l : List (List UInt8), (pairUp l).length = (l.length + 1) / 2
  | a :: b :: r => by
    rw [pairUp, List.length_cons, pairUp_len r]; simp only [List.length_cons]; omega
  | [a] => by simp [pairUp]
  | [] => rfl
theorem pairUp_app : ∀ (k : Nat) (a b : List (List UInt8)), a.length = 2 * k → pairUp (a ++ b) = pairUp a ++ pairUp b
  | 0, a, b, h => by
    obtain rfl := List.eq_nil_of_length_eq_zero (by simpa using h)
    rfl
  | k + 1, x :: y :: a, b, h => by
    show pairUp (x :: y :: (a ++ b)) = _
    rw [pairUp, pairUp_app k a b (by simp only [List.length_cons] at h; omega)]; rfl
  | k + 1, [x], b, h => by simp at h; omega
  | k + 1, [], b, h => by simp at h
theorem pairUp_dig : ∀ l : List (List UInt8), (∀ d ∈ l, isDig d = true) → ∀ d ∈ pairUp l, isDig d = true
  | a :: b :: r, h => by
    intro d hd
    rcases List.mem_cons.1 hd with rfl | hd
    · exact pairS_dig _ _
    · exact pairUp_dig r (fun d hd => h d (List.mem_cons_of_mem _ (List.mem_cons_of_mem _ hd))) d hd
  | [a], h => h
  | [], h => h
theorem mroot_pairUp : ∀ (n : Nat) (l : List (List UInt8)), l.length = n → mroot (pairUp l) = mroot l := by
  intro n
  induction n using Nat.strongRecOn with
  | _ n ih =>
    intro l hl
    by_cases h1 : l.length ≤ 1
    · match l, h1 with
      | [], _ => rfl
      | [a], _ => rfl
    by_cases h2 : l.length = 2
    · match l, h2 with
      | [a, b], _ =>
        rw [show pairUp [a, b] = [pairS a b] from rfl]
        have hh : halfN 2 = 1 := by decide
        rw [mroot, dif_pos (by simp)]
        conv => rhs; rw [mroot, dif_neg (by simp)]
        simp only [List.length_cons, List.length_nil, hh]
        rw [mroot, dif_pos (by simp), mroot, dif_pos (by simp)]
        rfl
    · have hs := halfN_spec (n := l.length) (by omega)
      obtain ⟨j, hj⟩ : ∃ j, Nat.log2 (l.length - 1) = j + 1 := ⟨Nat.log2 (l.length - 1) - 1, by
        have h4 : 2 ^ 1 ≤ l.length - 1 := by omega
        have : 1 ≤ Nat.log2 (l.length - 1) := (Nat.le_log2 (by omega)).2 h4
        omega⟩
      have hh : halfN l.length = 2 * 2 ^ j := by rw [halfN, hj, Nat.pow_succ]; omega
      have hp := Nat.two_pow_pos j
      have hul := pairUp_len l
      have hh2 : halfN (pairUp l).length = 2 ^ j := halfN_of (by omega) (by omega)
      have htl : (l.take (2 * 2 ^ j)).length = 2 * 2 ^ j := by rw [List.length_take]; omega
      have happ : pairUp l = pairUp (l.take (2 * 2 ^ j)) ++ pairUp (l.drop (2 * 2 ^ j)) := by
        conv => lhs; rw [← List.take_append_drop (2 * 2 ^ j) l]
        exact pairUp_app (2 ^ j) _ _ htl
      have hpl : (pairUp (l.take (2 * 2 ^ j))).length = 2 ^ j := by rw [pairUp_len, htl]; omega
      rw [mroot, dif_neg (by omega), hh2, happ, List.take_left' hpl, List.drop_left' hpl]
      rw [ih (2 * 2 ^ j) (by omega) _ htl, ih (l.length - 2 * 2 ^ j) (by omega) _ (by rw [List.length_drop])]
      conv => rhs; rw [mroot, dif_neg h1, hh]
theorem mroot_dig (n : Nat) : ∀ (l : List (List UInt8)), l.length = n → 1 ≤ n → (∀ d ∈ l, isDig d = true) → isDig (mroot l) = true := by
  induction n using Nat.strongRecOn with
  | _ n ih =>
    intro l hl h1 h
    by_cases h2 : l.length ≤ 1
    · match l, h2 with
      | [], _ => simp at hl; omega
      | [a], _ => rw [mroot, dif_pos (by simp)]; exact h a (by simp)
    · rw [mroot, dif_neg h2]; exact pairS_dig _ _
def leafS (s : List UInt8) : List UInt8 := sha (0 :: s)
def rootS (l : List (List UInt8)) : List UInt8 := if l.length = 0 then sha [] else mroot (l.map leafS)
theorem rootS_dig (l : List (List UInt8)) : isDig (rootS l) = true := by
  unfold rootS
  split
  · exact isDig_sha _
  · exact mroot_dig _ _ rfl (by rw [List.length_map]; omega) (fun d hd => by
      obtain ⟨s, _, rfl⟩ := List.mem_map.1 hd
      exact isDig_sha _)
theorem rootS_split {l : List (List UInt8)} {k : Nat} (h : 2 ≤ l.length) (hk : k = halfN l.length) : rootS l = pairS (rootS (l.take k)) (rootS (l.drop k)) := by
  have hs := halfN_spec h
  rw [← hk] at hs
  unfold rootS
  rw [if_neg (by omega), if_neg (by rw [List.length_take]; omega), if_neg (by rw [List.length_drop]; omega)]
  conv => lhs; rw [mroot, dif_neg (by rw [List.length_map]; omega), List.length_map, ← hk]
  rw [List.map_take, List.map_drop]
structure TextsFit (l : List (List UInt8)) : Prop where
  len : l.length ≤ 2000
  txt : ∀ s ∈ l, s.length ≤ 100000
theorem TextsFit.take {l : List (List UInt8)} (h : TextsFit l) (k : Nat) : TextsFit (l.take k) := ⟨by have := h.len; rw [List.length_take]; omega, fun s hs => h.txt s (List.mem_of_mem_take hs)⟩
theorem TextsFit.drop {l : List (List UInt8)} (h : TextsFit l) (k : Nat) : TextsFit (l.drop k) := ⟨by have := h.len; rw [List.length_drop]; omega, fun s hs => h.txt s (List.mem_of_mem_drop hs)⟩
theorem root_ok (n : Nat) : ∀ (l : List (List UInt8)), l.length = n → TextsFit l → Calc cx 80 [.sl false false 1 (texts l)] (.str (rootS l)) := by
  induction n using Nat.strongRecOn with
  | _ n ih =>
    intro l hl hf
    have htl : (texts l).length = l.length := by simp [texts]
    have hf1 := hf.len
    exact pure_intro (fun a w => Tryz.call80 a w) Tryz.func80 rfl Tryz.ntmps80 rfl .str fun B => by
      refine ab 1000 rfl trivial ?_
      refine S_beq rfl (fun h => ?_) (fun h => ?_)
      · have h0 : l.length = 0 := by have : (((texts l).length : Nat) : Int) = 0 := h; omega
        refine ab 1000 rfl trivial ?_
        refine S_pure rfl rfl rfl (Sum_ok [] (by decide)) (.cons (.refl .str) (.nil _)) ?_
        refine ab 1000 rfl trivial ?_
        refine S_retc .str rfl trivial ?_
        rw [rootS, if_pos h0]; rfl
      have h0 : l.length ≠ 0 := by have : ¬ (((texts l).length : Nat) : Int) = 0 := h; omega
      refine ab 1000 rfl trivial ?_
      refine S_beq rfl (fun h => ?_) (fun h => ?_)
      · have h1 : l.length = 1 := by have : (((texts l).length : Nat) : Int) = 1 := h; omega
        match l, h1 with
        | [a], _ =>
          have ha := hf.txt a (by simp)
          refine ab 1000 rfl trivial ?_
          refine S_index (.str a) rfl rfl rfl ⟨rfl, by decide, rfl, trivial⟩ ?_
          refine ab 1000 rfl ⟨?_, trivial⟩ ?_
          · show ((1 + a.length : Nat) : Int) ≤ 9223372036854775807; omega
          refine S_pure rfl rfl rfl (Sum_ok (0 :: a) (by simp only [List.length_cons]; omega)) (.cons (.refl .str) (.nil _)) ?_
          refine ab 1000 rfl trivial ?_
          refine S_retc .str rfl trivial ?_
          rw [rootS, if_neg h0, List.map_cons, List.map_nil, mroot, dif_pos (by simp)]; rfl
      have h1 : l.length ≠ 1 := by have : ¬ (((texts l).length : Nat) : Int) = 1 := h; omega
      have hs := halfN_spec (n := l.length) (by omega)
      obtain ⟨k, hk⟩ : ∃ k, k = halfN l.length := ⟨_, rfl⟩
      rw [← hk] at hs
      refine ab 1000 rfl trivial ?_
      refine S_pure rfl rfl rfl (by have := half_ok (texts l).length (by omega) (by omega); rwa [htl, ← hk] at this) (.cons (by rw [← htl]; exact .refl .int) (.nil _)) ?_
      refine ab 1000 rfl trivial ?_
      have hA := rootS_dig (l.take k)
      have hB := rootS_dig (l.drop k)
      have eA : (texts l).take k = texts (l.take k) := by simp [texts]
      have eB : (texts l).drop k = texts (l.drop k) := by simp [texts]
      have b1 : (0 : Int) ≤ (k : Nat) ∧ (k : Int) ≤ ((texts l).length : Nat) := by omega
      have fA : ∀ (σ : Heap) (fl : Bool), Frz false σ (.sl false fl 1 ((texts l).take (k : Int).toNat)) (.sl false false 1 (texts (l.take k))) := fun σ fl => by
        rw [Int.toNat_natCast, eA]; exact .lend rfl (fun h => by cases h) (texts_any _)
      have fB : ∀ (σ : Heap) (fl : Bool), Frz false σ (.sl false fl 1 ((texts l).drop (k : Int).toNat)) (.sl false false 1 (texts (l.drop k))) := fun σ fl => by
        rw [Int.toNat_natCast, eB]; exact .lend rfl (fun h => by cases h) (texts_any _)
      refine S_draw 9 [] [.str (rootS (l.take k)), .str (rootS (l.drop k)), .str (pairS (rootS (l.take k)) (rootS (l.drop k)))] rfl rfl rfl rfl
        ⟨rfl, rfl, rfl, b1.1, b1.2, rfl, ⟨_, ih k (by omega) _ (by rw [List.length_take]; omega) (hf.take k), .cons (fA _ _) (.nil _)⟩, rfl, rfl, rfl, b1.1, b1.2, rfl, ⟨_, ih (l.length - k) (by omega) _ (by rw [List.length_drop]) (hf.drop k), .cons (fB _ _) (.nil _)⟩, ⟨_, pair_ok _ _ 32 32 (hexE_dig hA) (hexE_dig hB) (by decide) (by decide), .cons (.refl .str) (.cons (.refl .str) (.nil _))⟩, trivial⟩ ?_
      refine ab 1000 rfl trivial ?_
      refine S_retc .str rfl trivial ?_
      have hr : rootS l = pairS (rootS (l.take k)) (rootS (l.drop k)) := rootS_split (by omega) hk
      rw [hr]; rfl
end Go.Proofs.YtjkeekbfgnmngaaGreatDoor
end
section
set_option linter.unusedVariables false
set_option linter.unusedSimpArgs false
set_option maxRecDepth 20000
namespace Go.Proofs.YtjkeekbfgnmngaaGreatDoor
open Go Go.Ab
theorem LeafOf_ok (s : List UInt8) (hs : s.length ≤ 100000) : Calc cx 85 [.str s] (.str (leafS s)) :=
  pure_intro (fun a w => Tryz.call85 a w) Tryz.func85 rfl Tryz.ntmps85 rfl .str fun B => by
    refine ab 1000 rfl ⟨?_, ?_, rfl, trivial⟩ ?_
    · show ((1 + s.length : Nat) : Int) ≤ 9223372036854775807; omega
    · intro x hx; simp at hx; subst hx; trivial
    refine S_pure rfl rfl rfl (SumR_ok (0 :: s) (by simp only [List.length_cons]; omega)) (.cons (.refl .str) (.nil _)) ?_
    refine ab 1000 rfl trivial ?_
    exact S_retc .str rfl trivial rfl
def tB (v : Nat) (l : List (List UInt8)) : Nat × Option Box := (v, some (.cells (texts l) ⟨false, none⟩))
theorem RootOf_ok {st fl : Bool} (l : List (List UInt8)) (hf : TextsFit l) : Calc cx 44 [.sl st fl 1 (texts l)] (.str (rootS l)) :=
  pure_intro (fun a w => Tryz.call44 a w) Tryz.func44 rfl Tryz.ntmps44 rfl .str fun B => by
    have htl := texts_len l
    have hf1 := hf.len
    refine ab 1000 rfl trivial ?_
    refine S_beq rfl (fun h => ?_) (fun h => ?_)
    · have h0 : l.length = 0 := by have : (((texts l).length : Nat) : Int) = 0 := h; omega
      refine ab 1000 rfl trivial ?_
      refine S_pure rfl rfl rfl (SumR_ok [] (by decide)) (.cons (.refl .str) (.nil _)) ?_
      refine ab 1000 rfl trivial ?_
      refine S_retc .str rfl trivial ?_
      rw [rootS, if_pos h0]; rfl
    have h0 : l.length ≠ 0 := by have : ¬ (((texts l).length : Nat) : Int) = 0 := h; omega
    have hroot : rootS l = mroot (l.map leafS) := by rw [rootS, if_neg h0]
    refine ab 1000 rfl trivial ?_
    refine S_ghostF (t := 3) 1 ⟨false, none⟩ rfl rfl ⟨_, _, .inl rfl⟩ ?_
    refine S_while (α := Nat × Nat) (fun (i, u) => [(0, .sl st fl 1 (texts l)), (3, .ms 0 u 0 i 1 false), (4, .int .i64 (i : Nat))]) (fun (i, u) => [tB u ((l.take i).map leafS)]) (fun (i, u) => i ≤ l.length) (fun (i, u) => l.length - i) (0, 0)
      (Nat.zero_le _) (.cons rfl (.cons rfl (.cons rfl (.nil _)))) rfl ?_
    rintro ⟨i, u⟩ hi
    have hi : i ≤ l.length := hi
    have htk : (texts ((l.take i).map leafS)).length = i := by rw [texts_len, List.length_map, List.length_take]; omega
    refine ab 1000 rfl trivial ?_
    refine S_dec rfl (fun hlt => ?_) (fun hlt => ?_)
    · have hil : i < l.length := by have : (i : Int) < ((texts l).length : Nat) := hlt; omega
      refine ab 1000 rfl trivial ?_
      refine S_index (.str l[i]) rfl rfl rfl ⟨rfl, by omega, by rw [Int.toNat_natCast]; exact texts_get hil, trivial⟩ ?_
      refine ab 1000 rfl trivial ?_
      refine S_pure rfl rfl rfl (LeafOf_ok l[i] (hf.txt _ (List.getElem_mem hil))) (.cons (.refl .str) (.nil _)) ?_
      refine ab 1000 rfl ⟨?_, ?_, ?_, rfl, rfl, allOne_mem (cs := [.str _]) rfl, allOne_mem (cs := [.str _]) rfl, rfl, trivial⟩ ?_
      · show i + 1 ≤ 9223372036854775807; omega
      · show (i + 1) * 16 ≤ 140737488355328; omega
      · show 0 + i * 1 = (texts ((l.take i).map leafS)).length; omega
      refine S_round (i + 1, u + 1) (by show l.length - (i + 1) < l.length - i; omega) hil (.cons rfl (.cons rfl (.cons (ai64 rfl (by omega)) (.nil _)))) ?_
      show [(u + 1, some (Box.cells (texts ((l.take i).map leafS) ++ [.str (leafS l[i])]) ⟨false, none⟩))] = [tB (u + 1) ((l.take (i + 1)).map leafS)]
      rw [List.take_succ_eq_append_getElem hil, List.map_append]
      simp only [tB, texts, List.map_append, List.map_cons, List.map_nil]
    have hil : i = l.length := by have : ¬ (i : Int) < ((texts l).length : Nat) := hlt; omega
    subst hil
    rw [List.take_length] at htk ⊢
    refine S_freeze1 (t := 3) (id := 0) rfl rfl htk (texts_one _) (texts_any _) ⟨_, _, .inl rfl⟩ ?_
    refine ab 1000 rfl trivial ?_
    refine S_while (α := List (List UInt8) × Nat) (fun (now, a) => [(3, .sl false false 1 (texts now))]) (fun (now, a) => [(a, none)])
      (fun (now, a) => 1 ≤ now.length ∧ now.length ≤ 2000 ∧ (∀ d ∈ now, isDig d = true) ∧ mroot now = rootS l) (fun (now, a) => now.length) (l.map leafS, u)
      ⟨by rw [List.length_map]; omega, by rw [List.length_map]; omega, fun d hd => by obtain ⟨s, _, rfl⟩ := List.mem_map.1 hd; exact isDig_sha _, hroot.symm⟩ (.cons rfl (.nil _)) rfl ?_
    rintro ⟨now, a⟩ ⟨hn1, hn2, hnd, hnr⟩
    have hn1 : 1 ≤ now.length := hn1
    have hn2 : now.length ≤ 2000 := hn2
    have hntl := texts_len now
    refine ab 1000 rfl trivial ?_
    refine S_dec rfl (fun hlt => ?_) (fun hlt => ?_)
    · have hlt : 1 < now.length := by have : (1 : Int) < (((texts now).length : Nat) : Int) := hlt; omega
      have hpu := pairUp_len now
      refine ab 1000 rfl trivial ?_
      refine S_ghostF (t := 5) 1 ⟨false, none⟩ rfl rfl ⟨_, _, .inl rfl⟩ ?_
      refine S_while (α := Nat × List (List UInt8) × List (List UInt8) × Nat) (fun (i, done, rest, x) => [(3, .sl false false 1 (texts now)), (5, .ms 0 x 0 done.length 1 false), (6, .int .i64 (2 * i : Nat))]) (fun (i, done, rest, x) => [tB x done])
        (fun (i, done, rest, x) => done.length ≤ i ∧ i ≤ 1000 ∧ rest = now.drop (2 * i) ∧ done ++ pairUp rest = pairUp now) (fun (i, done, rest, x) => rest.length) (0, [], now, a + 1)
        ⟨Nat.le_refl _, Nat.zero_le _, rfl, rfl⟩ (.cons rfl (.cons rfl (.cons rfl (.nil _)))) rfl ?_
      rintro ⟨i, done, rest, x⟩ ⟨g1, g2, g3, g4⟩
      have g1 : done.length ≤ i := g1
      have g2 : i ≤ 1000 := g2
      have hdl := texts_len done
      have hrl : rest.length = now.length - 2 * i := by rw [g3, List.length_drop]
      refine ab 1000 rfl trivial ?_
      refine S_dec rfl (fun hlt2 => ?_) (fun hlt2 => ?_)
      · have hi2 : 2 * i < now.length := by have : ((2 * i : Nat) : Int) < (((texts now).length : Nat) : Int) := hlt2; omega
        have hw1 : IntKind.i64.wrap (((2 * i : Nat) : Int) + 1) = ((2 * i + 1 : Nat) : Int) := w64 (by omega) (by omega)
        have hw2 : AV.int .i64 (IntKind.i64.wrap (((2 * i : Nat) : Int) + 2)) = .int .i64 ((2 * (i + 1) : Nat) : Int) := ai64 (by omega) (by omega)
        refine ab 1000 rfl trivial ?_
        refine S_dec rfl (fun hlt3 => ?_) (fun hlt3 => ?_)
        · have hi3 : 2 * i + 1 < now.length := by
            have h' : IntKind.i64.wrap (((2 * i : Nat) : Int) + 1) < (((texts now).length : Nat) : Int) := hlt3
            rw [hw1] at h'; omega
          have hrest : rest = now[2 * i] :: now[2 * i + 1] :: now.drop (2 * (i + 1)) := by
            rw [g3, List.drop_eq_getElem_cons hi2, List.drop_eq_getElem_cons hi3, show 2 * i + 1 + 1 = 2 * (i + 1) by omega]
          have k1 : 0 ≤ ((2 * i : Nat) : Int) := by omega
          have k2 : 0 ≤ IntKind.i64.wrap (((2 * i : Nat) : Int) + 1) := by rw [hw1]; omega
          have k3 : (texts now)[((2 * i : Nat) : Int).toNat]? = some (.str now[2 * i]) := by rw [Int.toNat_natCast]; exact texts_get hi2
          have k4 : (texts now)[(IntKind.i64.wrap (((2 * i : Nat) : Int) + 1)).toNat]? = some (.str now[2 * i + 1]) := by rw [hw1, Int.toNat_natCast]; exact texts_get hi3
          refine ab 1000 rfl trivial ?_
          refine S_draw 12 [] [.str now[2 * i], .str now[2 * i + 1], .str (pairS now[2 * i] now[2 * i + 1])] rfl rfl rfl rfl
            ⟨rfl, rfl, rfl, rfl, k1, k3, rfl, rfl, rfl, rfl, rfl, k2, k4, rfl, ⟨_, PairOf_ok _ _ (hnd _ (List.getElem_mem hi2)) (hnd _ (List.getElem_mem hi3)), .cons (.refl .str) (.cons (.refl .str) (.nil _))⟩, rfl, trivial⟩ ?_
          refine ab 1000 rfl ⟨?_, ?_, ?_, rfl, rfl, allOne_mem (cs := [.str _]) rfl, allOne_mem (cs := [.str _]) rfl, rfl, trivial⟩ ?_
          · show done.length + 1 ≤ 9223372036854775807; omega
          · show (done.length + 1) * 16 ≤ 140737488355328; omega
          · show 0 + done.length * 1 = (texts done).length; omega
          refine S_round (i + 1, done ++ [pairS now[2 * i] now[2 * i + 1]], now.drop (2 * (i + 1)), x + 1) (by show (now.drop (2 * (i + 1))).length < rest.length; rw [hrl, List.length_drop]; omega)
            ⟨by simp; omega, by omega, rfl, by rw [← g4, hrest, pairUp]; simp⟩ (.cons rfl (.cons (by simp; rfl) (.cons hw2 (.nil _)))) ?_
          show [(x + 1, some (Box.cells (texts done ++ [.str (pairS now[2 * i] now[2 * i + 1])]) ⟨false, none⟩))] = _
          simp [tB, texts]
        · have hi3 : now.length = 2 * i + 1 := by
            have h' : ¬ IntKind.i64.wrap (((2 * i : Nat) : Int) + 1) < (((texts now).length : Nat) : Int) := hlt3
            rw [hw1] at h'; omega
          have hrest : rest = [now[2 * i]] := by
            rw [g3, List.drop_eq_getElem_cons hi2, List.drop_of_length_le (by omega)]
          refine ab 1000 rfl trivial ?_
          refine S_index (.str now[2 * i]) rfl rfl rfl ⟨rfl, by omega, by rw [Int.toNat_natCast]; exact texts_get hi2, trivial⟩ ?_
          refine ab 1000 rfl ⟨?_, ?_, ?_, rfl, rfl, allOne_mem (cs := [.str _]) rfl, allOne_mem (cs := [.str _]) rfl, rfl, trivial⟩ ?_
          · show done.length + 1 ≤ 9223372036854775807; omega
          · show (done.length + 1) * 16 ≤ 140737488355328; omega
          · show 0 + done.length * 1 = (texts done).length; omega
          refine S_round (i + 1, done ++ [now[2 * i]], now.drop (2 * (i + 1)), x + 1) (by show (now.drop (2 * (i + 1))).length < rest.length; rw [hrl, List.length_drop]; omega)
            ⟨by simp; omega, by omega, rfl, by rw [← g4, hrest, List.drop_of_length_le (by omega)]; simp [pairUp]⟩ (.cons rfl (.cons (by simp; rfl) (.cons hw2 (.nil _)))) ?_
          show [(x + 1, some (Box.cells (texts done ++ [.str now[2 * i]]) ⟨false, none⟩))] = _
          simp [tB, texts]
      · have hi2 : now.length ≤ 2 * i := by have : ¬ ((2 * i : Nat) : Int) < (((texts now).length : Nat) : Int) := hlt2; omega
        have hdone : done = pairUp now := by
          rw [← g4, g3, List.drop_of_length_le hi2]; simp [pairUp]
        refine S_freeze1 (t := 5) (id := 0) rfl rfl hdl (texts_one _) (texts_any _) ⟨_, _, .inl rfl⟩ ?_
        refine ab 1000 rfl trivial ?_
        refine S_round (pairUp now, x) (by show (pairUp now).length < now.length; omega) ⟨by omega, by omega, pairUp_dig now hnd, by rw [mroot_pairUp _ _ rfl]; exact hnr⟩ (.cons (by rw [← hdone]; rfl) (.nil _)) rfl
    · have hlt : now.length = 1 := by have : ¬ (1 : Int) < (((texts now).length : Nat) : Int) := hlt; omega
      match now, hlt with
      | [d], _ =>
        refine ab 1000 rfl trivial ?_
        refine S_index (.str d) rfl rfl rfl ⟨rfl, by decide, rfl, trivial⟩ ?_
        refine ab 1000 rfl trivial ?_
        refine S_retc .str rfl trivial ?_
        rw [← hnr, mroot, dif_pos (by simp)]; rfl
end Go.Proofs.YtjkeekbfgnmngaaGreatDoor
end
section
set_option linter.unusedVariables false
set_option linter.unusedSimpArgs false
set_option maxRecDepth 20000
namespace Go.Proofs.YtjkeekbfgnmngaaGreatDoor
open Go Go.Ab
theorem checkL_fit {l : List (List UInt8)} (h : checkL l 2000 = 0) : TextsFit l := by
  unfold checkL at h
  split at h
  · cases h
  rename_i h1
  split at h
  · cases h
  rename_i h2
  refine ⟨by omega, fun s hs => ?_⟩
  rcases Nat.lt_or_ge 100000 s.length with h | h
  · exact absurd (List.any_eq_true.2 ⟨s, hs, by simpa using h⟩) h2
  · exact h
theorem fit_checkL {l : List (List UInt8)} (h : TextsFit l) : checkL l 2000 = 0 := by
  unfold checkL
  rw [if_neg (by have := h.len; omega), if_neg]
  intro h2
  obtain ⟨s, hs, h3⟩ := List.any_eq_true.1 h2
  have := h.txt s hs
  simp at h3; omega
theorem check_ok {st fl : Bool} (l : List (List UInt8)) (hl : l.length ≤ 9223372036854775806) : Calc cx 40 [.sl st fl 1 (texts l)] (.int .i64 (checkL l 2000 : Nat)) :=
  pure_intro (fun a w => Tryz.call40 a w) Tryz.func40 rfl Tryz.ntmps40 rfl .int fun B => by
    have htl := texts_len l
    refine ab 1000 rfl trivial ?_
    refine S_dec rfl (fun h => ?_) (fun h => ?_)
    · have h : 2000 < l.length := by have : (2000 : Int) < (((texts l).length : Nat) : Int) := h; omega
      refine ab 1000 rfl trivial ?_
      refine S_retc .int rfl trivial ?_
      rw [checkL, if_pos h]; rfl
    have h2 : ¬ 2000 < l.length := by have : ¬ (2000 : Int) < (((texts l).length : Nat) : Int) := h; omega
    refine ab 1000 rfl trivial ?_
    refine S_while (α := Nat) (fun i => [(8, .sl st fl 1 (texts l)), (9, .int .i64 ((texts l).length : Nat)), (10, .int .i64 (i : Nat))]) (fun _ => []) (fun i => i ≤ l.length ∧ ∀ s ∈ l.take i, s.length ≤ 100000) (fun i => l.length - i) 0
      ⟨Nat.zero_le _, by simp⟩ (.cons rfl (.cons rfl (.cons rfl (.nil _)))) rfl ?_
    rintro i ⟨hi, hN⟩
    refine ab 1000 rfl trivial ?_
    refine S_dec rfl (fun hlt => ?_) (fun hlt => ?_)
    · have hil : i < l.length := by have : (i : Int) < ((texts l).length : Nat) := hlt; omega
      refine ab 1000 rfl trivial ?_
      refine S_index (.str l[i]) rfl rfl rfl ⟨rfl, by omega, by rw [Int.toNat_natCast]; exact texts_get hil, trivial⟩ ?_
      refine ab 1000 rfl trivial ?_
      refine S_dec rfl (fun h => ?_) (fun h => ?_)
      · have h : 100000 < l[i].length := by have : (100000 : Int) < ((l[i].length : Nat) : Int) := h; omega
        refine ab 1000 rfl trivial ?_
        refine S_retc .int rfl trivial ?_
        rw [checkL, if_neg h2, if_pos (List.any_eq_true.2 ⟨l[i], List.getElem_mem hil, by simpa using h⟩)]; rfl
      · have h : l[i].length ≤ 100000 := by have : ¬ (100000 : Int) < ((l[i].length : Nat) : Int) := h; omega
        refine ab 1000 rfl trivial ?_
        refine S_round (i + 1) (by show l.length - (i + 1) < l.length - i; omega) ⟨hil, fun s hs => ?_⟩ (.cons rfl (.cons rfl (.cons (ai64 rfl (by omega)) (.nil _)))) rfl
        rw [List.take_succ_eq_append_getElem hil] at hs
        rcases List.mem_append.1 hs with hs | hs
        · exact hN s hs
        · simp at hs; subst hs; exact h
    · have hil : i = l.length := by have : ¬ (i : Int) < ((texts l).length : Nat) := hlt; omega
      rw [hil, List.take_length] at hN
      refine ab 1000 rfl trivial ?_
      refine S_retc .int rfl trivial ?_
      rw [fit_checkL ⟨by omega, hN⟩]; rfl
end Go.Proofs.YtjkeekbfgnmngaaGreatDoor
end
section
set_option linter.unusedVariables false
set_option linter.unusedSimpArgs false
set_option maxRecDepth 20000
namespace Go.Proofs.YtjkeekbfgnmngaaGreatDoor
open Go Go.Ab
def proofL (l : List (List UInt8)) (i : Nat) : List (List UInt8) :=
  if h : l.length ≤ 1 then [] else if i < halfN l.length then proofL (l.take (halfN l.length)) i ++ [rootS (l.drop (halfN l.length))] else proofL (l.drop (halfN l.length)) (i - halfN l.length) ++ [rootS (l.take (halfN l.length))]
termination_by l.length
decreasing_by
  · have := halfN_spec (n := l.length) (by omega); rw [List.length_take]; omega
  · have := halfN_spec (n := l.length) (by omega); rw [List.length_drop]; omega
theorem proofL_len (n : Nat) : ∀ (l : List (List UInt8)) (i : Nat), l.length = n → (proofL l i).length ≤ l.length := by
  induction n using Nat.strongRecOn with
  | _ n ih =>
    intro l i hl
    rw [proofL]
    split
    · exact Nat.zero_le _
    · have hs := halfN_spec (n := l.length) (by omega)
      split
      · have := ih (halfN l.length) (by omega) (l.take (halfN l.length)) i (by rw [List.length_take]; omega)
        rw [List.length_take] at this
        rw [List.length_append]; simp only [List.length_cons, List.length_nil]; omega
      · have := ih (l.length - halfN l.length) (by omega) (l.drop (halfN l.length)) (i - halfN l.length) (by rw [List.length_drop])
        rw [List.length_drop] at this
        rw [List.length_append]; simp only [List.length_cons, List.length_nil]; omega
def OwnL (q : List (List UInt8)) : Out → Heap → Prop := fun o σ => o = .ret (.ms 0 q.length 0 q.length 1 false) ∧ σ = [(q.length, some (.cells (texts q) ⟨false, none⟩))]
theorem proof_ok (n : Nat) : ∀ {st fl : Bool} (l : List (List UInt8)) (i : Nat), l.length = n → 1 ≤ n → i ≤ 2000 → TextsFit l → CallOk cx 41 [.sl st fl 1 (texts l), .int .i64 (i : Nat)] [] (OwnL (proofL l i)) := by
  induction n using Nat.strongRecOn with
  | _ n ih =>
    intro st fl l i hl h1n hi hf
    have htl := texts_len l
    have hf1 := hf.len
    exact callOk_intro (fun a w => Tryz.call41 a w) Tryz.func41 rfl Tryz.ntmps41 rfl fun B => by
      refine ab 1000 rfl trivial ?_
      refine S_beq rfl (fun h => ?_) (fun h => ?_)
      · have h1 : l.length = 1 := by have : (((texts l).length : Nat) : Int) = 1 := h; omega
        rw [proofL, dif_pos (by omega)]
        refine go (M := [4]) 4 rfl trivial ?_
        refine S_ghostF (t := 4) 1 ⟨false, none⟩ rfl rfl ⟨_, _, .inl rfl⟩ ?_
        refine ab 1000 rfl trivial ?_
        exact S_ret ⟨_, _, rfl, trivial, rfl, rfl⟩
      have h1 : l.length ≠ 1 := by have : ¬ (((texts l).length : Nat) : Int) = 1 := h; omega
      have hs := halfN_spec (n := l.length) (by omega)
      obtain ⟨k, hk⟩ : ∃ k, k = halfN l.length := ⟨_, rfl⟩
      rw [← hk] at hs
      refine ab 1000 rfl trivial ?_
      refine S_pure rfl rfl rfl (by have := half_ok (texts l).length (by omega) (by omega); rwa [htl, ← hk] at this) (.cons (by rw [← htl]; exact .refl .int) (.nil _)) ?_
      refine ab 1000 rfl trivial ?_
      have eA : (texts l).take k = texts (l.take k) := by simp [texts]
      have eB : (texts l).drop k = texts (l.drop k) := by simp [texts]
      have fB : ∀ (σ : Heap) (fl : Bool), Frz false σ (.sl st fl 1 ((texts l).drop (k : Int).toNat)) (.sl false false 1 (texts (l.drop k))) := fun σ fl => by
        rw [Int.toNat_natCast, eB]; exact .lend rfl (fun h => by cases h) (texts_any _)
      have fA : ∀ (σ : Heap) (fl : Bool), Frz false σ (.sl st fl 1 ((texts l).take (k : Int).toNat)) (.sl false false 1 (texts (l.take k))) := fun σ fl => by
        rw [Int.toNat_natCast, eA]; exact .lend rfl (fun h => by cases h) (texts_any _)
      have b1 : (0 : Int) ≤ (k : Nat) ∧ (k : Int) ≤ ((texts l).length : Nat) := by omega
      refine S_dec rfl (fun h => ?_) (fun h => ?_)
      · have h : i < k := by have : (i : Int) < (k : Int) := h; omega
        rw [proofL, dif_neg (by omega), ← hk, if_pos h]
        have hp := ih k (by omega) (st := st) (fl := false) (l.take k) i (by rw [List.length_take]; omega) (by omega) hi (hf.take k)
        obtain ⟨q, hq⟩ : ∃ q, q = proofL (l.take k) i := ⟨_, rfl⟩
        rw [← hq] at hp ⊢
        refine ab 1000 rfl trivial ?_
        have hpl : q.length ≤ 2000 := by have := proofL_len _ (l.take k) i rfl; rw [← hq, List.length_take] at this; omega
        have hql := texts_len q
        refine S_drawC [(q.length, some (.cells (texts q) ⟨false, none⟩))] 4 8 [] [.ms 0 q.length 0 q.length 1 false] rfl rfl rfl rfl rfl
          ⟨rfl, rfl, rfl, rfl, rfl, rfl, rfl, b1.1, b1.2, rfl, rfl, b1.1, b1.2, rfl, rfl, rfl, rfl, rfl, ⟨_, hp, ?_⟩, rfl, rfl, rfl, rfl, rfl, rfl, rfl, b1.1, b1.2, rfl, rfl, b1.1, b1.2, rfl, rfl, trivial⟩ ?_
        · show [AV.sl st false 1 ((texts l).take (k : Int).toNat), _] = _
          rw [Int.toNat_natCast, eA]
          rfl
        refine ab 1000 rfl trivial ?_
        refine S_pure rfl rfl rfl (root_ok _ (l.drop k) rfl (hf.drop k)) (.cons (fB _ _) (.nil _)) ?_
        refine ab 1000 rfl ⟨?_, ?_, ?_, rfl, rfl, allOne_mem (cs := [.str _]) rfl, allOne_mem (cs := [.str _]) rfl, rfl, trivial⟩ ?_
        · show q.length + 1 ≤ 9223372036854775807; omega
        · show (q.length + 1) * 16 ≤ 140737488355328; omega
        · show 0 + q.length * 1 = (texts q).length; omega
        refine S_ret ⟨_, _, rfl, trivial, ?_, ?_⟩
        · rw [List.length_append]; rfl
        · show [(q.length + 1, some (Box.cells (texts q ++ [.str (rootS (l.drop k))]) ⟨false, none⟩))] = _
          rw [List.length_append]; simp [texts]
      · have h : k ≤ i := by have : ¬ (i : Int) < (k : Int) := h; omega
        rw [proofL, dif_neg (by omega), ← hk, if_neg (by omega)]
        have hp := ih (l.length - k) (by omega) (st := st) (fl := fl) (l.drop k) (i - k) (by rw [List.length_drop]) (by omega) (by omega) (hf.drop k)
        obtain ⟨q, hq⟩ : ∃ q, q = proofL (l.drop k) (i - k) := ⟨_, rfl⟩
        rw [← hq] at hp ⊢
        have hpl : q.length ≤ 2000 := by have := proofL_len _ (l.drop k) (i - k) rfl; rw [← hq, List.length_drop] at this; omega
        have hql := texts_len q
        have hw : AV.int .i64 (IntKind.i64.wrap ((i : Int) - (k : Int))) = .int .i64 ((i - k : Nat) : Int) := ai64 (by omega) (by omega)
        refine ab 1000 rfl trivial ?_
        refine S_drawC [(q.length, some (.cells (texts q) ⟨false, none⟩))] 6 10 [] [.ms 0 q.length 0 q.length 1 false] rfl rfl rfl rfl rfl
          ⟨rfl, rfl, rfl, rfl, rfl, rfl, rfl, b1.1, b1.2, rfl, rfl, b1.1, b1.2, rfl, rfl, rfl, rfl, rfl, rfl, rfl, rfl, rfl, rfl, rfl, ⟨_, hp, ?_⟩, rfl, rfl, rfl, rfl, rfl, rfl, rfl, b1.1, b1.2, rfl, rfl, b1.1, b1.2, rfl, rfl, trivial⟩ ?_
        · show [AV.sl st fl 1 ((texts l).drop (k : Int).toNat), AV.int .i64 (IntKind.i64.wrap ((i : Int) - (k : Int)))] = _
          rw [Int.toNat_natCast, eB, hw]
        refine ab 1000 rfl trivial ?_
        refine S_pure rfl rfl rfl (root_ok _ (l.take k) rfl (hf.take k)) (.cons (fA _ _) (.nil _)) ?_
        refine ab 1000 rfl ⟨?_, ?_, ?_, rfl, rfl, allOne_mem (cs := [.str _]) rfl, allOne_mem (cs := [.str _]) rfl, rfl, trivial⟩ ?_
        · show q.length + 1 ≤ 9223372036854775807; omega
        · show (q.length + 1) * 16 ≤ 140737488355328; omega
        · show 0 + q.length * 1 = (texts q).length; omega
        refine S_ret ⟨_, _, rfl, trivial, ?_, ?_⟩
        · rw [List.length_append]; rfl
        · show [(q.length + 1, some (Box.cells (texts q ++ [.str (rootS (l.take k))]) ⟨false, none⟩))] = _
          rw [List.length_append]; simp [texts]
end Go.Proofs.YtjkeekbfgnmngaaGreatDoor
end
section
set_option linter.unusedVariables false
set_option linter.unusedSimpArgs false
set_option maxRecDepth 20000
namespace Go.Proofs.YtjkeekbfgnmngaaGreatDoor
open Go Go.Ab
theorem ProofOfC (n : Nat) : ∀ {st fl : Bool} (l : List (List UInt8)) (i : Nat), l.length = n → 1 ≤ n → i ≤ 2000 → TextsFit l → CallOk cx 19 [.sl st fl 1 (texts l), .int .i64 (i : Nat)] [] (OwnL (proofL l i)) := by
  induction n using Nat.strongRecOn with
  | _ n ih =>
    intro st fl l i hl h1n hi hf
    have htl := texts_len l
    have hf1 := hf.len
    exact callOk_intro (fun a w => Tryz.call19 a w) Tryz.func19 rfl Tryz.ntmps19 rfl fun B => by
      refine ab 1000 rfl trivial ?_
      refine S_beq rfl (fun h => ?_) (fun h => ?_)
      · have h1 : l.length = 1 := by have : (((texts l).length : Nat) : Int) = 1 := h; omega
        rw [proofL, dif_pos (by omega)]
        refine go (M := [4]) 4 rfl trivial ?_
        refine S_ghostF (t := 4) 1 ⟨false, none⟩ rfl rfl ⟨_, _, .inl rfl⟩ ?_
        refine ab 1000 rfl trivial ?_
        exact S_ret ⟨_, _, rfl, trivial, rfl, rfl⟩
      have h1 : l.length ≠ 1 := by have : ¬ (((texts l).length : Nat) : Int) = 1 := h; omega
      have hs := halfN_spec (n := l.length) (by omega)
      obtain ⟨k, hk⟩ : ∃ k, k = halfN l.length := ⟨_, rfl⟩
      rw [← hk] at hs
      refine ab 1000 rfl trivial ?_
      refine S_pure rfl rfl rfl (by have := Half_ok (texts l).length (by omega) (by omega); rwa [htl, ← hk] at this) (.cons (by rw [← htl]; exact .refl .int) (.nil _)) ?_
      refine ab 1000 rfl trivial ?_
      have eA : (texts l).take k = texts (l.take k) := by simp [texts]
      have eB : (texts l).drop k = texts (l.drop k) := by simp [texts]
      have fB : ∀ (σ : Heap) (fl : Bool), Frz false σ (.sl st fl 1 ((texts l).drop (k : Int).toNat)) (.sl false false 1 (texts (l.drop k))) := fun σ fl => by
        rw [Int.toNat_natCast, eB]; exact .lend rfl (fun h => by cases h) (texts_any _)
      have fA : ∀ (σ : Heap) (fl : Bool), Frz false σ (.sl st fl 1 ((texts l).take (k : Int).toNat)) (.sl false false 1 (texts (l.take k))) := fun σ fl => by
        rw [Int.toNat_natCast, eA]; exact .lend rfl (fun h => by cases h) (texts_any _)
      have b1 : (0 : Int) ≤ (k : Nat) ∧ (k : Int) ≤ ((texts l).length : Nat) := by omega
      refine S_dec rfl (fun h => ?_) (fun h => ?_)
      · have h : i < k := by have : (i : Int) < (k : Int) := h; omega
        rw [proofL, dif_neg (by omega), ← hk, if_pos h]
        have hp := ih k (by omega) (st := st) (fl := true) (l.take k) i (by rw [List.length_take]; omega) (by omega) hi (hf.take k)
        obtain ⟨q, hq⟩ : ∃ q, q = proofL (l.take k) i := ⟨_, rfl⟩
        rw [← hq] at hp ⊢
        refine ab 1000 rfl trivial ?_
        have hpl : q.length ≤ 2000 := by have := proofL_len _ (l.take k) i rfl; rw [← hq, List.length_take] at this; omega
        have hql := texts_len q
        refine S_drawC [(q.length, some (.cells (texts q) ⟨false, none⟩))] 5 9 [] [.ms 0 q.length 0 q.length 1 false] rfl rfl rfl rfl rfl
          ⟨rfl, rfl, rfl, rfl, rfl, rfl, rfl, rfl, rfl, rfl, b1.1, b1.2, rfl, rfl, rfl, b1.1, b1.2, rfl, rfl, rfl, rfl, rfl, rfl, ⟨_, hp, ?_⟩, rfl, rfl, rfl, rfl, rfl, rfl, rfl, b1.1, b1.2, rfl, rfl, b1.1, b1.2, rfl, rfl, trivial⟩ ?_
        · show [AV.sl st true 1 ((texts l).take (k : Int).toNat), _] = _
          rw [Int.toNat_natCast, eA]
          rfl
        refine ab 1000 rfl trivial ?_
        refine S_pure rfl rfl rfl (RootOf_ok (st := false) (fl := false) (l.drop k) (hf.drop k)) (.cons (fB _ _) (.nil _)) ?_
        refine ab 1000 rfl ⟨?_, ?_, ?_, rfl, rfl, allOne_mem (cs := [.str _]) rfl, allOne_mem (cs := [.str _]) rfl, rfl, trivial⟩ ?_
        · show q.length + 1 ≤ 9223372036854775807; omega
        · show (q.length + 1) * 16 ≤ 140737488355328; omega
        · show 0 + q.length * 1 = (texts q).length; omega
        refine S_ret ⟨_, _, rfl, trivial, ?_, ?_⟩
        · rw [List.length_append]; rfl
        · show [(q.length + 1, some (Box.cells (texts q ++ [.str (rootS (l.drop k))]) ⟨false, none⟩))] = _
          rw [List.length_append]; simp [texts]
      · have h : k ≤ i := by have : ¬ (i : Int) < (k : Int) := h; omega
        rw [proofL, dif_neg (by omega), ← hk, if_neg (by omega)]
        have hp := ih (l.length - k) (by omega) (st := st) (fl := fl) (l.drop k) (i - k) (by rw [List.length_drop]) (by omega) (by omega) (hf.drop k)
        obtain ⟨q, hq⟩ : ∃ q, q = proofL (l.drop k) (i - k) := ⟨_, rfl⟩
        rw [← hq] at hp ⊢
        have hpl : q.length ≤ 2000 := by have := proofL_len _ (l.drop k) (i - k) rfl; rw [← hq, List.length_drop] at this; omega
        have hql := texts_len q
        have hw : AV.int .i64 (IntKind.i64.wrap ((i : Int) - (k : Int))) = .int .i64 ((i - k : Nat) : Int) := ai64 (by omega) (by omega)
        refine ab 1000 rfl trivial ?_
        refine S_drawC [(q.length, some (.cells (texts q) ⟨false, none⟩))] 6 10 [] [.ms 0 q.length 0 q.length 1 false] rfl rfl rfl rfl rfl
          ⟨rfl, rfl, rfl, rfl, rfl, rfl, rfl, b1.1, b1.2, rfl, rfl, b1.1, b1.2, rfl, rfl, rfl, rfl, rfl, rfl, rfl, rfl, rfl, rfl, rfl, ⟨_, hp, ?_⟩, rfl, rfl, rfl, rfl, rfl, rfl, rfl, b1.1, b1.2, rfl, rfl, b1.1, b1.2, rfl, rfl, trivial⟩ ?_
        · show [AV.sl st fl 1 ((texts l).drop (k : Int).toNat), AV.int .i64 (IntKind.i64.wrap ((i : Int) - (k : Int)))] = _
          rw [Int.toNat_natCast, eB, hw]
        refine ab 1000 rfl trivial ?_
        refine S_pure rfl rfl rfl (RootOf_ok (st := false) (fl := false) (l.take k) (hf.take k)) (.cons (fA _ _) (.nil _)) ?_
        refine ab 1000 rfl ⟨?_, ?_, ?_, rfl, rfl, allOne_mem (cs := [.str _]) rfl, allOne_mem (cs := [.str _]) rfl, rfl, trivial⟩ ?_
        · show q.length + 1 ≤ 9223372036854775807; omega
        · show (q.length + 1) * 16 ≤ 140737488355328; omega
        · show 0 + q.length * 1 = (texts q).length; omega
        refine S_ret ⟨_, _, rfl, trivial, ?_, ?_⟩
        · rw [List.length_append]; rfl
        · show [(q.length + 1, some (Box.cells (texts q ++ [.str (rootS (l.take k))]) ⟨false, none⟩))] = _
          rw [List.length_append]; simp [texts]
end Go.Proofs.YtjkeekbfgnmngaaGreatDoor
end
section
set_option linter.unusedVariables false
set_option linter.unusedSimpArgs false
set_option maxRecDepth 20000
namespace Go.Proofs.YtjkeekbfgnmngaaGreatDoor
open Go Go.Ab
theorem own_calc {f : FuncId} {args : List AV} {q : List (List UInt8)} (h : CallOk cx f args [] (OwnL q)) : Calc cx f args (.sl true false 1 (texts q)) :=
  calc_of (.sl (fun _ => rfl) (texts_any _)) (h.mono fun o σ' ⟨h1, h2⟩ => ⟨_, h1, by rw [h2]; exact .ms1 rfl (texts_one _) (by rw [texts_len]) (texts_any _)⟩)
def proofE (l : List (List UInt8)) (i : Int) : Nat := if checkL l 2000 ≠ 0 then checkL l 2000 else if i < 0 ∨ (l.length : Int) ≤ i then 3 else 0
def proofV (l : List (List UInt8)) (i : Int) : List (List UInt8) := if proofE l i = 0 then proofL l i.toNat else []
end Go.Proofs.YtjkeekbfgnmngaaGreatDoor
end
section
set_option linter.unusedVariables false
set_option linter.unusedSimpArgs false
set_option maxRecDepth 20000
namespace Go.Proofs.YtjkeekbfgnmngaaGreatDoor
open Go Go.Ab
structure Fil where
  path : List UInt8
  text : List UInt8
  run : Bool
  deriving DecidableEq
def filA (f : Fil) : AV := .agg [.str f.path, .str f.text, .bool f.run]
def fils (l : List Fil) : List AV := l.map filA
def insT (d p : List UInt8) : Bool := (d ++ [47]).isPrefixOf p
def filE (f : Fil) : Nat := if isPathB f.path = true then (if 100000 < f.text.length then 2 else 0) else 1
def formT : List Fil → Nat
  | [] => 0
  | f :: r => if filE f = 0 then formT r else filE f
def okT (l : List Fil) : Prop := l.Pairwise (fun f g => Op.bytesLess f.path g.path = true) ∧ ∀ f ∈ l, ∀ g ∈ l, insT f.path g.path = false
instance (l : List Fil) : Decidable (okT l) := inferInstanceAs (Decidable (_ ∧ _))
def chkT (l : List Fil) : Nat := if 60 < l.length then 2 else if formT l ≠ 0 then formT l else if okT l then 0 else 6
theorem fils_len (l : List Fil) : (fils l).length = l.length := by simp [fils]
theorem fils_get {l : List Fil} {i : Nat} (h : i < l.length) : (fils l)[i]? = some (filA l[i]) := by simp [fils, h]
theorem filA_free {st : Bool} (f : Fil) : Free st (filA f) := .agg (by intro x hx; simp at hx; rcases hx with rfl | rfl | rfl; exact .str; exact .str; exact .bool)
theorem fils_free {st : Bool} (l : List Fil) : ∀ x ∈ fils l, Free st x := by
  intro x hx
  obtain ⟨f, _, rfl⟩ := List.mem_map.1 hx
  exact filA_free f
theorem formT_at {l : List Fil} {i : Nat} (h : i < l.length) (h0 : formT (l.take i) = 0) (hn : filE l[i] ≠ 0) : formT l = filE l[i] := by
  induction l generalizing i with
  | nil => simp at h
  | cons f r ih =>
    cases i with
    | zero =>
      have hn : filE f ≠ 0 := hn
      show formT (f :: r) = filE f
      rw [formT, if_neg hn]
    | succ i =>
      rw [List.take_succ_cons, formT] at h0
      by_cases hf : filE f = 0
      · rw [if_pos hf] at h0
        rw [formT, if_pos hf]
        exact ih (by simpa using h) h0 hn
      · rw [if_neg hf] at h0; exact absurd h0 hf
theorem formT_step {l : List Fil} {i : Nat} (h : i < l.length) (h0 : formT (l.take i) = 0) (hn : filE l[i] = 0) : formT (l.take (i + 1)) = 0 := by
  induction l generalizing i with
  | nil => simp at h
  | cons f r ih =>
    cases i with
    | zero =>
      have hn : filE f = 0 := hn
      show formT [f] = 0
      rw [formT, if_pos hn]; rfl
    | succ i =>
      rw [List.take_succ_cons, formT] at h0 ⊢
      by_cases hf : filE f = 0
      · rw [if_pos hf] at h0 ⊢
        exact ih (by simpa using h) h0 hn
      · rw [if_neg hf] at h0; exact absurd h0 hf
theorem formT_mem {l : List Fil} (h : formT l = 0) : ∀ f ∈ l, isPathB f.path = true ∧ f.text.length ≤ 100000 := by
  induction l with
  | nil => intro f h; cases h
  | cons g r ih =>
    rw [formT] at h
    by_cases hg : filE g = 0
    · rw [if_pos hg] at h
      intro f hf
      rcases List.mem_cons.1 hf with rfl | hf
      · unfold filE at hg
        split at hg
        · rename_i hp
          split at hg
          · cases hg
          · exact ⟨hp, by omega⟩
        · cases hg
      · exact ih h f hf
    · rw [if_neg hg] at h; exact absurd h hg
end Go.Proofs.YtjkeekbfgnmngaaGreatDoor
end
section
set_option linter.unusedVariables false
set_option linter.unusedSimpArgs false
set_option maxRecDepth 20000
namespace Go.Proofs.YtjkeekbfgnmngaaGreatDoor
open Go Go.Ab
theorem prefix_take {s p : List UInt8} (h : p.length ≤ s.length) : (s.take p.length == p) = p.isPrefixOf s := by
  rw [Bool.eq_iff_iff, beq_iff_eq, List.isPrefixOf_iff_prefix, List.prefix_iff_eq_take]
  exact ⟨fun h => h.symm, fun h => h.symm⟩
theorem prefix_short {s p : List UInt8} (h : ¬ p.length ≤ s.length) : p.isPrefixOf s = false := by
  cases hp : p.isPrefixOf s with
  | false => rfl
  | true => exact absurd (List.isPrefixOf_iff_prefix.1 hp).length_le h
theorem HasPrefix2_ok (s p : List UInt8) : Calc cx 103 [.str s, .str p] (.bool (p.isPrefixOf s)) :=
  pure_intro (fun a w => Tryz.call103 a w) Tryz.func103 rfl Tryz.ntmps103 rfl .bool fun B => by
    by_cases h : p.length ≤ s.length
    · refine pB [.b true] rfl ?_
      refine S_retc .bool rfl trivial ?_
      exact congrArg AV.bool (prefix_take h)
    · refine pB [.b false] rfl ?_
      refine S_retc .bool rfl trivial ?_
      rw [prefix_short h]; rfl
theorem HasPrefix_ok (s p : List UInt8) : Calc cx 72 [.str s, .str p] (.bool (p.isPrefixOf s)) :=
  pure_intro (fun a w => Tryz.call72 a w) Tryz.func72 rfl Tryz.ntmps72 rfl .bool fun B => by
    refine pa [.v (.bool (p.isPrefixOf s))] rfl ?_ ?_
    · (repeat' with_reducible apply AllP_cons) <;> try exact aC
      exact ⟨_, HasPrefix2_ok s p, .cons (.refl .str) (.cons (.refl .str) (.nil _))⟩
    exact S_retc .bool rfl trivial rfl
end Go.Proofs.YtjkeekbfgnmngaaGreatDoor
end
section
set_option linter.unusedVariables false
set_option linter.unusedSimpArgs false
set_option maxRecDepth 20000
set_option maxHeartbeats 4000000
namespace Go.Proofs.YtjkeekbfgnmngaaGreatDoor
open Go Go.Ab
theorem inside_ok (d p : List UInt8) (hd : d.length ≤ 1000000000000) : Calc cx 32 [.str d, .str p] (.bool (insT d p)) :=
  pure_intro (fun a w => Tryz.call32 a w) Tryz.func32 rfl Tryz.ntmps32 rfl .bool fun B => by
    refine pa [.v (.bool (insT d p))] rfl ?_ ?_
    · (repeat' with_reducible apply AllP_cons) <;> try exact aC
      · exact ⟨_, HasPrefix_ok p (d ++ [47]), .cons (.refl .str) (.cons (.refl .str) (.nil _))⟩
    exact S_retc .bool rfl trivial rfl
theorem ins_iff (d p : List UInt8) : insT d p = true ↔ d.length < p.length ∧ p.take d.length = d ∧ p.getD d.length 0 = 47 := by
  unfold insT
  rw [List.isPrefixOf_iff_prefix]
  constructor
  · rintro ⟨r, rfl⟩
    refine ⟨by simp, by simp, by simp [List.getD]⟩
  · rintro ⟨h1, h2, h3⟩
    refine ⟨p.drop (d.length + 1), ?_⟩
    have h4 : p.drop d.length = 47 :: p.drop (d.length + 1) := by
      rw [List.drop_eq_getElem_cons h1]
      congr 1
      rw [List.getD_eq_getElem?_getD, List.getElem?_eq_getElem h1] at h3
      exact h3
    conv => rhs; rw [← List.take_append_drop d.length p, h2, h4]
    simp
theorem byteEq (c : UInt8) (n : Nat) (h : n < 256) : ((c.toNat : Int) == (n : Int)) = (c == UInt8.ofNat n) := by
  rw [Bool.eq_iff_iff, beq_iff_eq, beq_iff_eq]
  refine ⟨fun h1 => UInt8.toNat_inj.1 ?_, fun h1 => ?_⟩
  · rw [UInt8.toNat_ofNat']; omega
  · rw [h1, UInt8.toNat_ofNat']; omega
theorem IsInside_ok (d p : List UInt8) (hd : d.length ≤ 1000000000000) (hp : p.length ≤ 1000000000000) : Calc cx 87 [.str d, .str p] (.bool (insT d p)) :=
  pure_intro (fun a w => Tryz.call87 a w) Tryz.func87 rfl Tryz.ntmps87 rfl .bool fun B => by
    by_cases h1 : d.length < p.length
    · have e1 : decide ((p.length : Int) > (d.length : Int)) = true := decide_eq_true (by omega)
      cases h2 : p.take d.length == d with
      | true =>
        refine pB [.b true, .b true] rfl ?_
        refine S_retc .bool rfl trivial ?_
        show AV.bool ((((p.getD d.length 0).toNat : Nat) : Int) == ((47 : Nat) : Int)) = .bool (insT d p)
        rw [byteEq _ _ (by decide)]
        congr 1
        rw [Bool.eq_iff_iff, ins_iff, beq_iff_eq]
        exact ⟨fun h => ⟨h1, eq_of_beq h2, h⟩, fun h => h.2.2⟩
      | false =>
        refine pB [.b true, .b false] rfl ?_
        refine S_retc .bool rfl trivial ?_
        have h3 : insT d p = false := by
          cases h : insT d p with
          | false => rfl
          | true => have := ((ins_iff d p).1 h).2.1; rw [this] at h2; simp at h2
        rw [h3]; rfl
    · have e1 : decide ((p.length : Int) > (d.length : Int)) = false := decide_eq_false (by omega)
      refine pB [.b false, .b false] rfl ?_
      refine S_retc .bool rfl trivial ?_
      have h3 : insT d p = false := by
        cases h : insT d p with
        | false => rfl
        | true => exact absurd ((ins_iff d p).1 h).1 h1
      rw [h3]; rfl
theorem filBeq (f g : Fil) : (f.path == g.path && (f.text == g.text && (f.run == g.run && true))) = true ↔ f = g := by
  simp only [Bool.and_eq_true, beq_iff_eq, and_true]
  constructor
  · rintro ⟨h1, h2, h3⟩
    cases f; cases g
    simp only at h1 h2 h3
    rw [h1, h2, h3]
  · rintro rfl; exact ⟨rfl, rfl, rfl⟩
theorem SameFiles_ok {st st' fl fl' : Bool} (a b : List Fil) (ha : a.length ≤ 1000000000) (hb : b.length ≤ 1000000000) : Calc cx 9 [.sl st fl 3 (fils a), .sl st' fl' 3 (fils b)] (.bool (decide (a = b))) :=
  pure_intro (fun a w => Tryz.call9 a w) Tryz.func9 rfl Tryz.ntmps9 rfl .bool fun B => by
    have hla := fils_len a
    have hlb := fils_len b
    by_cases hl : a.length = b.length
    · have e0 : ((((fils a).length : Nat) : Int) != (((fils b).length : Nat) : Int)) = false := by rw [hla, hlb, hl]; exact bne_self_eq_false _
      refine pB [.b false] rfl ?_
      refine S_while (α := Nat) (fun i => [(0, .sl st fl 3 (fils a)), (1, .sl st' fl' 3 (fils b)), (5, .int .i64 (i : Nat))]) (fun _ => []) (fun i => i ≤ a.length ∧ a.take i = b.take i) (fun i => a.length - i) 0
        ⟨Nat.zero_le _, rfl⟩ (.cons rfl (.cons rfl (.cons rfl (.nil _)))) rfl ?_
      rintro i ⟨hi, ht⟩
      have hi : i ≤ a.length := hi
      by_cases hlt : i < a.length
      · have e1 : decide ((i : Int) < (((fils a).length : Nat) : Int)) = true := decide_eq_true (by omega)
        have hltb : i < b.length := by omega
        have g1 : (fils a)[(i : Int).toNat]? = some (filA a[i]) := fils_get hlt
        have g2 : (fils b)[(i : Int).toNat]? = some (filA b[i]) := fils_get hltb
        by_cases he : a[i] = b[i]
        · have hb := (filBeq a[i] b[i]).2 he
          refine pa [.b true, .v (filA a[i]), .v (filA b[i]), .b false] rfl ?_ ?_
          · (repeat' with_reducible apply AllP_cons) <;> try exact aC
            · kernel_rfl
            · rw [hb]; rfl
          refine S_round (i + 1) (by show a.length - (i + 1) < a.length - i; omega) ⟨hlt, by rw [List.take_succ_eq_append_getElem hlt, List.take_succ_eq_append_getElem hltb, ht, he]⟩ (.cons rfl (.cons rfl (.cons (nX (by omega)) (.nil _)))) rfl
        · have hb : (a[i].path == b[i].path && (a[i].text == b[i].text && (a[i].run == b[i].run && true))) = false := by
            cases h : (a[i].path == b[i].path && (a[i].text == b[i].text && (a[i].run == b[i].run && true))) with
            | false => rfl
            | true => exact absurd ((filBeq _ _).1 h) he
          refine pa [.b true, .v (filA a[i]), .v (filA b[i]), .b true] rfl ?_ ?_
          · (repeat' with_reducible apply AllP_cons) <;> try exact aC
            · kernel_rfl
            · rw [hb]; rfl
          refine S_retc .bool rfl trivial ?_
          have hne : a ≠ b := fun e => by subst e; exact he rfl
          rw [decide_eq_false hne]; rfl
      · have e1 : decide ((i : Int) < (((fils a).length : Nat) : Int)) = false := decide_eq_false (by omega)
        refine pB [.b false] rfl ?_
        refine S_retc .bool rfl trivial ?_
        have : a = b := by rw [List.take_of_length_le (by omega), List.take_of_length_le (by omega)] at ht; exact ht
        show AV.bool true = .bool (decide (a = b))
        rw [decide_eq_true this]
    · have e0 : ((((fils a).length : Nat) : Int) != (((fils b).length : Nat) : Int)) = true := by rw [hla, hlb]; simpa using fun h => hl (by omega)
      refine pB [.b true] rfl ?_
      refine S_retc .bool rfl trivial ?_
      show AV.bool false = .bool (decide (a = b))
      rw [decide_eq_false (fun h => hl (by rw [h]))]
end Go.Proofs.YtjkeekbfgnmngaaGreatDoor
end
