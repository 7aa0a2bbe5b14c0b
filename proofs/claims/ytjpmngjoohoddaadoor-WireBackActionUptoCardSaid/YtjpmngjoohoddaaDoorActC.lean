/-
  Actions read: what ReadAction answers.
-/
import Derived.Test.YtjpmngjoohoddaaDoorActB
import Derived.Test.YtjpmngjoohoddaaDoorWireF
import Derived.Test.YtjpmngjoohoddaaDoorWireV
import Derived.Test.YtjpmngjoohoddaaDoorAbThree
set_option linter.unusedVariables false
set_option linter.unusedSimpArgs false
set_option maxRecDepth 20000
namespace Go.Proofs.YtjpmngjoohoddaaDoor
open Go Go.Ab

/-- An action read. -/
def rAct (s : List UInt8) : Option (ActV × List UInt8) :=
  match rTexts s with
  | none => none
  | some (c, r1) =>
    match rText r1 with
    | none => none
    | some (i, r2) =>
      match rTexts r2 with
      | none => none
      | some (o, r3) =>
        match rNum r3 with
        | none => none
        | some (k, r4) => some (⟨c, i, o, k⟩, r4)

theorem low_rd (v : Nat) (r : List UInt8) (h : Heap) : LowH 1 (rdE v r :: h) := LowH.of (by
  intro e he x hx
  simp at he; subst he
  simp [rdE] at hx; subst hx
  exact .cells (by intro y hy; simp at hy; subst hy; exact .str))

theorem rtextsT_ok (v : Nat) (s : List UInt8) (hs : s.length ≤ 4398046511104) :
    CallOk cx 43 [.ptr 0 v 0] (rd v s) (Rd v (rTexts s) fun ts => .sl true false 1 (texts ts)) :=
  callOk_trunc ((rtexts_ok v s hs).mono fun o σ' h => by
    cases hx : rTexts s with
    | none =>
      rw [hx] at h
      obtain ⟨rfl, r, u, ts, rfl⟩ := h
      exact ⟨1, Nat.le_refl _, low_rd _ _ _, .iface (.agg (by simp)), rfl, r, rfl⟩
    | some p =>
      obtain ⟨ts, r⟩ := p
      rw [hx] at h
      obtain ⟨u, rfl, rfl⟩ := h
      exact ⟨1, Nat.le_refl _, low_rd _ _ _, _, .ms1 (Nat.le_refl _) rfl (texts_one _) (by simp [texts]) (fun x hx => .free (texts_any (st := false) _ x hx)), rfl, rfl⟩)

theorem brk_low {k : Nat} : Low k brk := .iface (.agg (by simp))

theorem ract_ok (v : Nat) (s : List UInt8) (hs : s.length ≤ 4398046511104) :
    CallOk cx 42 [.ptr 0 v 0] (rd v s) (Rd v (rAct s) (actAV true)) :=
  callOk_introT (fun a w => Tryd.call42 a w) Tryd.func42 rfl Tryd.ntmps42 rfl fun B => by
    have free_t : ∀ ts : List (List UInt8), Free false (.sl true false 1 (texts ts)) := fun ts => .sl (fun h => by cases h) (texts_any _)
    refine ab 1000 rfl trivial ?_
    refine S_rd 0 rfl rfl rfl rfl rfl (fun y h => by cases h) (rtextsT_ok v s (by omega)) free_t (fun c r1 h1 => ?_) (fun h1 r => ?_)
    · have b1 := rTexts_bd h1
      refine ab 1000 rfl trivial ?_
      refine S_rd 0 rfl rfl rfl rfl rfl (fun y h => by cases h) (rtext_ok v r1 (by omega)) (fun _ => .str) (fun i r2 h2 => ?_) (fun h2 r => ?_)
      · have b2 := rText_bd h2
        refine ab 1000 rfl trivial ?_
        refine S_rd 0 rfl rfl rfl rfl rfl (fun y h => by cases h) (rtextsT_ok v r2 (by omega)) free_t (fun o r3 h3 => ?_) (fun h3 r => ?_)
        · have b3 := rTexts_bd h3
          refine ab 1000 rfl trivial ?_
          refine S_rd 0 rfl rfl rfl rfl rfl (fun y h => by cases h) (rnumber_ok v r3 (by omega)) (fun _ => .int) (fun k r4 h4 => ?_) (fun h4 r => ?_)
          · have hR : rAct s = some (⟨c, i, o, k⟩, r4) := by simp only [rAct, h1, h2, h3, h4]
            refine ab 1000 rfl ⟨lble rfl, rfl, trivial⟩ ?_
            refine S_ret ⟨_, _, rfl, ⟨rfl, trivial⟩, 1, Nat.le_refl _, low_rd _ _ _, actAV true ⟨c, i, o, k⟩, .low (.free (actAV_free (st := true) (st' := true) (fun _ => rfl) ⟨c, i, o, k⟩)), ?_⟩
            rw [hR]
            exact ⟨rfl, rfl⟩
          · refine ⟨1, Nat.le_refl _, low_rd _ _ _, brk_low, ?_⟩
            rw [show rAct s = none by simp only [rAct, h1, h2, h3, h4]]
            exact ⟨rfl, r, rfl⟩
        · refine ⟨1, Nat.le_refl _, low_rd _ _ _, brk_low, ?_⟩
          rw [show rAct s = none by simp only [rAct, h1, h2, h3]]
          exact ⟨rfl, r, rfl⟩
      · refine ⟨1, Nat.le_refl _, low_rd _ _ _, brk_low, ?_⟩
        rw [show rAct s = none by simp only [rAct, h1, h2]]
        exact ⟨rfl, r, rfl⟩
    · refine ⟨1, Nat.le_refl _, low_rd _ _ _, brk_low, ?_⟩
      rw [show rAct s = none by simp only [rAct, h1]]
      exact ⟨rfl, r, rfl⟩

def act0 : ActV := ⟨[], [], [], 0⟩
/-- What ReadAction answers. -/
def readA (s : List UInt8) : ActV × Nat :=
  match rAct s with
  | none => (act0, 1)
  | some (x, _) => if actE x = 0 ∧ packA x = s then (x, 0) else (act0, 1)

theorem readAV_ok (x : ActV × Nat) : Free true (.tup [actAV true x.1, .int .i64 x.2]) := .tup (by intro y hy; simp at hy; rcases hy with rfl | rfl; exact actAV_free (fun _ => rfl) _; exact .int)

/-- The answer's box: as it lies first, and where nothing was read. -/
def actZ (id : Nat) : Nat × Option Box := (id, some (.cells [.nils, .str [], .nils, .int .i64 0] ⟨false, some 26⟩))
def actBx (id : Nat) (x : ActV) : Nat × Option Box := (id, some (.cells [.sl true false 1 (texts x.cmd), .str x.inp, .sl true false 1 (texts x.outs), .int .i64 x.fuel] ⟨false, some 26⟩))

theorem aclosure_ret (x : ActV) (e : Int) (b c : Nat) (Xb Xc : Box) (R : Md → Heap → Prop) (h : R .ret [actBx 0 x, xb (.int .i64 e), (b, some Xb), (c, some Xc), zb]) :
    DCall cx (.func (.func 54) [] [.ptr 0 0 0, .ptr 1 0 0]) .ret [actBx 0 x, xb (.int .i64 e), (b, some Xb), (c, some Xc)] R :=
  dcall_recover (fun a w => Tryd.call54 a w) Tryd.func54 rfl Tryd.ntmps54 rfl rfl rfl rfl rfl rfl rfl fun B => by
    refine ab 1000 rfl ⟨lble rfl, rfl, trivial⟩ ?_
    refine S_cond rfl (fun h => by cases h) (fun _ => ?_)
    refine ab 1000 rfl trivial ?_
    exact S_nil ⟨_, _, rfl, trivial, _, rfl, h⟩

theorem aclosure_pan2 (e : Int) (b c : Nat) (Xb Xc : Box) (R : Md → Heap → Prop) (h : R (.pan brk true) [actZ 0, xb (.int .i64 1), (b, some Xb), (c, some Xc), zb, actZ 0]) :
    DCall cx (.func (.func 54) [] [.ptr 0 0 0, .ptr 1 0 0]) (.pan brk false) [actZ 0, xb (.int .i64 e), (b, some Xb), (c, some Xc)] R :=
  dcall_recover (fun a w => Tryd.call54 a w) Tryd.func54 rfl Tryd.ntmps54 rfl rfl rfl rfl rfl rfl rfl fun B => by
    refine ab 1000 rfl ⟨lble rfl, rfl, trivial⟩ ?_
    refine S_cond rfl (fun _ => ?_) (fun h => by cases h)
    refine ab 1000 rfl ⟨lble rfl, rfl, lble rfl, rfl, rfl, trivial⟩ ?_
    exact S_nil ⟨_, _, rfl, trivial, _, rfl, h⟩

theorem aclosure_pan1 (e : Int) (b : Nat) (Xb : Box) (R : Md → Heap → Prop) (h : R (.pan brk true) [actZ 0, xb (.int .i64 1), (b, some Xb), zb, actZ 0]) :
    DCall cx (.func (.func 54) [] [.ptr 0 0 0, .ptr 1 0 0]) (.pan brk false) [actZ 0, xb (.int .i64 e), (b, some Xb)] R :=
  dcall_recover (fun a w => Tryd.call54 a w) Tryd.func54 rfl Tryd.ntmps54 rfl rfl rfl rfl rfl rfl rfl fun B => by
    refine ab 1000 rfl ⟨lble rfl, rfl, trivial⟩ ?_
    refine S_cond rfl (fun _ => ?_) (fun h => by cases h)
    refine ab 1000 rfl ⟨lble rfl, rfl, lble rfl, rfl, rfl, trivial⟩ ?_
    exact S_nil ⟨_, _, rfl, trivial, _, rfl, h⟩

theorem actZ_fz (σ : Heap) (e : Int) : Frz true σ (.tup [.agg [.nils, .str [], .nils, .int .i64 0], .int .i64 e]) (.tup [actAV true act0, .int .i64 e]) :=
  Fzs.tup (.cons (.agg rfl (fun i h h' => by
    match i, h, h' with
    | 0, _, _ => exact .nils
    | 1, _, _ => exact .refl .str
    | 2, _, _ => exact .nils
    | 3, _, _ => exact .refl .int)) (.cons (.refl .int) .nil))

theorem rRep_part : ∀ (n : Nat) (r : List UInt8) {ts : List (List UInt8)} {r' : List UInt8}, rRep n r = some (ts, r') → ∀ t ∈ ts, t.length ≤ r.length
  | 0, r, ts, r', h => by cases h; simp
  | n + 1, r, ts, r', h => by
    rw [rRep] at h
    split at h
    · cases h
    · rename_i t r1 h1
      have hb := rText_bd h1
      split at h
      · cases h
      · rename_i ts1 r2 h2
        have ih := rRep_part n r1 h2
        cases h
        intro x hx
        rcases List.mem_cons.1 hx with rfl | hx
        · omega
        · have := ih x hx; omega

theorem rTexts_part {s r : List UInt8} {ts : List (List UInt8)} (h : rTexts s = some (ts, r)) : ∀ t ∈ ts, t.length ≤ s.length := by
  unfold rTexts at h
  split at h
  · cases h
  · rename_i n r1 h1
    have hb := rMany_bd h1
    intro t ht
    have := rRep_part n r1 h t ht
    omega

theorem rAct_fit {s r : List UInt8} {x : ActV} (h : rAct s = some (x, r)) (hs : s.length ≤ 1099511627776) : ActOk x := by
  unfold rAct at h
  split at h
  · cases h
  rename_i c r1 h1
  have b1 := rTexts_bd h1
  split at h
  · cases h
  rename_i i r2 h2
  have b2 := rText_bd h2
  split at h
  · cases h
  rename_i o r3 h3
  have b3 := rTexts_bd h3
  have p3 := rTexts_part h3
  split at h
  · cases h
  cases h
  exact ⟨by show c.length ≤ _; omega, by show i.length ≤ _; omega, by show o.length ≤ _; omega, fun t ht => by have := p3 t ht; omega⟩

theorem readAct_ok (s : List UInt8) (hs : s.length ≤ 1099511627776) :
    Calc cx 41 [.str s, .func (.func 42) [] [], .func (.func 10) [] []] (.tup [actAV true (readA s).1, .int .i64 (readA s).2]) :=
  calc_of (readAV_ok _) (callOk_introD (fun a w => Tryd.call41 a w) Tryd.func41 rfl Tryd.ntmps41 rfl fun B hB => by
    refine ab 1000 rfl trivial ?_
    refine S_defer rfl rfl rfl rfl hB ?_
    refine ab 1000 rfl trivial ?_
    refine S_rd 2 rfl rfl rfl rfl rfl (fun y h => by cases h) (ract_ok 0 s (by omega)) (fun x => actAV_free (fun h => by cases h) x) (fun x r hx => ?_) (fun hx r => ?_)
    · have hok : ActOk x := rAct_fit hx hs
      obtain ⟨xc, xi, xo, xf⟩ := x
      refine ab 1000 rfl ⟨rfl, lble rfl, rfl, trivial⟩ ?_
      refine S_pure rfl rfl rfl (Action_ok (st := true) ⟨xc, xi, xo, xf⟩ hok) (.cons (.refl (actAV_free (fun _ => rfl) _)) (.nil _)) ?_
      refine ab 1000 rfl trivial ?_
      have good : ¬ (actE ⟨xc, xi, xo, xf⟩ = 0 ∧ packA ⟨xc, xi, xo, xf⟩ = s) → readA s = (act0, 1) := by
        intro h
        simp only [readA, hx]
        rw [if_neg h]
      refine S_guard rfl rfl rfl rfl (fun hg => ?_) (fun hg => ?_)
      · have hpe : actE ⟨xc, xi, xo, xf⟩ ≠ 0 := by
          have hh : (((actE ⟨xc, xi, xo, xf⟩ : Nat) : Int) != 0) = true := hg
          intro e; rw [e] at hh; exact absurd hh (by decide)
        refine ab 1000 rfl trivial ?_
        refine S_cond rfl (fun _ => ?_) (fun h => by cases h)
        refine ab 1000 rfl trivial ?_
        refine S_panic rfl rfl rfl ⟨_, rfl, aclosure_pan2 0 _ _ _ _ _ ⟨_, _, rfl, ⟨rfl, rfl, trivial⟩, _, rfl, ?_⟩⟩
        rw [good (fun h => hpe h.1)]
        exact actZ_fz _ _
      · have hpe : actE ⟨xc, xi, xo, xf⟩ = 0 := by
          have hh : (((actE ⟨xc, xi, xo, xf⟩ : Nat) : Int) != 0) = false := hg
          have : ((actE ⟨xc, xi, xo, xf⟩ : Nat) : Int) = 0 := by simpa using hh
          omega
        rw [hpe, if_pos rfl]
        refine ab 1000 rfl trivial ?_
        refine S_cond rfl (fun h => ?_) (fun h => ?_)
        · have hne : ¬ packA ⟨xc, xi, xo, xf⟩ = s := by simpa using h
          refine ab 1000 rfl trivial ?_
          refine S_panic rfl rfl rfl ⟨_, rfl, aclosure_pan2 0 _ _ _ _ _ ⟨_, _, rfl, ⟨rfl, rfl, trivial⟩, _, rfl, ?_⟩⟩
          rw [good (fun h => hne h.2)]
          exact actZ_fz _ _
        · have he : packA ⟨xc, xi, xo, xf⟩ = s := by simpa using h
          refine ab 1000 rfl ⟨lble rfl, rfl, lble rfl, rfl, rfl, trivial⟩ ?_
          refine S_ret ⟨_, rfl, aclosure_ret ⟨xc, xi, xo, xf⟩ 0 _ _ _ _ _ ⟨_, _, rfl, ⟨rfl, rfl, trivial⟩, _, rfl, ?_⟩⟩
          rw [show readA s = (⟨xc, xi, xo, xf⟩, 0) by simp only [readA, hx]; rw [if_pos ⟨hpe, he⟩]]
          exact .refl (readAV_ok (⟨xc, xi, xo, xf⟩, 0))
    · refine ⟨_, rfl, aclosure_pan1 0 _ _ _ ⟨_, _, rfl, ⟨rfl, rfl, trivial⟩, _, rfl, ?_⟩⟩
      rw [show readA s = (act0, 1) by simp only [readA, hx]]
      exact actZ_fz _ _)

end Go.Proofs.YtjpmngjoohoddaaDoor
