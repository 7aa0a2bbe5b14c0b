/-
  Results read.
-/
import Derived.Test.YtjbgcbolakdhaabWireR
import Derived.Test.YtjbgcbolakdhaabWireQ
set_option linter.unusedVariables false
set_option linter.unusedSimpArgs false
set_option maxRecDepth 20000
namespace Go.Proofs.Ytjbgcbolakdhaab
open Go Go.Ab

/-- A result read. -/
def rRes (s : List UInt8) : Option (ResV × List UInt8) :=
  match rNum s with
  | none => none
  | some (m, r) =>
    match rText r with
    | none => none
    | some (t, r) =>
      match rNum r with
      | none => none
      | some (k, r) => some (⟨m, t, k⟩, r)

theorem rRes_bd {s r : List UInt8} {x : ResV} (h : rRes s = some (x, r)) : x.out.length ≤ s.length := by
  unfold rRes at h
  split at h
  · cases h
  · rename_i m r1 h1
    split at h
    · cases h
    · rename_i t r2 h2
      split at h
      · cases h
      · rename_i k r3 h3
        cases h
        have := rNum_bd h1
        have := rText_bd h2
        simp only; omega

def resB (x : ResV) : Nat × Option Box := (0, some (.cells [.int .i64 x.code, .str x.out, .int .i64 x.spent] ⟨false, some 38⟩))
def res0 : ResV := ⟨0, [], 0⟩

/-- What a reader of a result leaves. -/
def RdRes (v : Nat) (x : Option (ResV × List UInt8)) : Out → Heap → Prop := fun o σ' =>
  match x with
  | some (y, r) => o = .ret (resAV y) ∧ σ' = [rdE v r, resB y]
  | none => o = .panic brk ∧ ∃ r, σ' = [rdE v r, resB res0]

theorem rres_ok (v : Nat) (s : List UInt8) (hs : s.length ≤ 4398046511104) :
    CallOk cx 37 [.ptr 0 v 0] (rd v s) (RdRes v (rRes s)) :=
  callOk_intro (fun a w => Try.call37 a w) Try.func37 rfl Try.ntmps37 rfl fun B => by
    refine ab 1000 rfl trivial ?_
    refine S_rd 0 rfl rfl rfl rfl rfl (fun y h => by cases h) (rnumber_ok v s (by omega)) (fun _ => .int) (fun m r1 h1 => ?_) (fun h1 r => ?_)
    · have b1 := rNum_bd h1
      refine ab 1000 rfl trivial ?_
      refine S_rd 0 rfl rfl rfl rfl rfl (fun y h => by cases h) (rtext_ok v r1 (by omega)) (fun _ => .str) (fun t r2 h2 => ?_) (fun h2 r => ?_)
      · have b2 := rText_bd h2
        refine ab 1000 rfl trivial ?_
        refine S_rd 0 rfl rfl rfl rfl rfl (fun y h => by cases h) (rnumber_ok v r2 (by omega)) (fun _ => .int) (fun k r3 h3 => ?_) (fun h3 r => ?_)
        · have hR : rRes s = some (⟨m, t, k⟩, r3) := by simp only [rRes, h1, h2, h3]
          refine ab 1000 rfl ⟨lble rfl, rfl, trivial⟩ ?_
          refine S_ret ⟨_, _, rfl, ⟨rfl, trivial⟩, ?_⟩
          rw [hR]
          exact ⟨rfl, rfl⟩
        · show RdRes v (rRes s) (.panic brk) _
          rw [show rRes s = none by simp only [rRes, h1, h2, h3]]
          exact ⟨rfl, r, rfl⟩
      · show RdRes v (rRes s) (.panic brk) _
        rw [show rRes s = none by simp only [rRes, h1, h2]]
        exact ⟨rfl, r, rfl⟩
    · show RdRes v (rRes s) (.panic brk) _
      rw [show rRes s = none by simp only [rRes, h1]]
      exact ⟨rfl, r, rfl⟩

/-- What ReadResult answers. -/
def readR (s : List UInt8) : ResV × Nat :=
  match rRes s with
  | none => (res0, 1)
  | some (x, _) => if resE x = 0 ∧ packR x = s then (x, 0) else (res0, 1)

theorem readRAV_free (x : ResV × Nat) : Free true (.tup [resAV x.1, .int .i64 x.2]) := .tup (by intro y hy; simp at hy; rcases hy with rfl | rfl; exact resAV_free _; exact .int)

theorem rclosure_ret (x : ResV) (e : Int) (a b c : Nat) (Xa Xb Xc : Box) (R : Md → Heap → Prop) (h : R .ret [resB x, xb (.int .i64 e), (a, some Xa), (b, some Xb), (c, some Xc), zb]) :
    DCall cx (.func (.func 46) [] [.ptr 0 0 0, .ptr 1 0 0]) .ret [resB x, xb (.int .i64 e), (a, some Xa), (b, some Xb), (c, some Xc)] R :=
  dcall_recover (fun a w => Try.call46 a w) Try.func46 rfl Try.ntmps46 rfl rfl rfl rfl rfl rfl rfl fun B => by
    refine ab 1000 rfl ⟨lble rfl, rfl, trivial⟩ ?_
    refine S_cond rfl (fun h => by cases h) (fun _ => ?_)
    refine ab 1000 rfl trivial ?_
    exact S_nil ⟨_, _, rfl, trivial, _, rfl, h⟩

theorem rclosure_pan3 (x : ResV) (e : Int) (a b c : Nat) (Xa Xb Xc : Box) (R : Md → Heap → Prop) (h : R (.pan brk true) [resB res0, xb (.int .i64 1), (a, some Xa), (b, some Xb), (c, some Xc), zb, resB res0]) :
    DCall cx (.func (.func 46) [] [.ptr 0 0 0, .ptr 1 0 0]) (.pan brk false) [resB x, xb (.int .i64 e), (a, some Xa), (b, some Xb), (c, some Xc)] R :=
  dcall_recover (fun a w => Try.call46 a w) Try.func46 rfl Try.ntmps46 rfl rfl rfl rfl rfl rfl rfl fun B => by
    refine ab 1000 rfl ⟨lble rfl, rfl, trivial⟩ ?_
    refine S_cond rfl (fun _ => ?_) (fun h => by cases h)
    refine ab 1000 rfl ⟨lble rfl, rfl, lble rfl, rfl, rfl, trivial⟩ ?_
    exact S_nil ⟨_, _, rfl, trivial, _, rfl, h⟩

theorem rclosure_pan2 (x : ResV) (e : Int) (a b : Nat) (Xa Xb : Box) (R : Md → Heap → Prop) (h : R (.pan brk true) [resB res0, xb (.int .i64 1), (a, some Xa), (b, some Xb), zb, resB res0]) :
    DCall cx (.func (.func 46) [] [.ptr 0 0 0, .ptr 1 0 0]) (.pan brk false) [resB x, xb (.int .i64 e), (a, some Xa), (b, some Xb)] R :=
  dcall_recover (fun a w => Try.call46 a w) Try.func46 rfl Try.ntmps46 rfl rfl rfl rfl rfl rfl rfl fun B => by
    refine ab 1000 rfl ⟨lble rfl, rfl, trivial⟩ ?_
    refine S_cond rfl (fun _ => ?_) (fun h => by cases h)
    refine ab 1000 rfl ⟨lble rfl, rfl, lble rfl, rfl, rfl, trivial⟩ ?_
    exact S_nil ⟨_, _, rfl, trivial, _, rfl, h⟩

theorem readRes_ok (s : List UInt8) (hs : s.length ≤ 4398046511104) :
    Calc cx 36 [.str s, .func (.func 37) [] [], .func (.func 17) [] []] (.tup [resAV (readR s).1, .int .i64 (readR s).2]) :=
  calc_of (readRAV_free _) (callOk_introD (fun a w => Try.call36 a w) Try.func36 rfl Try.ntmps36 rfl fun B hB => by
    refine ab 1000 rfl trivial ?_
    refine S_defer rfl rfl rfl rfl hB ?_
    refine ab 1000 rfl trivial ?_
    have rnb : ∀ {x : ResV}, RnE [2, 3] (resB x) (resB x) := fun {x} => .live (.cells (.free (by intro y hy; simp at hy; rcases hy with rfl | rfl | rfl; exact .int; exact .str; exact .int)))
    refine S_callf [2] (rres_ok 0 s (by omega)) rfl (.cons (.ptr rfl) (.nil _)) (Part.mk' (es := [rdE 0 s]) rfl rfl (.cons (.live (.cells (.cons (.free .str) (.nil _)))) (.nil _))) rfl rfl ?_ ?_
    · intro y σ1 h
      cases hx : rRes s with
      | none => rw [hx] at h; cases h.1
      | some p =>
        obtain ⟨x, r⟩ := p
        have hb := rRes_bd hx
        rw [hx] at h
        obtain ⟨h1, rfl⟩ := h
        cases h1
        refine ⟨resAV x, [rdE 0 r, resB x], .cons (.live (.cells (.cons (.free .str) (.nil _)))) (.cons rnb (.nil _)), .free (resAV_free x), ?_⟩
        refine ab 1000 rfl ⟨rfl, lble rfl, rfl, trivial⟩ ?_
        refine S_pure rfl rfl rfl (Result_ok x (by omega)) (.cons (.refl (resAV_free x)) (.nil _)) ?_
        refine ab 1000 rfl trivial ?_
        have good : ¬ (resE x = 0 ∧ packR x = s) → readR s = (res0, 1) := by
          intro h
          simp only [readR, hx]
          rw [if_neg h]
        refine S_guard rfl rfl rfl rfl (fun hg => ?_) (fun hg => ?_)
        · have hpe : resE x ≠ 0 := by
            have hh : (((resE x : Nat) : Int) != 0) = true := hg
            intro e; rw [e] at hh; exact absurd hh (by decide)
          refine ab 1000 rfl trivial ?_
          refine S_cond rfl (fun _ => ?_) (fun h => by cases h)
          refine ab 1000 rfl trivial ?_
          refine S_panic rfl rfl rfl ⟨_, rfl, rclosure_pan3 res0 0 _ _ _ _ _ _ _ ⟨_, _, rfl, ⟨rfl, rfl, trivial⟩, _, rfl, ?_⟩⟩
          rw [good (fun h => hpe h.1)]
          exact .refl (readRAV_free (res0, 1))
        · have hpe : resE x = 0 := by
            have hh : (((resE x : Nat) : Int) != 0) = false := hg
            have : ((resE x : Nat) : Int) = 0 := by simpa using hh
            omega
          rw [hpe, if_pos rfl]
          refine ab 1000 rfl trivial ?_
          refine S_cond rfl (fun h => ?_) (fun h => ?_)
          · have hne : ¬ packR x = s := by simpa using h
            refine ab 1000 rfl trivial ?_
            refine S_panic rfl rfl rfl ⟨_, rfl, rclosure_pan3 res0 0 _ _ _ _ _ _ _ ⟨_, _, rfl, ⟨rfl, rfl, trivial⟩, _, rfl, ?_⟩⟩
            rw [good (fun h => hne h.2)]
            exact .refl (readRAV_free (res0, 1))
          · have he : packR x = s := by simpa using h
            refine ab 1000 rfl ⟨lble rfl, rfl, lble rfl, rfl, rfl, trivial⟩ ?_
            refine S_ret ⟨_, rfl, rclosure_ret x 0 _ _ _ _ _ _ _ ⟨_, _, rfl, ⟨rfl, rfl, trivial⟩, _, rfl, ?_⟩⟩
            rw [show readR s = (x, 0) by simp only [readR, hx]; rw [if_pos ⟨hpe, he⟩]]
            exact .refl (readRAV_free (x, 0))
    · intro y σ1 h
      cases hx : rRes s with
      | some p => obtain ⟨x, r⟩ := p; rw [hx] at h; obtain ⟨h1, _⟩ := h; cases h1
      | none =>
        rw [hx] at h
        obtain ⟨h1, r, rfl⟩ := h
        cases h1
        refine ⟨brk, [rdE 0 r, resB res0], .cons (.live (.cells (.cons (.free .str) (.nil _)))) (.cons rnb (.nil _)), .iface (.agg rfl (fun i h => absurd h (by simp))), ?_⟩
        refine ⟨_, rfl, rclosure_pan2 res0 0 _ _ _ _ _ ⟨_, _, rfl, ⟨rfl, rfl, trivial⟩, _, rfl, ?_⟩⟩
        rw [show readR s = (res0, 1) by simp only [readR, hx]]
        exact .refl (readRAV_free (res0, 1)))

theorem ReadResult_ok (s : List UInt8) (hs : s.length ≤ 4398046511104) : Calc cx 21 [.str s] (.tup [resAV (readR s).1, .int .i64 (readR s).2]) :=
  pure_intro (fun a w => Try.call21 a w) Try.func21 rfl Try.ntmps21 rfl (readRAV_free _) fun B => by
    refine ab 1000 rfl trivial ?_
    refine S_pure rfl rfl rfl (readRes_ok s hs) (.cons (.refl .str) (.cons (.refl (.func (fun x h => by cases h) (fun x h => by cases h))) (.cons (.refl (.func (fun x h => by cases h) (fun x h => by cases h))) (.nil _)))) ?_
    refine ab 1000 rfl ⟨lble rfl, rfl, trivial⟩ ?_
    exact S_retc (readRAV_free _) rfl ⟨rfl, trivial⟩ rfl

theorem readR_ok {s : List UInt8} {x : ResV} {e : Nat} (h : readR s = (x, e)) : (e = 0 ∧ resE x = 0 ∧ packR x = s) ∨ (e = 1 ∧ x = res0) := by
  unfold readR at h
  split at h
  · cases h; exact .inr ⟨rfl, rfl⟩
  · rename_i x' r hx
    by_cases hc : resE x' = 0 ∧ packR x' = s
    · rw [if_pos hc] at h; cases h; exact .inl ⟨rfl, hc.1, hc.2⟩
    · rw [if_neg hc] at h; cases h; exact .inr ⟨rfl, rfl⟩

theorem rRes_pack (x : ResV) (rest : List UInt8) (he : resE x = 0) : rRes (packR x ++ rest) = some (x, rest) := by
  obtain ⟨⟨m, hm, hm1⟩, ⟨k, hk, hk1⟩, hd, hl⟩ := resE_ok he
  obtain ⟨code, out, spent⟩ := x
  simp only at hm hk hl hd
  subst hm; subst hk
  have e : packR ⟨m, out, k⟩ ++ rest = packN 9 m ++ (packT out ++ (packN 9 k ++ rest)) := by simp [packR]
  rw [e]
  unfold rRes
  rw [rNum_pack m _ hm1]
  simp only
  rw [rText_pack out _ (by omega)]
  simp only
  rw [rNum_pack k _ hk1]

theorem readR_pack (x : ResV) (he : resE x = 0) : readR (packR x) = (x, 0) := by
  have := rRes_pack x [] he
  rw [List.append_nil] at this
  simp only [readR, this, he, and_self, if_true]

theorem packR_inj {a b : ResV} (ha : resE a = 0) (hb : resE b = 0) (h : packR a = packR b) : a = b := by
  have h1 := readR_pack a ha
  rw [h, readR_pack b hb] at h1
  exact (congrArg Prod.fst h1).symm

end Go.Proofs.Ytjbgcbolakdhaab
