/-
  Texts read; and what read makes of it.
-/
import Derived.Test.YtjpmngjoohoddaaDoorWireE
import Derived.Test.YtjpmngjoohoddaaDoorWireD
import Derived.Test.YtjpmngjoohoddaaDoorWireT
set_option linter.unusedVariables false
set_option linter.unusedSimpArgs false
set_option maxRecDepth 20000
namespace Go.Proofs.YtjpmngjoohoddaaDoor
open Go Go.Ab

def rRep : Nat → List UInt8 → Option (List (List UInt8) × List UInt8)
  | 0, r => some ([], r)
  | n + 1, r =>
    match rText r with
    | none => none
    | some (t, r') =>
      match rRep n r' with
      | none => none
      | some (ts, r'') => some (t :: ts, r'')

def rTexts (s : List UInt8) : Option (List (List UInt8) × List UInt8) :=
  match rMany s with
  | none => none
  | some (n, r) => rRep n r

theorem rMany_bd {s r : List UInt8} {n : Nat} (h : rMany s = some (n, r)) : n ≤ r.length ∧ r.length + 1 ≤ s.length := by
  unfold rMany at h
  split at h
  · rename_i n' r' h1
    have := rNum_bd h1
    split at h
    · cases h
    · cases h; omega
  · cases h

def tb (u : Nat) (ts : List (List UInt8)) : Nat × Option Box := (u, some (.cells (texts ts) ⟨false, none⟩))

/-- What a reader of texts leaves. -/
def RdTexts (v : Nat) (x : Option (List (List UInt8) × List UInt8)) : Out → Heap → Prop := fun o σ' =>
  match x with
  | some (ts, r) => ∃ u, o = .ret (.ms 1 u 0 ts.length 1 false) ∧ σ' = [rdE v r, tb u ts]
  | none => o = .panic brk ∧ ∃ r u ts, σ' = [rdE v r, tb u ts]

theorem rtexts_ok (v : Nat) (s : List UInt8) (hs : s.length ≤ 4398046511104) :
    CallOk cx 43 [.ptr 0 v 0] (rd v s) (RdTexts v (rTexts s)) :=
  callOk_intro (fun a w => Tryd.call43 a w) Tryd.func43 rfl Tryd.ntmps43 rfl fun B => by
    refine ab 1000 rfl trivial ?_
    refine S_ghostF (t := 3) 1 ⟨false, none⟩ rfl rfl ⟨.skip, _, .inr ⟨_, _, _, rfl⟩⟩ ?_
    refine S_rd 0 rfl rfl rfl rfl rfl (fun y h => by cases h) (rmany_ok v s (by omega)) (fun _ => .int) (fun n r hx => ?_) (fun hx r => ?_)
    · have hb := rMany_bd hx
      refine ab 1000 rfl trivial ?_
      refine S_while (α := List (List UInt8) × List UInt8 × Nat) (fun (ts, r, u) => [(0, .ptr 0 v 0), (3, .ms 1 u 0 ts.length 1 false), (5, .int .i64 n), (6, .int .i64 ts.length)]) (fun (ts, r, u) => [rdE v r, tb u ts])
        (fun (ts, r, u) => ts.length ≤ n ∧ ts.length + r.length ≤ s.length ∧ rTexts s = (match rRep (n - ts.length) r with | none => none | some (ts', r') => some (ts ++ ts', r'))) (fun (ts, r, u) => n - ts.length) ([], r, 0)
        ⟨Nat.zero_le _, by simp; omega, ?_⟩ (.cons rfl (.cons rfl (.cons rfl (.cons rfl (.nil _))))) rfl ?_
      · simp only [rTexts, hx, List.length_nil, Nat.sub_zero, List.nil_append]
        cases rRep n r <;> rfl
      rintro ⟨ts, r, u⟩ ⟨h1, h2, h3⟩
      refine ab 1000 rfl trivial ?_
      refine S_dec rfl (fun hlt => ?_) (fun hlt => ?_)
      · obtain ⟨m, hm⟩ : ∃ m, n - ts.length = m + 1 := ⟨n - ts.length - 1, by omega⟩
        rw [hm, rRep] at h3
        refine ab 1000 rfl trivial ?_
        refine S_rd 0 rfl rfl rfl rfl rfl (fun y h => by cases h) (rtext_ok v r (by omega)) (fun _ => .str) (fun t r' hx' => ?_) (fun hx' r' => ?_)
        · have hb' := rText_bd hx'
          rw [hx'] at h3
          refine ab 1000 rfl ⟨?_, ?_, ?_, rfl, rfl, allOne_mem (cs := [.str t]) rfl, allOne_mem (cs := [.str t]) rfl, rfl, trivial⟩ ?_
          · show ts.length + 1 ≤ 9223372036854775807; omega
          · show (ts.length + 1) * 16 ≤ 140737488355328; omega
          · show 0 + ts.length * 1 = (texts ts).length; simp [texts]
          refine S_round (ts ++ [t], r', u + 1) (by show n - (ts ++ [t]).length < n - ts.length; simp; omega) ⟨by simp; omega, by simp; omega, ?_⟩ (.cons rfl (.cons ?_ (.cons rfl (.cons ?_ (.nil _))))) ?_
          · rw [h3, show n - (ts ++ [t]).length = m by simp; omega]
            cases hq : rRep m r' <;> simp [hq]
          · show AV.ms 1 (u + 1) 0 (ts.length + 1) 1 false = _
            simp
          · show AV.int .i64 (IntKind.i64.wrap ((ts.length : Int) + 1)) = _
            exact ai64 (by simp) (by simp; omega)
          · show [rdE v r', (u + 1, some (Box.cells (texts ts ++ [.str t]) ⟨false, none⟩))] = _
            simp [texts, tb]
        · rw [hx'] at h3
          show RdTexts v (rTexts s) (.panic brk) _
          rw [h3]
          exact ⟨rfl, r', u, ts, rfl⟩
      · refine ab 1000 rfl trivial ?_
        refine S_ret ⟨_, _, rfl, trivial, ?_⟩
        have h0 : n - ts.length = 0 := by omega
        rw [h0, rRep] at h3
        rw [h3]
        exact ⟨u, by simp; rfl, by simp⟩
    · show RdTexts v (rTexts s) (.panic brk) _
      simp only [rTexts, hx]
      exact ⟨rfl, r, 0, [], rfl⟩

/-- What read answers: the thing read, if it is packed so; else none. -/
def readT (s : List UInt8) : List (List UInt8) × Nat :=
  match rTexts s with
  | none => ([], 1)
  | some (ts, _) => if textsOf ts = (s, 0) then (ts, 0) else ([], 1)

theorem readAV_free (x : List (List UInt8) × Nat) : Free true (.tup [.sl true false 1 (texts x.1), .int .i64 x.2]) := .tup (by intro y hy; simp at hy; rcases hy with rfl | rfl; exact .sl (fun _ => rfl) (texts_free _); exact .int)

theorem rRep_bd : ∀ (n : Nat) (r : List UInt8) {ts : List (List UInt8)} {r' : List UInt8}, rRep n r = some (ts, r') → ts.length = n ∧ ts.length + r'.length ≤ r.length
  | 0, r, ts, r', h => by cases h; simp
  | n + 1, r, ts, r', h => by
    rw [rRep] at h
    split at h
    · cases h
    · rename_i t r1 h1
      have hb := rText_bd h1
      split at h
      · cases h
      · rename_i ts1 r2 h2
        have := rRep_bd n r1 h2
        cases h
        simp only [List.length_cons]; omega

theorem rTexts_bd {s : List UInt8} {ts : List (List UInt8)} {r : List UInt8} (h : rTexts s = some (ts, r)) : ts.length + r.length + 1 ≤ s.length := by
  unfold rTexts at h
  split at h
  · cases h
  · rename_i n r1 h1
    have := rMany_bd h1
    have := rRep_bd n r1 h
    omega

def zb : Nat × Option Box := (0, some (.cells [] ⟨false, some 85⟩))
def xb (x : AV) : Nat × Option Box := (0, some (.cells [x] ⟨false, none⟩))

theorem closure_ret (x e : AV) (a b : Nat) (xa xb' : Box) (R : Md → Heap → Prop) (h : R .ret [xb x, xb e, (a, some xa), (b, some xb'), zb]) :
    DCall cx (.func (.func 57) [] [.ptr 0 0 0, .ptr 1 0 0]) .ret [xb x, xb e, (a, some xa), (b, some xb')] R :=
  dcall_recover (fun a w => Tryd.call57 a w) Tryd.func57 rfl Tryd.ntmps57 rfl rfl rfl rfl rfl rfl rfl fun B => by
    refine ab 1000 rfl ⟨lble rfl, rfl, trivial⟩ ?_
    refine S_cond rfl (fun h => by cases h) (fun _ => ?_)
    refine ab 1000 rfl trivial ?_
    exact S_nil ⟨_, _, rfl, trivial, _, rfl, h⟩

theorem closure_pan (x e : AV) (a b : Nat) (xa xb' : Box) (R : Md → Heap → Prop) (h : R (.pan brk true) [xb .nils, xb (.int .i64 1), (a, some xa), (b, some xb'), zb]) :
    DCall cx (.func (.func 57) [] [.ptr 0 0 0, .ptr 1 0 0]) (.pan brk false) [xb x, xb e, (a, some xa), (b, some xb')] R :=
  dcall_recover (fun a w => Tryd.call57 a w) Tryd.func57 rfl Tryd.ntmps57 rfl rfl rfl rfl rfl rfl rfl fun B => by
    refine ab 1000 rfl ⟨lble rfl, rfl, trivial⟩ ?_
    refine S_cond rfl (fun _ => ?_) (fun h => by cases h)
    refine ab 1000 rfl ⟨lble rfl, rfl, lble rfl, rfl, trivial⟩ ?_
    exact S_nil ⟨_, _, rfl, trivial, _, rfl, h⟩

theorem read_ok (s : List UInt8) (hs : s.length ≤ 4398046511104) :
    Calc cx 46 [.str s, .func (.func 43) [] [], .func (.func 47) [] []] (.tup [.sl true false 1 (texts (readT s).1), .int .i64 (readT s).2]) :=
  calc_of (readAV_free _) (callOk_introD (fun a w => Tryd.call46 a w) Tryd.func46 rfl Tryd.ntmps46 rfl fun B hB => by
    refine ab 1000 rfl trivial ?_
    refine S_defer rfl rfl rfl rfl hB ?_
    refine ab 1000 rfl trivial ?_
    refine S_callf [2] (rtexts_ok 0 s (by omega)) rfl (.cons (.ptr rfl) (.nil _)) (Part.mk' (es := [rdE 0 s]) rfl rfl (.cons (.live (.cells (.cons (.free .str) (.nil _)))) (.nil _))) rfl rfl ?_ ?_
    · intro y σ1 h
      cases hx : rTexts s with
      | none => rw [hx] at h; cases h.1
      | some p =>
        obtain ⟨ts, r⟩ := p
        have hb := rTexts_bd hx
        rw [hx] at h
        obtain ⟨u, h1, rfl⟩ := h
        cases h1
        refine ⟨.ms 3 u 0 ts.length 1 false, [rdE 0 r, tb u ts], .cons (.live (.cells (.cons (.free .str) (.nil _)))) (.cons (.live (.cells (Rns.free (texts_any ts)))) (.nil _)), .ms rfl, ?_⟩
        refine ab 1000 rfl trivial ?_
        have htl : (texts ts).length = ts.length := by simp [texts]
        refine S_pure rfl rfl rfl (Texts_ok (st := false) (fl := false) ts (by omega)) (.cons ?_ (.nil _)) ?_
        · exact .ms1 rfl (texts_one _) htl (texts_any _)
        refine ab 1000 rfl trivial ?_
        generalize hto : textsOf ts = to_
        obtain ⟨pt, pe⟩ := to_
        have good : ¬ (pt = s ∧ pe = 0) → readT s = ([], 1) := by
          intro h
          simp only [readT, hx, hto, Prod.mk.injEq]
          rw [if_neg h]
        refine S_guard rfl rfl rfl rfl (fun hg => ?_) (fun hg => ?_)
        · have hpe : pe ≠ 0 := by
            have hh : ((pe : Int) != 0) = true := hg
            intro e; subst e; exact absurd hh (by decide)
          refine ab 1000 rfl trivial ?_
          refine S_cond rfl (fun _ => ?_) (fun h => by cases h)
          refine ab 1000 rfl trivial ?_
          refine S_panic rfl rfl rfl ⟨_, rfl, closure_pan _ _ _ _ _ _ _ ⟨_, _, rfl, ⟨rfl, rfl, trivial⟩, _, rfl, ?_⟩⟩
          rw [good (fun h => hpe h.2)]
          exact Fzs.tup (.cons .nils (.cons (.refl .int) .nil))
        · have hpe : pe = 0 := by
            have hh : ((pe : Int) != 0) = false := hg
            simpa using hh
          subst hpe
          refine ab 1000 rfl trivial ?_
          refine S_cond rfl (fun h => ?_) (fun h => ?_)
          · have hne : ¬ pt = s := by simpa using h
            refine ab 1000 rfl trivial ?_
            refine S_panic rfl rfl rfl ⟨_, rfl, closure_pan _ _ _ _ _ _ _ ⟨_, _, rfl, ⟨rfl, rfl, trivial⟩, _, rfl, ?_⟩⟩
            rw [good (fun h => hne h.1)]
            exact Fzs.tup (.cons .nils (.cons (.refl .int) .nil))
          · have he : pt = s := by simpa using h
            subst he
            refine ab 1000 rfl ⟨lble rfl, rfl, lble rfl, rfl, trivial⟩ ?_
            refine S_ret ⟨_, rfl, closure_ret _ _ _ _ _ _ _ ⟨_, _, rfl, ⟨rfl, rfl, trivial⟩, _, rfl, ?_⟩⟩
            rw [show readT pt = (ts, 0) by simp only [readT, hx, hto, if_true]]
            exact Fzs.tup (.cons (.ms1 rfl (texts_one _) htl (texts_free _)) (.cons (.refl .int) .nil))
    · intro y σ1 h
      cases hx : rTexts s with
      | some p => obtain ⟨ts, r⟩ := p; rw [hx] at h; obtain ⟨u, h1, _⟩ := h; cases h1
      | none =>
        rw [hx] at h
        obtain ⟨h1, r, u, ts, rfl⟩ := h
        cases h1
        refine ⟨brk, [rdE 0 r, tb u ts], .cons (.live (.cells (.cons (.free .str) (.nil _)))) (.cons (.live (.cells (Rns.free (texts_any ts)))) (.nil _)), .iface (.agg rfl (fun i h => absurd h (by simp))), ?_⟩
        refine ⟨_, rfl, closure_pan _ _ _ _ _ _ _ ?_⟩
        refine ⟨_, _, rfl, ⟨rfl, rfl, trivial⟩, _, rfl, ?_⟩
        rw [show readT s = ([], 1) by simp only [readT, hx]]
        exact Fzs.tup (.cons .nils (.cons (.refl .int) .nil)))

theorem ReadTexts_ok (s : List UInt8) (hs : s.length ≤ 4398046511104) : Calc cx 18 [.str s] (.tup [.sl true false 1 (texts (readT s).1), .int .i64 (readT s).2]) :=
  pure_intro (fun a w => Tryd.call18 a w) Tryd.func18 rfl Tryd.ntmps18 rfl (readAV_free _) fun B => by
    refine ab 1000 rfl trivial ?_
    refine S_pure rfl rfl rfl (read_ok s hs) (.cons (.refl .str) (.cons (.refl (.func (fun x h => by cases h) (fun x h => by cases h))) (.cons (.refl (.func (fun x h => by cases h) (fun x h => by cases h))) (.nil _)))) ?_
    refine ab 1000 rfl trivial ?_
    exact S_retc (readAV_free _) rfl trivial rfl

theorem readT_a : readT [1, 1, 97] = ([[97]], 0) := by decide +kernel

theorem wireBegun_ok : Calc cx 7 [] (.bool true) :=
  pure_intro (fun a w => Tryd.call7 a w) Tryd.func7 rfl Tryd.ntmps7 rfl .bool fun B => by
    refine ab 1000 rfl trivial ?_
    refine S_pure rfl rfl rfl (Number_ok 300 (by decide)) (.cons (.refl .int) (.nil _)) ?_
    rw [show packN 9 300 = [172, 2] by decide]
    refine ab 1000 rfl trivial ?_
    refine S_pure rfl rfl rfl (ReadNumber_ok [172, 2] (by decide)) (.cons (.refl .str) (.nil _)) ?_
    rw [show readN [172, 2] 0 0 = (300, 2, 0) by decide]
    refine ab 1000 rfl trivial ?_
    have hT := ReadTexts_ok [1, 1, 97] (by decide)
    rw [readT_a] at hT
    refine S_pure rfl rfl rfl hT (.cons (.refl .str) (.nil _)) ?_
    refine ab 1000 rfl trivial ?_
    refine S_guard rfl rfl rfl rfl (fun _ => ?_) (fun h => absurd h (by decide))
    refine ab 1000 rfl trivial ?_
    refine S_guard rfl rfl rfl rfl (fun _ => ?_) (fun h => absurd h (by decide))
    refine ab 1000 rfl trivial ?_
    refine S_guard rfl rfl rfl rfl (fun _ => ?_) (fun h => absurd h (by decide))
    refine ab 1000 rfl trivial ?_
    refine S_guard rfl rfl rfl rfl (fun _ => ?_) (fun h => absurd h (by decide))
    refine ab 1000 rfl trivial ?_
    refine S_guard rfl rfl rfl rfl (fun _ => ?_) (fun h => absurd h (by decide))
    refine ab 1000 rfl trivial ?_
    refine S_pure rfl rfl rfl (SameTexts_ok (st := true) (st' := true) (fl := false) (fl' := true) [[97]] [[97]] (by decide) (by decide)) (.cons (.refl (.sl (fun h => by cases h) (texts_any [[97]]))) (.cons (.refl (.sl (fun h => by cases h) (texts_any [[97]]))) (.nil _))) ?_
    refine ab 1000 rfl trivial ?_
    exact S_retc .bool rfl trivial rfl

/-- What Number answers. -/
def numberOf (n : Int) : List UInt8 × Nat := if 0 ≤ n ∧ n ≤ 9007199254740991 then (packN 9 n.toNat, 0) else ([], 3)

theorem Number_any (n : Int) : Calc cx 16 [.int .i64 n] (.tup [.str (numberOf n).1, .int .i64 (numberOf n).2]) := by
  by_cases h : 0 ≤ n ∧ n ≤ 9007199254740991
  · obtain ⟨m, rfl⟩ := Int.eq_ofNat_of_zero_le h.1
    rw [numberOf, if_pos h]
    exact Number_ok m (by omega)
  · rw [numberOf, if_neg h]
    exact pure_intro (fun a w => Tryd.call16 a w) Tryd.func16 rfl Tryd.ntmps16 rfl (ans_free _ _) fun B => by
      refine ab 1000 rfl trivial ?_
      refine S_pure rfl rfl rfl (isNumber_ok n) (.cons (.refl .int) (.nil _)) ?_
      rw [show (decide (0 ≤ n) && decide (n ≤ 9007199254740991)) = false by rw [← Bool.decide_and]; exact decide_eq_false h]
      refine ab 1000 rfl trivial ?_
      refine S_cond rfl (fun _ => ?_) (fun h => by cases h)
      refine ab 1000 rfl trivial ?_
      exact S_retc (ans_free _ _) rfl trivial rfl

end Go.Proofs.YtjpmngjoohoddaaDoor
