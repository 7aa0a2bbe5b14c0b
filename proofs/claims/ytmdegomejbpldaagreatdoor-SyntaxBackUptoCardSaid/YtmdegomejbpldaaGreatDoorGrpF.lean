/-
  Texts of our own, in one file.
-/
import Derived.Test.YtmdegomejbpldaaGreatDoorGrpE
import Derived.Lib.ItoaLen
import Derived.Shelf.Strings.OnBuilder
import Derived.Shelf.Lays
section
set_option linter.unusedVariables false
set_option linter.unusedSimpArgs false
set_option maxRecDepth 20000
namespace Go.Proofs.YtmdegomejbpldaaGreatDoor
open Go Go.Ab
theorem Rd.bad_of {r : List Tok} {k p : Nat} (h : k ≠ 0) : (⟨r, (k, p)⟩ : Rd).bad = true := bne_iff_ne.2 h
theorem failR_bad {e k : Nat} {q : Rd} (h : q.bad = true) : failR e k q = q := by unfold failR; rw [if_pos h]
theorem lkK_bad {q : Rd} (h : q.bad = true) : lkK q = 0 := by unfold lkK; rw [if_pos h]
theorem isR_bad {l : List (List UInt8)} {q : Rd} (h : q.bad = true) : isR l q = false := by unfold isR; rw [lkK_bad h]; rfl
theorem signR_bad {e : Nat} {s : List UInt8} {q : Rd} (h : q.bad = true) : signR e s q = q := by unfold signR; rw [isR_bad h, failR_bad h]; rfl
theorem kindR_bad {e k : Nat} {q : Rd} (h : q.bad = true) (hk : k ≠ 0) : kindR e k q = ([], q) := by unfold kindR; rw [lkK_bad h, if_neg (by omega), failR_bad h]
theorem inR_bad {e n : Nat} {q : Rd} (h : q.bad = true) : inR e n q = q := by unfold inR; rw [failR_bad h]; split <;> rfl
theorem nameR_bad {q : Rd} (h : q.bad = true) : nameR q = false := by unfold nameR; rw [lkK_bad h]; rfl
theorem levR_bad {e : Nat} : ∀ {F k n : Nat} {q : Rd}, q.bad = true → levR e F k n q = some (.zero, q)
  | 0, _, _, _, h => if_pos h
  | F + 1, _, _, _, h => by unfold levR; rw [if_pos h]
theorem exprR_bad {e : Nat} : ∀ {F n : Nat} {q : Rd}, q.bad = true → exprR e F n q = some (.zero, q)
  | 0, _, _, h => if_pos h
  | F + 1, n, q, h => by unfold exprR; rw [inR_bad h, levR_bad h]
theorem loopR_bad {e : Nat} : ∀ {F k n : Nat} {x : Ex} {q : Rd}, q.bad = true → loopR e F k n x q = some (x, q)
  | 0, _, _, _, _, h => if_pos h
  | F + 1, _, _, _, _, h => by unfold loopR; rw [isR_bad h]; rfl
theorem postR_bad {e : Nat} : ∀ {F n : Nat} {x : Ex} {q : Rd}, q.bad = true → postR e F n x q = some (x, q)
  | 0, _, _, _, h => if_pos h
  | F + 1, _, _, _, h => by unfold postR; rw [if_pos h]
theorem callR_bad {e : Nat} : ∀ {F n : Nat} {ks : List Ex} {ns : List (List UInt8)} {q : Rd}, q.bad = true → callR e F n ks ns q = some (.mk 10 0 [] ks ns, q)
  | 0, _, _, _, _, h => if_pos h
  | F + 1, _, _, _, _, h => by unfold callR; rw [if_pos h]
theorem callG_bad {e F n : Nat} {ks : List Ex} {ns : List (List UInt8)} {q : Rd} (h : q.bad = true) : callG e (F + 1) n ks ns q = some (.mk 10 0 [] (ks ++ [.zero]) ns, q) := by
  unfold callG
  rw [nameR_bad h, if_neg (by decide), failR_bad h, ite_self, exprR_bad h]
  exact callR_bad h
theorem listR_bad {e : Nat} : ∀ {F n kd : Nat} {tx : List UInt8} {ks : List Ex} {q : Rd}, q.bad = true → listR e F n kd tx ks q = some (.mk kd 0 tx ks [], q)
  | 0, _, _, _, _, _, h => if_pos h
  | F + 1, _, _, _, _, _, h => by unfold listR; rw [if_pos h]
theorem dictR_bad {e : Nat} : ∀ {F n : Nat} {ks : List Ex} {q : Rd}, q.bad = true → dictR e F n ks q = some (.mk 8 0 [] ks [], q)
  | 0, _, _, _, h => if_pos h
  | F + 1, _, _, _, h => by unfold dictR; rw [if_pos h]
theorem eachR_bad {e F n : Nat} {t : List UInt8} {ks : List Ex} {q : Rd} (h : q.bad = true) : eachR e (F + 1) n ks t q = some (.mk 9 0 t (ks ++ [.zero]) [], q) := by
  unfold eachR
  rw [exprR_bad h]
  show (if isR [wIf] q = true then _ else some (Ex.mk 9 0 t (ks ++ [.zero]) [], signR e [93] q)) = _
  rw [isR_bad h, signR_bad h]; rfl
def Ag {α : Type} (e : Nat) (x : Pr α) (y : Option (α × Rd)) : Prop := match x with
  | .out => True
  | .ok v u => y = some (v, ⟨u, (0, 0)⟩)
  | .bad k u => k ≠ 0 ∧ ∃ v w, y = some (v, ⟨w, (k, placeS e u)⟩)
def Bp {α β : Type} (g : α × Rd → Option (β × Rd)) : Prop := ∀ (v : α) (q : Rd), q.bad = true → ∃ z w, g (v, q) = some (z, ⟨w, q.f⟩)
theorem Ag.bind {α β : Type} {e : Nat} {x : Pr α} {y : Option (α × Rd)} {f : α → List Tok → Pr β} {g : α × Rd → Option (β × Rd)} (h : Ag e x y) (hf : ∀ v u, x = .ok v u → Ag e (f v u) (g (v, ⟨u, (0, 0)⟩))) (hg : Bp g) : Ag e (x.bind f) (y.bind g) := by
  cases x with
  | out => trivial
  | bad k u =>
    obtain ⟨hk, v, w, rfl⟩ := h
    obtain ⟨z, w', h'⟩ := hg v ⟨w, (k, placeS e u)⟩ (Rd.bad_of hk)
    exact ⟨hk, z, w', h'⟩
  | ok v u =>
    have h : y = _ := h
    subst h
    exact hf v u rfl
theorem Ag.step {α β : Type} {e : Nat} {x : Pr α} {v : α} {q : Rd} {f : α → List Tok → Pr β} {g : α → Rd → Option (β × Rd)} (h : Ag e x (some (v, q))) (hf : ∀ v u, x = .ok v u → Ag e (f v u) (g v ⟨u, (0, 0)⟩)) (hg : Bp fun x => g x.1 x.2) : Ag e (x.bind f) (g v q) :=
  Ag.bind (g := fun x => g x.1 x.2) h hf hg
theorem Ag.okv {α : Type} {e : Nat} {v : α} {u : List Tok} : Ag e (.ok v u) (some (v, ⟨u, (0, 0)⟩)) := rfl
theorem Ag.badv {α : Type} {e k : Nat} {v : α} {u w : List Tok} (hk : k ≠ 0) : Ag e (.bad k u : Pr α) (some (v, ⟨w, (k, placeS e u)⟩)) := ⟨hk, v, w, rfl⟩
theorem isR_one (s : List UInt8) (r : List Tok) : isR [s] ⟨r, (0, 0)⟩ = isS s r := by
  show ((hdK r == 4 || hdK r == 5) && [s].contains (hdT r)) = ((hdK r == 4 || hdK r == 5) && hdT r == s)
  congr 1
  rw [List.contains_cons]; simp
theorem isR_of (l : List (List UInt8)) (r : List Tok) : isR l ⟨r, (0, 0)⟩ = isOf l r := rfl
theorem mustS_a (e : Nat) (s : List UInt8) (r : List Tok) : Ag e (mustS s r) (some ((), signR e s ⟨r, (0, 0)⟩)) := by
  unfold mustS signR
  rw [isR_one]
  split
  · exact .okv
  · exact .badv (by decide)
theorem takeS_a (e k : Nat) (r : List Tok) (hk : k ≠ 0) : Ag e ((takeS k r).bind fun t r => .ok t.text r) (some ((kindR e k ⟨r, (0, 0)⟩).1, (kindR e k ⟨r, (0, 0)⟩).2)) := by
  unfold takeS kindR
  cases r with
  | nil =>
    rw [if_neg (show ¬ lkK ⟨[], (0, 0)⟩ = k from fun h => hk h.symm)]
    exact .badv (by decide)
  | cons t u =>
    by_cases h : t.kind = k
    · rw [if_pos (show lkK ⟨t :: u, (0, 0)⟩ = k from h)]
      simp only [if_pos h]
      exact .okv
    · rw [if_neg (show ¬ lkK ⟨t :: u, (0, 0)⟩ = k from h)]
      simp only [if_neg h]
      exact .badv (by decide)
theorem Ag.take {β : Type} {e k : Nat} {r : List Tok} {f : Tok → List Tok → Pr β} {g : List UInt8 × Rd → Option (β × Rd)} (hk : k ≠ 0) (hf : ∀ t u, takeS k r = .ok t u → Ag e (f t u) (g (t.text, ⟨u, (0, 0)⟩))) (hg : Bp g) : Ag e ((takeS k r).bind f) (g (kindR e k ⟨r, (0, 0)⟩)) := by
  have h := takeS_a e k r hk
  cases hx : takeS k r with
  | out => trivial
  | bad j u =>
    rw [hx] at h
    obtain ⟨hj, v, w, h⟩ := h
    have h : kindR e k ⟨r, (0, 0)⟩ = (v, ⟨w, (j, placeS e u)⟩) := by
      rw [Option.some.injEq] at h; exact h
    obtain ⟨z, w', h'⟩ := hg v ⟨w, (j, placeS e u)⟩ (Rd.bad_of hj)
    rw [h]
    exact ⟨hj, z, w', h'⟩
  | ok t u =>
    rw [hx] at h
    have h : kindR e k ⟨r, (0, 0)⟩ = (t.text, ⟨u, (0, 0)⟩) := by
      have h : some ((kindR e k ⟨r, (0, 0)⟩).1, (kindR e k ⟨r, (0, 0)⟩).2) = some (t.text, ⟨u, (0, 0)⟩) := h
      rw [Option.some.injEq] at h; exact h
    rw [h]
    exact hf t u hx
theorem bp_some {α β : Type} {z : α × Rd → β} {s : α × Rd → Rd} (h : ∀ v (q : Rd), q.bad = true → s (v, q) = q) : Bp fun x : α × Rd => some (z x, s x) := fun v q hq => ⟨z (v, q), q.r, by show some (z (v, q), s (v, q)) = _; rw [h v q hq]⟩
structure AllA (e F : Nat) : Prop where
  expr : ∀ G n r, 4 * F ≤ G → Ag e (exprS F n r) (exprR e G n ⟨r, (0, 0)⟩)
  lev : ∀ G k n r, 4 * F ≤ G → Ag e (levS F k n r) (levR e G k n ⟨r, (0, 0)⟩)
  loop : ∀ G k n x r, 4 * F ≤ G → Ag e (loopS F k n x r) (loopR e G k n x ⟨r, (0, 0)⟩)
  post : ∀ G n x r, 4 * F ≤ G → Ag e (postS F n x r) (postR e G n x ⟨r, (0, 0)⟩)
  call : ∀ G n ks ns r, 4 * F ≤ G → Ag e (callS F n ks ns r) (callR e G n ks ns ⟨r, (0, 0)⟩)
  atom : ∀ G n r, 4 * F ≤ G → Ag e (atomS F n r) (atomR e G n ⟨r, (0, 0)⟩)
  list : ∀ G n r, 4 * F ≤ G → Ag e (listS F n r) (listR e G n 7 [] [] ⟨r, (0, 0)⟩)
  item : ∀ G n ks r, 4 * F ≤ G → 1 ≤ ks.length → (ks.length = 1 → isS wFor r = false) → Ag e (itemS F n ks r) (listR e G n 7 [] ks ⟨r, (0, 0)⟩)
  dict : ∀ G n ks r, 4 * F ≤ G → Ag e (dictS F n ks r) (dictR e G n ks ⟨r, (0, 0)⟩)
theorem isOf_of0 {sg : List (List UInt8)} {s : List UInt8} {r : List Tok} (hs : s ∈ sg) (h : isS s r = true) : isOf sg r = true ∧ hdT r = s := by
  simp only [isS, Bool.and_eq_true, beq_iff_eq] at h
  refine ⟨?_, h.2⟩
  unfold isOf
  rw [h.1, h.2]
  simpa using hs
theorem isOf_no0 {sg : List (List UInt8)} {r : List Tok} (h : ∀ s ∈ sg, isS s r = false) : isOf sg r = false := by
  unfold isOf
  cases hk : (hdK r == 4 || hdK r == 5) with
  | false => rfl
  | true =>
    cases hc : sg.contains (hdT r) with
    | false => rfl
    | true =>
      have := h _ (by simpa using hc)
      simp [isS, hk] at this
theorem isS_ne {s t : List UInt8} {r : List Tok} (h : isS s r = true) (hne : s ≠ t) : isS t r = false := by
  simp only [isS, Bool.and_eq_true, beq_iff_eq] at h
  unfold isS
  rw [h.2, beq_false_of_ne hne]; simp
theorem Ag.ite {α : Type} {e : Nat} {x y : Pr α} {z : Option (α × Rd)} {c : Prop} [Decidable c] (h : c → Ag e x z) (h' : ¬ c → Ag e y z) : Ag e (if c then x else y) z := by
  split
  · exact h ‹_›
  · exact h' ‹_›
theorem inR_at {e n : Nat} {r : List Tok} (h : ¬ n = 30) : inR e n ⟨r, (0, 0)⟩ = ⟨r, (0, 0)⟩ := if_neg h
theorem inR_30 {e : Nat} {r : List Tok} : inR e 30 ⟨r, (0, 0)⟩ = ⟨r, (2, placeS e r)⟩ := rfl
theorem allA (e F : Nat) : AllA e F := by
  induction F with
  | zero => exact ⟨fun _ _ _ _ => trivial, fun _ _ _ _ _ => trivial, fun _ _ _ _ _ _ => trivial, fun _ _ _ _ _ => trivial, fun _ _ _ _ _ _ => trivial, fun _ _ _ _ => trivial, fun _ _ _ _ => trivial, fun _ _ _ _ _ _ _ => trivial, fun _ _ _ _ _ => trivial⟩
  | succ F ih =>
    refine ⟨?_, ?_, ?_, ?_, ?_, ?_, ?_, ?_, ?_⟩
    · intro G n r hG
      obtain ⟨G, rfl⟩ : ∃ G', G = G' + 1 := ⟨G - 1, by omega⟩
      rw [exprS, exprR]
      refine .ite (fun h => ?_) (fun h => ?_)
      · subst h
        rw [inR_30, levR_bad (Rd.bad_of (by decide))]
        exact .badv (by decide)
      · rw [inR_at h]
        exact ih.lev G 0 _ r (by omega)
    · intro G k n r hG
      obtain ⟨G, rfl⟩ : ∃ G', G = G' + 1 := ⟨G - 1, by omega⟩
      have bin : ∀ k, Ag e ((levS F (k + 1) n r).bind fun x r => loopS F k n x r) ((levR e G (k + 1) n ⟨r, (0, 0)⟩).bind fun x => loopR e G k n x.1 x.2) := fun k =>
        (ih.lev G (k + 1) n r (by omega)).bind (fun v u _ => ih.loop G k n v u (by omega)) (fun v q hq => ⟨_, q.r, loopR_bad hq⟩)
      match k with
      | 0 => exact bin 0
      | 1 => exact bin 1
      | 3 => exact bin 3
      | 4 => exact bin 4
      | k + 6 => exact bin (k + 6)
      | 2 =>
        rw [levS_2]
        show Ag e _ (if isR [wNot] ⟨r, (0, 0)⟩ then (levR e G 2 (n + 1) (inR e n ⟨r.tail, (0, 0)⟩)).bind fun x => some (.mk 12 0 [] [x.1] [], x.2)
          else (levR e G 3 n ⟨r, (0, 0)⟩).bind fun x => if isR (binS 2) x.2 then (levR e G 3 n x.2.next).bind fun y => some (binE (lkT x.2) x.1 y.1, y.2) else some x)
        rw [isR_one]
        refine .ite (fun h => ?_) (fun h => ?_)
        · rw [if_pos h]
          refine .ite (fun h => ?_) (fun h => ?_)
          · subst h
            rw [inR_30, levR_bad (Rd.bad_of (by decide))]
            exact .badv (by decide)
          · rw [inR_at h]
            exact (ih.lev G 2 _ r.tail (by omega)).bind (fun v u _ => .okv) (bp_some (s := fun x => x.2) fun _ _ _ => rfl)
        · rw [if_neg h]
          refine (ih.lev G 3 n r (by omega)).bind (fun v u _ => ?_) (fun v q hq => ⟨v, q.r, ?_⟩)
          · show Ag e _ (if isR (binS 2) ⟨u, (0, 0)⟩ then (levR e G 3 n ⟨u.tail, (0, 0)⟩).bind fun y => some (binE (hdT u) v y.1, y.2) else some (v, ⟨u, (0, 0)⟩))
            rw [isR_of]
            refine .ite (fun h => ?_) (fun h => ?_)
            · rw [if_pos h]
              exact (ih.lev G 3 n u.tail (by omega)).bind (fun v u _ => .okv) (bp_some (s := fun x => x.2) fun _ _ _ => rfl)
            · rw [if_neg h]; exact .okv
          · show (if isR (binS 2) q = true then _ else some (v, q)) = _
            rw [isR_bad hq]; rfl
      | 5 =>
        rw [levS_5]
        show Ag e _ (if isR [[45]] ⟨r, (0, 0)⟩ then (levR e G 5 (n + 1) (inR e n ⟨r.tail, (0, 0)⟩)).bind fun x => some (.mk 13 0 [] [x.1] [], x.2)
          else postA e G n ⟨r, (0, 0)⟩)
        rw [isR_one]
        refine .ite (fun h => ?_) (fun h => ?_)
        · rw [if_pos h]
          refine .ite (fun h => ?_) (fun h => ?_)
          · subst h
            rw [inR_30, levR_bad (Rd.bad_of (by decide))]
            exact .badv (by decide)
          · rw [inR_at h]
            exact (ih.lev G 5 _ r.tail (by omega)).bind (fun v u _ => .okv) (bp_some (s := fun x => x.2) fun _ _ _ => rfl)
        · rw [if_neg h]
          obtain ⟨G, rfl⟩ : ∃ G', G = G' + 1 := ⟨G - 1, by omega⟩
          rw [postA]
          exact (ih.atom G n r (by omega)).bind (fun v u _ => ih.post G n v u (by omega)) (fun v q hq => ⟨_, q.r, postR_bad hq⟩)
    · intro G k n x r hG
      obtain ⟨G, rfl⟩ : ∃ G', G = G' + 1 := ⟨G - 1, by omega⟩
      rw [loopS, loopR, isR_of]
      refine .ite (fun h => ?_) (fun h => ?_)
      · rw [if_pos h]
        exact (ih.lev G (k + 1) n r.tail (by omega)).bind (fun v u _ => ih.loop G k n _ u (by omega)) (fun v q hq => ⟨_, q.r, loopR_bad hq⟩)
      · rw [if_neg h]; exact .okv
    · intro G n x r hG
      obtain ⟨G, rfl⟩ : ∃ G', G = G' + 1 := ⟨G - 1, by omega⟩
      rw [postS]
      show Ag e _ (if isR [[91]] ⟨r, (0, 0)⟩ then (exprR e G n ⟨r.tail, (0, 0)⟩).bind fun y => postR e G n (.mk 11 0 [] [x, y.1] []) (signR e [93] y.2)
        else if isR [[40]] ⟨r, (0, 0)⟩ then (callR e G n [x] [] ⟨r.tail, (0, 0)⟩).bind fun y => postR e G n y.1 y.2 else some (x, ⟨r, (0, 0)⟩))
      rw [isR_one, isR_one]
      refine .ite (fun h => ?_) (fun h => ?_)
      · rw [isS_ne h (by decide), if_neg (by decide), if_pos h]
        exact (ih.call G n _ _ r.tail (by omega)).bind (fun v u _ => ih.post G n _ u (by omega)) (fun v q hq => ⟨_, q.r, postR_bad hq⟩)
      · rw [if_neg h]
        refine .ite (fun h => ?_) (fun h => ?_)
        · rw [if_pos h]
          refine (ih.expr G n r.tail (by omega)).bind (fun v u _ => ?_) (fun v q hq => ⟨.mk 11 0 [] [x, v] [], q.r, ?_⟩)
          · exact Ag.step (g := fun _ q => postR e G n (.mk 11 0 [] [x, v] []) q) (mustS_a e [93] u) (fun _ w _ => ih.post G n _ w (by omega)) (fun _ q hq => ⟨_, q.r, postR_bad hq⟩)
          · show postR e G n (.mk 11 0 [] [x, v] []) (signR e [93] q) = _
            rw [signR_bad hq]; exact postR_bad hq
        · rw [if_neg h]; exact .okv
    · intro G n ks ns r hG
      obtain ⟨G, rfl⟩ : ∃ G', G = G' + 1 := ⟨G - 1, by omega⟩
      obtain ⟨G, rfl⟩ : ∃ G', G = G' + 1 := ⟨G - 1, by omega⟩
      rw [callS]
      show Ag e _ (if isR [[41]] ⟨r, (0, 0)⟩ then some (.mk 10 0 [] ks ns, ⟨r.tail, (0, 0)⟩)
        else callG e (G + 1) n ks ns (if ks.length > 1 then signR e [44] ⟨r, (0, 0)⟩ else ⟨r, (0, 0)⟩))
      rw [isR_one]
      refine .ite (fun h => ?_) (fun h => ?_)
      · rw [if_pos h]; exact .okv
      rw [if_neg h]
      have hm : Ag e (if ks.length > 1 then mustS [44] r else .ok () r) (some ((), if ks.length > 1 then signR e [44] ⟨r, (0, 0)⟩ else ⟨r, (0, 0)⟩)) := by
        split
        · exact mustS_a e _ r
        · exact .okv
      refine Ag.step (g := fun _ q => callG e (G + 1) n ks ns q) hm (fun _ u _ => ?_) (fun _ q hq => ⟨_, q.r, callG_bad hq⟩)
      show Ag e _ (if nameS u then (exprR e G n (if ns.contains (hdT u) then failR e 6 ⟨u, (0, 0)⟩ else ⟨u, (0, 0)⟩).next.next).bind fun y => callR e G n (ks ++ [y.1]) (ns ++ [hdT u]) y.2
        else (exprR e G n (if ns.length > 0 then failR e 1 ⟨u, (0, 0)⟩ else ⟨u, (0, 0)⟩)).bind fun y => callR e G n (ks ++ [y.1]) ns y.2)
      refine .ite (fun h => ?_) (fun h => ?_)
      · rw [if_pos h]
        refine .ite (fun h => ?_) (fun h => ?_)
        · have hb : (failR e 6 ⟨u, (0, 0)⟩).next.next.bad = true := rfl
          rw [if_pos h, exprR_bad hb]
          exact ⟨by decide, _, _, callR_bad hb⟩
        · rw [if_neg h]
          exact (ih.expr G n u.tail.tail (by omega)).bind (fun v w _ => ih.call G n _ _ w (by omega)) (fun v q hq => ⟨_, q.r, callR_bad hq⟩)
      · rw [if_neg h]
        refine .ite (fun h => ?_) (fun h => ?_)
        · have hb : (failR e 1 ⟨u, (0, 0)⟩).bad = true := rfl
          rw [if_pos h, exprR_bad hb]
          exact ⟨by decide, _, _, callR_bad hb⟩
        · rw [if_neg h]
          exact (ih.expr G n u (by omega)).bind (fun v w _ => ih.call G n _ _ w (by omega)) (fun v q hq => ⟨_, q.r, callR_bad hq⟩)
    · intro G n r hG
      obtain ⟨G, rfl⟩ : ∃ G', G = G' + 1 := ⟨G - 1, by omega⟩
      cases r with
      | nil => exact .badv (by decide)
      | cons t u =>
        show Ag e _ (if t.kind = 1 then some (.mk 6 0 t.text [] [], ⟨u, (0, 0)⟩)
          else if t.kind = 2 then some (.mk 4 t.num [] [] [], ⟨u, (0, 0)⟩)
          else if t.kind = 3 then some (.mk 5 0 t.text [] [], ⟨u, (0, 0)⟩)
          else if isR [wNone, wTrue, wFalse] ⟨t :: u, (0, 0)⟩ then some (.mk (atomW t.text) 0 [] [] [], ⟨u, (0, 0)⟩)
          else if isR [[40]] ⟨t :: u, (0, 0)⟩ then (exprR e G n ⟨u, (0, 0)⟩).bind fun x => some (x.1, signR e [41] x.2)
          else if isR [[91]] ⟨t :: u, (0, 0)⟩ then listR e G n 7 [] [] ⟨u, (0, 0)⟩
          else if isR [[123]] ⟨t :: u, (0, 0)⟩ then dictR e G n [] ⟨u, (0, 0)⟩
          else some (.zero, failR e 1 ⟨t :: u, (0, 0)⟩))
        rw [isR_one, isR_one, isR_one, isR_of, atomS]
        refine .ite (fun h => ?_) (fun h => ?_)
        · rw [if_pos h]; exact .okv
        rw [if_neg h]
        refine .ite (fun h => ?_) (fun h => ?_)
        · rw [if_pos h]; exact .okv
        rw [if_neg h]
        refine .ite (fun h => ?_) (fun h => ?_)
        · rw [if_pos h]; exact .okv
        rw [if_neg h]
        refine .ite (fun h => ?_) (fun h1 => ?_)
        · have := isOf_of0 (sg := [wNone, wTrue, wFalse]) (s := wNone) (by decide) h
          rw [if_pos this.1, show t.text = wNone from this.2]; exact .okv
        refine .ite (fun h => ?_) (fun h2 => ?_)
        · have := isOf_of0 (sg := [wNone, wTrue, wFalse]) (s := wTrue) (by decide) h
          rw [if_pos this.1, show t.text = wTrue from this.2]; exact .okv
        refine .ite (fun h => ?_) (fun h3 => ?_)
        · have := isOf_of0 (sg := [wNone, wTrue, wFalse]) (s := wFalse) (by decide) h
          rw [if_pos this.1, show t.text = wFalse from this.2]; exact .okv
        rw [isOf_no0 (sg := [wNone, wTrue, wFalse]) (by
          intro s hs
          simp only [List.mem_cons, List.not_mem_nil, or_false] at hs
          rcases hs with rfl | rfl | rfl
          · exact (Bool.not_eq_true _).mp h1
          · exact (Bool.not_eq_true _).mp h2
          · exact (Bool.not_eq_true _).mp h3), if_neg (show ¬ (false = true) from nofun)]
        refine .ite (fun h => ?_) (fun h => ?_)
        · rw [if_pos h]
          refine (ih.expr G n u (by omega)).bind (fun v w _ => ?_) (fun v q hq => ⟨v, q.r, ?_⟩)
          · exact Ag.step (g := fun _ q => some (v, q)) (mustS_a e [41] w) (fun _ _ _ => .okv) (bp_some (s := fun x => x.2) fun _ _ _ => rfl)
          · show some (v, signR e [41] q) = _
            rw [signR_bad hq]
        rw [if_neg h]
        refine .ite (fun h => ?_) (fun h => ?_)
        · rw [if_pos h]; exact ih.list G n u (by omega)
        rw [if_neg h]
        refine .ite (fun h => ?_) (fun h => ?_)
        · rw [if_pos h]; exact ih.dict G n [] u (by omega)
        rw [if_neg h]; exact .badv (by decide)
    · intro G n r hG
      obtain ⟨G, rfl⟩ : ∃ G', G = G' + 1 := ⟨G - 1, by omega⟩
      rw [listS]
      show Ag e _ (if isR [[93]] ⟨r, (0, 0)⟩ then some (.mk 7 0 [] [] [], signR e [93] ⟨r, (0, 0)⟩)
        else if ([] : List Ex).length = 1 ∧ isR [wFor] ⟨r, (0, 0)⟩ = true then _
        else (exprR e G n ⟨r, (0, 0)⟩).bind fun y => listR e G n 7 [] [y.1] y.2)
      rw [if_neg (fun h : ([] : List Ex).length = 1 ∧ _ => by cases h.1)]
      unfold signR
      rw [isR_one]
      refine .ite (fun h => ?_) (fun h => ?_)
      · rw [if_pos h, if_pos h]; exact .okv
      rw [if_neg h]
      refine (ih.expr G n r (by omega)).bind (fun v u _ => ?_) (fun v q hq => ⟨_, q.r, listR_bad hq⟩)
      refine .ite (fun h => ?_) (fun h => ih.item G n [v] u (by omega) (by simp) (fun _ => (Bool.not_eq_true _).mp h))
      obtain ⟨G, rfl⟩ : ∃ G', G = G' + 1 := ⟨G - 1, by omega⟩
      show Ag e _ (if isR [[93]] ⟨u, (0, 0)⟩ then _
        else if ([v] : List Ex).length = 1 ∧ isR [wFor] ⟨u, (0, 0)⟩ = true then eachR e G n [v] (kindR e 1 ⟨u.tail, (0, 0)⟩).1 (signR e wIn (kindR e 1 ⟨u.tail, (0, 0)⟩).2)
        else _)
      rw [isR_one, isR_one, isS_ne h (by decide), if_neg (by decide), if_pos ⟨rfl, h⟩]
      obtain ⟨G, rfl⟩ : ∃ G', G = G' + 1 := ⟨G - 1, by omega⟩
      refine Ag.take (g := fun x => eachR e (G + 1) n [v] x.1 (signR e wIn x.2)) (by decide) (fun t w _ => ?_) (fun v q hq => ⟨_, q.r, by show eachR e (G + 1) n _ _ (signR e wIn q) = _; rw [signR_bad hq]; exact eachR_bad hq⟩)
      refine Ag.step (g := fun _ q => eachR e (G + 1) n [v] t.text q) (mustS_a e wIn w) (fun _ w _ => ?_) (fun _ q hq => ⟨_, q.r, eachR_bad hq⟩)
      rw [eachR]
      refine (ih.expr G n w (by omega)).bind (fun y u _ => ?_) (fun v q hq => ?_)
      · show Ag e _ (if isR [wIf] ⟨u, (0, 0)⟩ then (exprR e G n ⟨u.tail, (0, 0)⟩).bind fun z => some (Ex.mk 9 0 t.text [v, y, z.1] [], signR e [93] z.2) else some (Ex.mk 9 0 t.text [v, y] [], signR e [93] ⟨u, (0, 0)⟩))
        rw [isR_one]
        refine .ite (fun h => ?_) (fun h => ?_)
        · rw [if_pos h]
          refine (ih.expr G n u.tail (by omega)).bind (fun z w _ => ?_) (bp_some (s := fun x => signR e [93] x.2) fun _ q hq => signR_bad hq)
          exact Ag.step (g := fun _ q => some (_, q)) (mustS_a e [93] w) (fun _ _ _ => .okv) (bp_some (s := fun x => x.2) fun _ _ _ => rfl)
        · rw [if_neg h]
          exact Ag.step (g := fun _ q => some (_, q)) (mustS_a e [93] u) (fun _ _ _ => .okv) (bp_some (s := fun x => x.2) fun _ _ _ => rfl)
      · show ∃ z w, (if isR [wIf] q = true then _ else some (Ex.mk 9 0 t.text _ [], signR e [93] q)) = some (z, ⟨w, q.f⟩)
        rw [isR_bad hq, signR_bad hq]
        exact ⟨_, q.r, rfl⟩
    · intro G n ks r hG h1 h2
      obtain ⟨G, rfl⟩ : ∃ G', G = G' + 1 := ⟨G - 1, by omega⟩
      rw [itemS]
      show Ag e _ (if isR [[93]] ⟨r, (0, 0)⟩ then some (.mk 7 0 [] ks [], signR e [93] ⟨r, (0, 0)⟩)
        else if ks.length = 1 ∧ isR [wFor] ⟨r, (0, 0)⟩ = true then _
        else (exprR e G n (if ks.length > 0 then signR e [44] ⟨r, (0, 0)⟩ else ⟨r, (0, 0)⟩)).bind fun y => listR e G n 7 [] (ks ++ [y.1]) y.2)
      rw [isR_one, isR_one, if_pos (show ks.length > 0 by omega), if_neg (fun h : ks.length = 1 ∧ _ => by rw [h2 h.1] at h; cases h.2)]
      refine .ite (fun h => ?_) (fun h => ?_)
      · rw [if_pos h]
        unfold signR
        rw [isR_one, if_pos h]; exact .okv
      rw [if_neg h]
      refine Ag.step (g := fun _ q => (exprR e G n q).bind fun y => listR e G n 7 [] (ks ++ [y.1]) y.2) (mustS_a e [44] r) (fun _ u _ => ?_) (fun _ q hq => ⟨_, q.r, by show (exprR e G n q).bind _ = _; rw [exprR_bad hq]; exact listR_bad hq⟩)
      exact (ih.expr G n u (by omega)).bind (fun v w _ => ih.item G n _ w (by omega) (by simp) (fun h => by simp at h; rw [h] at h1; simp at h1)) (fun v q hq => ⟨_, q.r, listR_bad hq⟩)
    · intro G n ks r hG
      obtain ⟨G, rfl⟩ : ∃ G', G = G' + 1 := ⟨G - 1, by omega⟩
      rw [dictS]
      show Ag e _ (if isR [[125]] ⟨r, (0, 0)⟩ then some (.mk 8 0 [] ks [], signR e [125] ⟨r, (0, 0)⟩)
        else (exprR e G n (if ks.length > 0 then signR e [44] ⟨r, (0, 0)⟩ else ⟨r, (0, 0)⟩)).bind fun y => (exprR e G n (signR e [58] y.2)).bind fun z => dictR e G n (ks ++ [y.1] ++ [z.1]) z.2)
      rw [isR_one]
      refine .ite (fun h => ?_) (fun h => ?_)
      · rw [if_pos h]
        unfold signR
        rw [isR_one, if_pos h]; exact .okv
      rw [if_neg h]
      have hm : Ag e (if ks.length > 0 then mustS [44] r else .ok () r) (some ((), if ks.length > 0 then signR e [44] ⟨r, (0, 0)⟩ else ⟨r, (0, 0)⟩)) := by
        split
        · exact mustS_a e _ r
        · exact .okv
      have b2 : ∀ (y : Ex) (q : Rd), q.bad = true → (exprR e G n q).bind (fun z => dictR e G n (ks ++ [y] ++ [z.1]) z.2) = some (Ex.mk 8 0 [] (ks ++ [y] ++ [Ex.zero]) [], q) := fun y q hq => by
        rw [exprR_bad hq]; exact dictR_bad hq
      have b1 : ∀ q : Rd, q.bad = true → (exprR e G n q).bind (fun y => (exprR e G n (signR e [58] y.2)).bind fun z => dictR e G n (ks ++ [y.1] ++ [z.1]) z.2) = some (Ex.mk 8 0 [] (ks ++ [Ex.zero] ++ [Ex.zero]) [], q) := fun q hq => by
        rw [exprR_bad hq]
        show (exprR e G n (signR e [58] q)).bind _ = _
        rw [signR_bad hq]; exact b2 _ q hq
      refine Ag.step (g := fun _ q => (exprR e G n q).bind fun y => (exprR e G n (signR e [58] y.2)).bind fun z => dictR e G n (ks ++ [y.1] ++ [z.1]) z.2) hm (fun _ u _ => ?_) (fun _ q hq => ⟨_, q.r, b1 q hq⟩)
      refine (ih.expr G n u (by omega)).bind (fun y w _ => ?_) (fun y q hq => ⟨_, q.r, by show (exprR e G n (signR e [58] q)).bind _ = _; rw [signR_bad hq]; exact b2 y q hq⟩)
      refine Ag.step (g := fun _ q => (exprR e G n q).bind fun z => dictR e G n (ks ++ [y] ++ [z.1]) z.2) (mustS_a e [58] w) (fun _ u _ => ?_) (fun _ q hq => ⟨_, q.r, b2 y q hq⟩)
      exact (ih.expr G n u (by omega)).bind (fun z w _ => ih.dict G n _ w (by omega)) (fun v q hq => ⟨_, q.r, dictR_bad hq⟩)
end Go.Proofs.YtmdegomejbpldaaGreatDoor
end
section
set_option linter.unusedVariables false
set_option linter.unusedSimpArgs false
set_option maxRecDepth 20000
namespace Go.Proofs.YtmdegomejbpldaaGreatDoor
open Go Go.Ab
def Sr {α : Type} (r : List Tok) (x : Option (α × Rd)) : Prop := ∀ y, x = some y → y.2.r <:+ r
theorem Sr.none {α : Type} {r : List Tok} : Sr r (.none : Option (α × Rd)) := nofun
theorem Sr.some {α : Type} {r : List Tok} {v : α} {q : Rd} (h : q.r <:+ r) : Sr r (.some (v, q)) := by intro y h'; cases h'; exact h
theorem Sr.bind {α β : Type} {r : List Tok} {x : Option (α × Rd)} {f : α × Rd → Option (β × Rd)} (h : Sr r x) (hf : ∀ y : α × Rd, y.2.r <:+ r → Sr r (f y)) : Sr r (x.bind f) := by
  cases x with
  | none => exact .none
  | some y => exact hf y (h y rfl)
theorem Sr.ite {α : Type} {r : List Tok} {x y : Option (α × Rd)} {c : Prop} [Decidable c] (h : Sr r x) (h' : Sr r y) : Sr r (if c then x else y) := by
  split
  · exact h
  · exact h'
theorem Sr.base {α : Type} {r : List Tok} {v : α} {q : Rd} (h : q.r <:+ r) : Sr r (if q.bad then .some (v, q) else .none) := .ite (.some h) .none
end Go.Proofs.YtmdegomejbpldaaGreatDoor
end
section
set_option linter.unusedVariables false
set_option linter.unusedSimpArgs false
set_option maxRecDepth 20000
namespace Go.Proofs.YtmdegomejbpldaaGreatDoor
open Go Go.Ab
def TokK (t : Tok) : Prop := 1 ≤ t.kind ∧ (t.kind = 4 → t.text ∈ signs18)
theorem hdK_nil {r : List Tok} (hr : ∀ t ∈ r, TokK t) (h : hdK r = 0) : r = [] := by
  cases r with
  | nil => rfl
  | cons t u =>
    have h : t.kind = 0 := h
    have := (hr t (List.mem_cons_self ..)).1
    omega
def kWords : List (List UInt8) := [wDef, wIf, wFor, wPass, wReturn, wLoad]
theorem wd_is {r : List Tok} {w : List UInt8} (hr : ∀ t ∈ r, TokK t) (hw : w ∈ kWords) : wd ⟨r, (0, 0)⟩ = w ↔ isS w r = true := by
  have hne : w ≠ [] := by rintro rfl; revert hw; decide
  have hns : w ∉ signs18 := by
    have : ∀ w ∈ kWords, w ∉ signs18 := by decide
    exact this w hw
  show (if hdK r = 5 then hdT r else []) = w ↔ _
  unfold isS
  constructor
  · intro h
    split at h
    · rename_i h5; rw [h5, h]; simp
    · exact absurd h.symm hne
  · intro h
    simp only [Bool.and_eq_true, Bool.or_eq_true, beq_iff_eq] at h
    obtain ⟨h4 | h5, ht⟩ := h
    · exfalso
      cases r with
      | nil => cases h4
      | cons t u =>
        have := (hr t (List.mem_cons_self ..)).2 h4
        have ht : t.text = w := ht
        rw [ht] at this
        exact hns this
    · rw [if_pos h5]; exact ht
theorem isS_wd {r : List Tok} {w : List UInt8} (hr : ∀ t ∈ r, TokK t) (hw : w ∈ kWords) {α : Type} {a b : α} : (if wd ⟨r, (0, 0)⟩ = w then a else b) = if isS w r then a else b := by
  by_cases h : isS w r = true
  · rw [if_pos h, if_pos ((wd_is hr hw).2 h)]
  · rw [if_neg h, if_neg (fun h' => h ((wd_is hr hw).1 h'))]
structure Dead (r : List Tok) : Prop where
  is : ∀ s, isS s r = false
  kind : hdK r ≠ 1 ∧ hdK r ≠ 2 ∧ hdK r ≠ 3
theorem dead_of {r : List Tok} (h : hdK r = 0 ∨ hdK r = 8) : Dead r := by
  refine ⟨fun s => ?_, by omega⟩
  unfold isS
  rcases h with h | h <;> rw [h] <;> rfl
def DeadP {α : Type} (r : List Tok) (x : Pr α) : Prop := x = .out ∨ x = .bad 1 r
theorem DeadP.bind {α β : Type} {r : List Tok} {x : Pr α} {f : α → List Tok → Pr β} (h : DeadP r x) : DeadP r (x.bind f) := by
  rcases h with rfl | rfl
  · exact .inl rfl
  · exact .inr rfl
theorem atom_dead {r : List Tok} (h : Dead r) (n : Nat) : ∀ F, DeadP r (atomS F n r)
  | 0 => .inl rfl
  | F + 1 => by
    cases r with
    | nil => exact .inr rfl
    | cons t u =>
      have hk := h.kind
      refine .inr ?_
      rw [atomS]
      rw [if_neg (show ¬ t.kind = 1 from hk.1), if_neg (show ¬ t.kind = 2 from hk.2.1), if_neg (show ¬ t.kind = 3 from hk.2.2), h.is, h.is, h.is, h.is, h.is, h.is]
      rfl
theorem lev_dead {r : List Tok} (h : Dead r) (n : Nat) : ∀ F k, DeadP r (levS F k n r)
  | 0, _ => .inl rfl
  | F + 1, k => by
    match k with
    | 2 => rw [levS_2, h.is, if_neg (by decide)]; exact (lev_dead h n F 3).bind
    | 5 => rw [levS_5, h.is, if_neg (by decide)]; exact (atom_dead h n F).bind
    | 0 => exact (lev_dead h n F 1).bind
    | 1 => exact (lev_dead h n F 2).bind
    | 3 => exact (lev_dead h n F 4).bind
    | 4 => exact (lev_dead h n F 5).bind
    | k + 6 => exact (lev_dead h n F (k + 7)).bind
theorem expr_dead {r : List Tok} (h : Dead r) : ∀ F, DeadP r (exprS F 0 r)
  | 0 => .inl rfl
  | F + 1 => by rw [exprS, if_neg (by decide)]; exact lev_dead h 1 F 0
theorem stmt_dead {r : List Tok} (h : Dead r) (b d : Nat) : ∀ F, DeadP r (stmtS F b d r)
  | 0 => .inl rfl
  | F + 1 => by
    rw [stmtS, h.is, h.is, h.is, if_neg (by decide), if_neg (by decide), if_neg (by decide)]
    unfold smallS
    have hn : nameS r = false := by
      unfold nameS
      rw [beq_false_of_ne h.kind.1]; rfl
    rw [h.is, h.is, h.is, hn, if_neg (by decide), if_neg (by decide), if_neg (by decide), if_neg (by decide)]
    exact ((expr_dead h F).bind).bind
def Ax (e : Nat) (top : Bool) (x : Pr (List St)) (y : Option (List St × Rd)) : Prop := match x with
  | .out => True
  | .ok v u => y = some (v, ⟨u, (0, 0)⟩)
  | .bad k u => k ≠ 0 ∧ ((∃ v w, y = some (v, ⟨w, (k, placeS e u)⟩)) ∨ (k = 1 ∧ (if top then hdK u = 8 else u = []) ∧ ∃ v, y = some (v, ⟨u, (0, 0)⟩)))
theorem param_a (e : Nat) : ∀ (F G : Nat) (ns : List (List UInt8)) (r : List Tok), F ≤ G → (ns.length = 0 → hdK r = 1) → Ag e (paramS F ns r) (paramR e G ns ⟨r, (0, 0)⟩)
  | 0, _, _, _, _, _ => trivial
  | F + 1, 0, _, _, h, _ => absurd h (by omega)
  | F + 1, G + 1, ns, r, h, hn => by
    rw [paramS]
    show Ag e _ (if ns.length = 0 ∧ hdK r ≠ 1 then some (ns, ⟨r, (0, 0)⟩)
      else (fun x : List UInt8 × Rd => if isR [[44]] x.2 then paramR e G (ns ++ [x.1]) x.2.next else some (ns ++ [x.1], x.2)) (kindR e 1 (if hdK r = 1 ∧ ns.contains (hdT r) = true then failR e 6 ⟨r, (0, 0)⟩ else ⟨r, (0, 0)⟩)))
    rw [if_neg (show ¬ (ns.length = 0 ∧ hdK r ≠ 1) from fun h => h.2 (hn h.1))]
    have bp : Bp fun x : List UInt8 × Rd => if isR [[44]] x.2 then paramR e G (ns ++ [x.1]) x.2.next else some (ns ++ [x.1], x.2) := fun v q hq => ⟨ns ++ [v], q.r, by
      show (if isR [[44]] q = true then _ else _) = _
      rw [isR_bad hq, if_neg (by decide)]⟩
    by_cases c : (hdK r == 1 && ns.contains (hdT r)) = true
    · rw [if_pos c, if_pos (by simpa using c)]
      obtain ⟨z, w, hz⟩ := bp [] (failR e 6 ⟨r, (0, 0)⟩) rfl
      refine ⟨by decide, z, w, ?_⟩
      rw [kindR_bad (show (failR e 6 ⟨r, (0, 0)⟩).bad = true from rfl) (by decide)]
      exact hz
    · rw [if_neg c, if_neg (by simpa using c)]
      refine Ag.take (by decide) (fun t u _ => ?_) bp
      show Ag e _ (if isR [[44]] ⟨u, (0, 0)⟩ then paramR e G (ns ++ [t.text]) ⟨u.tail, (0, 0)⟩ else some (ns ++ [t.text], ⟨u, (0, 0)⟩))
      rw [isR_one]
      refine .ite (fun h1 => ?_) (fun h1 => ?_)
      · rw [if_pos h1]; exact param_a e F G _ _ (by omega) (fun h => by simp at h)
      · rw [if_neg h1]; exact .okv
theorem names_a (e : Nat) : ∀ (F G : Nat) (ns : List (List UInt8)) (r : List Tok), F ≤ G → Ag e (namesS F ns r) (namesR e G ns ⟨r, (0, 0)⟩)
  | 0, _, _, _, _ => trivial
  | F + 1, 0, _, _, h => absurd h (by omega)
  | F + 1, G + 1, ns, r, h => by
    rw [namesS]
    show Ag e _ ((fun x : List UInt8 × Rd => if isR [[44]] x.2 then namesR e G (ns ++ [x.1]) x.2.next else some (ns ++ [x.1], x.2)) (kindR e 3 (if hdK r = 3 ∧ isNm (hdT r) = false then failR e 1 ⟨r, (0, 0)⟩ else ⟨r, (0, 0)⟩)))
    have bp : Bp fun x : List UInt8 × Rd => if isR [[44]] x.2 then namesR e G (ns ++ [x.1]) x.2.next else some (ns ++ [x.1], x.2) := fun v q hq => ⟨ns ++ [v], q.r, by
      show (if isR [[44]] q = true then _ else _) = _
      rw [isR_bad hq, if_neg (by decide)]⟩
    by_cases c : (hdK r == 3 && !isNm (hdT r)) = true
    · rw [if_pos c, if_pos (by simpa using c)]
      obtain ⟨z, w, hz⟩ := bp [] (failR e 1 ⟨r, (0, 0)⟩) rfl
      refine ⟨by decide, z, w, ?_⟩
      rw [kindR_bad (show (failR e 1 ⟨r, (0, 0)⟩).bad = true from rfl) (by decide)]
      exact hz
    · rw [if_neg c, if_neg (by simpa using c)]
      refine Ag.take (by decide) (fun t u _ => ?_) bp
      show Ag e _ (if isR [[44]] ⟨u, (0, 0)⟩ then namesR e G (ns ++ [t.text]) ⟨u.tail, (0, 0)⟩ else some (ns ++ [t.text], ⟨u, (0, 0)⟩))
      rw [isR_one]
      refine .ite (fun h1 => ?_) (fun h1 => ?_)
      · rw [if_pos h1]; exact names_a e F G _ _ (by omega)
      · rw [if_neg h1]; exact .okv
theorem namesR_bad' {e : Nat} : ∀ {F : Nat} {ns : List (List UInt8)} {q : Rd}, q.bad = true → namesR e F ns q = some (ns, q)
  | 0, _, _, h => if_pos h
  | F + 1, _, _, h => by unfold namesR; rw [if_pos h]
theorem paramR_bad' {e : Nat} : ∀ {F : Nat} {ns : List (List UInt8)} {q : Rd}, q.bad = true → paramR e F ns q = some (ns, q)
  | 0, _, _, h => if_pos h
  | F + 1, _, _, h => by unfold paramR; rw [if_pos h]
theorem signR_is {e : Nat} {s : List UInt8} {r : List Tok} (h : isS s r = true) : signR e s ⟨r, (0, 0)⟩ = ⟨r.tail, (0, 0)⟩ := by
  unfold signR; rw [isR_one, if_pos h]; rfl
theorem load_a (e F G b : Nat) (r : List Tok) (h : F ≤ G) (hw : isS wLoad r = true) : Ag e (loadS F b r) (loadR e G b ⟨r, (0, 0)⟩) := by
  unfold loadS loadR
  have bp2 : ∀ tx, Bp fun y : List (List UInt8) × Rd => some (St.mk 4 tx y.1 .zero [] [], signR e [41] y.2) := fun tx => bp_some (s := fun x => signR e [41] x.2) fun v q hq => signR_bad hq
  have bp1 : ∀ tx (q : Rd), q.bad = true → (namesR e G [] q).bind (fun y => some (St.mk 4 tx y.1 .zero [] [], signR e [41] y.2)) = some (.mk 4 tx [] .zero [] [], q) := fun tx q hq => by
    rw [namesR_bad' hq]
    show some (St.mk 4 tx [] .zero [] [], signR e [41] q) = _
    rw [signR_bad hq]
  refine .ite (fun hb => ?_) (fun hb => ?_)
  · rw [if_pos hb]
    have hq : (failR e 4 ⟨r, (0, 0)⟩).bad = true := rfl
    rw [signR_bad hq, signR_bad hq, kindR_bad hq (by decide)]
    show Ag e _ ((namesR e G [] (signR e [44] (failR e 4 ⟨r, (0, 0)⟩))).bind fun y => some (St.mk 4 [] y.1 .zero [] [], signR e [41] y.2))
    rw [signR_bad hq, bp1 _ _ hq]
    exact .badv (by decide)
  · rw [if_neg hb, signR_is hw]
    refine Ag.step (g := fun _ q => (namesR e G [] (signR e [44] (kindR e 3 q).2)).bind fun y => some (St.mk 4 (kindR e 3 q).1 y.1 .zero [] [], signR e [41] y.2)) (mustS_a e [40] _) (fun _ u _ => ?_) (fun _ q hq => ⟨_, q.r, by
      show (namesR e G [] (signR e [44] (kindR e 3 q).2)).bind _ = _
      rw [kindR_bad hq (by decide)]
      show (namesR e G [] (signR e [44] q)).bind _ = _
      rw [signR_bad hq]
      exact bp1 _ q hq⟩)
    refine Ag.take (g := fun x => (namesR e G [] (signR e [44] x.2)).bind fun y => some (St.mk 4 x.1 y.1 .zero [] [], signR e [41] y.2)) (by decide) (fun t u _ => ?_) (fun v q hq => ⟨_, q.r, by
      show (namesR e G [] (signR e [44] q)).bind _ = _
      rw [signR_bad hq]
      exact bp1 _ q hq⟩)
    refine Ag.step (g := fun _ q => (namesR e G [] q).bind fun y => some (St.mk 4 t.text y.1 .zero [] [], signR e [41] y.2)) (mustS_a e [44] _) (fun _ u _ => ?_) (fun _ q hq => ⟨_, q.r, bp1 _ q hq⟩)
    refine (names_a e F G [] u h).bind (fun ns u _ => ?_) (bp2 _)
    exact Ag.step (g := fun _ q => some (_, q)) (mustS_a e [41] u) (fun _ _ _ => .okv) (bp_some (s := fun x => x.2) fun _ _ _ => rfl)
theorem small_a (e F G b d : Nat) (r : List Tok) (hG : 4 * F ≤ G) (hr : ∀ t ∈ r, TokK t) : Ag e (smallS F b d r) (smallR e G d b ⟨r, (0, 0)⟩) := by
  unfold smallS smallR
  rw [isS_wd hr (by decide), isS_wd hr (by decide), isS_wd hr (by decide)]
  refine .ite (fun h => ?_) (fun h => ?_)
  · rw [if_pos h]; exact .okv
  rw [if_neg h]
  refine .ite (fun h => ?_) (fun h => ?_)
  · rw [if_pos h]
    refine .ite (fun h => ?_) (fun h => ?_)
    · rw [if_pos h]
      have hq : (failR e 4 ⟨r, (0, 0)⟩).next.bad = true := rfl
      simp only
      rw [lkK_bad hq, if_pos (by decide), exprR_bad hq]
      exact ⟨by decide, _, _, rfl⟩
    · rw [if_neg h]
      show Ag e _ (if hdK r.tail ≠ 6 then (exprR e G 0 ⟨r.tail, (0, 0)⟩).bind fun x => some (St.mk 2 [] [] x.1 [] [], x.2) else some (St.mk 2 [] [] (.mk 1 0 [] [] []) [] [], ⟨r.tail, (0, 0)⟩))
      refine .ite (fun h => ?_) (fun h => ?_)
      · rw [if_pos h]
        exact ((allA e F).expr G 0 r.tail hG).bind (fun v u _ => .okv) (bp_some (s := fun x => x.2) fun _ _ _ => rfl)
      · rw [if_neg h]; exact .okv
  rw [if_neg h]
  refine .ite (fun h => ?_) (fun h => ?_)
  · rw [if_pos h]; exact load_a e F G b r (by omega) h
  rw [if_neg h]
  show Ag e _ (if nameS r then _ else _)
  refine .ite (fun h => ?_) (fun h => ?_)
  · rw [if_pos h]
    have hc := h
    unfold nameS at hc
    simp only [Bool.and_eq_true, beq_iff_eq] at hc
    obtain ⟨⟨z1, z4⟩, z5⟩ := hc
    have hk : kindR e 1 ⟨r, (0, 0)⟩ = (hdT r, ⟨r.tail, (0, 0)⟩) := by
      unfold kindR
      rw [if_pos (show lkK ⟨r, (0, 0)⟩ = 1 from z1)]; rfl
    rw [hk]
    show Ag e _ ((exprR e G 0 (signR e [61] ⟨r.tail, (0, 0)⟩)).bind fun y => some (St.mk 3 (hdT r) [] y.1 [] [], y.2))
    rw [signR_is (by unfold isS; rw [z4, z5]; decide)]
    exact ((allA e F).expr G 0 r.tail.tail hG).bind (fun v u _ => .okv) (bp_some (s := fun x => x.2) fun _ _ _ => rfl)
  · rw [if_neg h]
    exact ((allA e F).expr G 0 r hG).bind (fun v u _ => .okv) (bp_some (s := fun x => x.2) fun _ _ _ => rfl)
theorem stmtsR_bad {e F b d : Nat} {l : List St} {q : Rd} (h : q.bad = true) : stmtsR e F b d l q = some (l, q) := by
  cases F with
  | zero => unfold stmtsR; rw [lkK_bad h, if_pos (.inl rfl)]
  | succ G => rw [stmtsR, lkK_bad h, if_pos (.inl rfl)]
theorem blockR_bad {e F b d : Nat} {q : Rd} (h : q.bad = true) : blockR e F b d q = some ([], q) := by
  cases F with
  | zero => unfold blockR; rw [if_pos h]
  | succ G =>
    rw [blockR, signR_bad h, kindR_bad h (by decide)]
    show (stmtsR e G (b + 1) d [] (kindR e 7 q).2).bind _ = _
    rw [kindR_bad h (by decide)]
    show (stmtsR e G (b + 1) d [] q).bind _ = _
    rw [stmtsR_bad h]
    show some (([] : List St), (kindR e 8 q).2) = _
    rw [kindR_bad h (by decide)]
structure AllA2 (e F : Nat) : Prop where
  stmts : ∀ G top b d l r, 4 * F ≤ G → (∀ t ∈ r, TokK t) → Ax e top (stmtsS F top b d l r) (stmtsR e G b d l ⟨r, (0, 0)⟩)
  block : ∀ G b d r, 4 * F ≤ G → (∀ t ∈ r, TokK t) → Ag e (blockS F b d r) (blockR e G b d ⟨r, (0, 0)⟩)
  stmt : ∀ G b d r, 4 * F ≤ G → (∀ t ∈ r, TokK t) → Ag e (stmtS F b d r) (stmtR e G b d ⟨r, (0, 0)⟩)
theorem TokK.suf {u r : List Tok} (hr : ∀ t ∈ r, TokK t) (h : u <:+ r) : ∀ t ∈ u, TokK t := fun t ht => hr t (h.subset ht)
theorem allA2 (e F : Nat) : AllA2 e F := by
  induction F with
  | zero => exact ⟨fun _ _ _ _ _ _ _ _ => trivial, fun _ _ _ _ _ _ => trivial, fun _ _ _ _ _ _ => trivial⟩
  | succ F ih =>
    refine ⟨?_, ?_, ?_⟩
    · intro G top b d l r hG hr
      obtain ⟨G, rfl⟩ : ∃ G', G = G' + 1 := ⟨G - 1, by omega⟩
      rw [stmtsS]
      show Ax e top _ (if hdK r = 0 ∨ hdK r = 8 then some (l, ⟨r, (0, 0)⟩) else (stmtR e G b d ⟨r, (0, 0)⟩).bind fun s => stmtsR e G b d (l ++ [s.1]) s.2)
      by_cases c : hdK r = 0 ∨ hdK r = 8
      · rw [if_pos c]
        by_cases en : (if top then r.isEmpty else hdK r == 8) = true
        · rw [if_pos en]; rfl
        · rw [if_neg en]
          have hd := stmt_dead (dead_of c) b d F
          rcases hd with h | h
          · rw [h]; trivial
          · rw [h]
            refine ⟨by decide, .inr ⟨rfl, ?_, l, rfl⟩⟩
            cases top with
            | true =>
              rcases c with c | c
              · have := hdK_nil hr c
                subst this
                exact absurd rfl en
              · exact c
            | false =>
              rcases c with c | c
              · exact hdK_nil hr c
              · exact absurd (by show (hdK r == 8) = true; rw [c]; rfl) en
      · rw [if_neg c]
        have en : ¬ (if top then r.isEmpty else hdK r == 8) = true := by
          intro h
          cases top with
          | true =>
            have : r = [] := by simpa using h
            subst this
            exact c (.inl rfl)
          | false => exact c (.inr (by simpa using h))
        rw [if_neg en]
        have hs := ih.stmt G b d r (by omega) hr
        cases hx : stmtS F b d r with
        | out => trivial
        | bad k u =>
          rw [hx] at hs
          obtain ⟨hk, v, w, hv⟩ := hs
          rw [hv]
          refine ⟨hk, .inl ⟨l ++ [v], w, ?_⟩⟩
          exact stmtsR_bad (Rd.bad_of hk)
        | ok v u =>
          rw [hx] at hs
          have hs : stmtR e G b d ⟨r, (0, 0)⟩ = some (v, ⟨u, (0, 0)⟩) := hs
          rw [hs]
          exact ih.stmts G top b d _ u (by omega) (TokK.suf hr ((allW F).stmt b d r v u hx))
    · intro G b d r hG hr
      obtain ⟨G, rfl⟩ : ∃ G', G = G' + 1 := ⟨G - 1, by omega⟩
      rw [blockS, blockR]
      have bp3 : ∀ q : Rd, q.bad = true → (stmtsR e G (b + 1) d [] q).bind (fun l => some (l.1, (kindR e 8 l.2).2)) = some ([], q) := fun q hq => by
        rw [stmtsR_bad hq]
        show some (([] : List St), (kindR e 8 q).2) = _
        rw [kindR_bad hq (by decide)]
      refine Ag.step (g := fun _ q => (stmtsR e G (b + 1) d [] (kindR e 7 (kindR e 6 q).2).2).bind fun l => some (l.1, (kindR e 8 l.2).2)) (mustS_a e [58] r) (fun _ u hu => ?_) (fun _ q hq => ⟨_, q.r, by
        show (stmtsR e G (b + 1) d [] (kindR e 7 (kindR e 6 q).2).2).bind _ = _
        rw [kindR_bad hq (by decide)]
        show (stmtsR e G (b + 1) d [] (kindR e 7 q).2).bind _ = _
        rw [kindR_bad hq (by decide)]
        exact bp3 q hq⟩)
      have hu := TokK.suf hr (mustS_s _ _ _ _ hu)
      refine Ag.take (g := fun x => (stmtsR e G (b + 1) d [] (kindR e 7 x.2).2).bind fun l => some (l.1, (kindR e 8 l.2).2)) (by decide) (fun _ u2 h2 => ?_) (fun _ q hq => ⟨_, q.r, by
        show (stmtsR e G (b + 1) d [] (kindR e 7 q).2).bind _ = _
        rw [kindR_bad hq (by decide)]
        exact bp3 q hq⟩)
      have hu2 := TokK.suf hu (takeS_s _ _ _ _ h2)
      refine Ag.take (g := fun x => (stmtsR e G (b + 1) d [] x.2).bind fun l => some (l.1, (kindR e 8 l.2).2)) (by decide) (fun _ u3 h3 => ?_) (fun _ q hq => ⟨_, q.r, bp3 q hq⟩)
      have hu3 := TokK.suf hu2 (takeS_s _ _ _ _ h3)
      have hs := ih.stmts G false (b + 1) d [] u3 (by omega) hu3
      show Ag e _ ((stmtsR e G (b + 1) d [] ⟨u3, (0, 0)⟩).bind fun l => some (l.1, (kindR e 8 l.2).2))
      cases hx : stmtsS F false (b + 1) d [] u3 with
      | out => trivial
      | bad k u =>
        rw [hx] at hs
        obtain ⟨hk, ⟨v, w, hv⟩ | ⟨hk1, hu0, v, hv⟩⟩ := hs
        · rw [hv]
          refine ⟨hk, v, w, ?_⟩
          show some (v, (kindR e 8 _).2) = _
          rw [kindR_bad (Rd.bad_of hk) (by decide)]
        · have hu0 : u = [] := hu0
          subst hu0; subst hk1
          rw [hv]
          exact ⟨by decide, v, [], rfl⟩
      | ok v u =>
        rw [hx] at hs
        have hs : stmtsR e G (b + 1) d [] ⟨u3, (0, 0)⟩ = some (v, ⟨u, (0, 0)⟩) := hs
        rw [hs]
        exact Ag.take (g := fun x => some (v, x.2)) (by decide) (fun _ _ _ => .okv) (bp_some (s := fun x => x.2) fun _ _ _ => rfl)
    · intro G b d r hG hr
      obtain ⟨G, rfl⟩ : ∃ G', G = G' + 1 := ⟨G - 1, by omega⟩
      rw [stmtS, stmtR, isS_wd hr (by decide), isS_wd hr (by decide), isS_wd hr (by decide)]
      refine .ite (fun h => ?_) (fun h => ?_)
      · rw [if_pos h]
        obtain ⟨G, rfl⟩ : ∃ G', G = G' + 1 := ⟨G - 1, by omega⟩
        rw [defR]
        have bp2 : ∀ tx ns (q : Rd), q.bad = true → (blockR e G b (d + 1) q).bind (fun l => some (St.mk 6 tx ns .zero l.1 [], l.2)) = some (.mk 6 tx ns .zero [] [], q) := fun tx ns q hq => by rw [blockR_bad hq]; rfl
        have bp1 : ∀ tx (q : Rd), q.bad = true → (paramR e G [] q).bind (fun ns => (blockR e G b (d + 1) (signR e [41] ns.2)).bind fun l => some (St.mk 6 tx ns.1 .zero l.1 [], l.2)) = some (.mk 6 tx [] .zero [] [], q) := fun tx q hq => by
          rw [paramR_bad' hq]
          show (blockR e G b (d + 1) (signR e [41] q)).bind _ = _
          rw [signR_bad hq]; exact bp2 _ _ q hq
        refine .ite (fun hb => ?_) (fun hb => ?_)
        · rw [if_pos hb]
          have hq : (failR e 4 ⟨r, (0, 0)⟩).bad = true := rfl
          rw [signR_bad hq, kindR_bad hq (by decide)]
          show Ag e _ ((paramR e G [] (signR e [40] (failR e 4 ⟨r, (0, 0)⟩))).bind _)
          rw [signR_bad hq, bp1 _ _ hq]
          exact .badv (by decide)
        rw [if_neg hb, signR_is h]
        refine Ag.take (g := fun x => (paramR e G [] (signR e [40] x.2)).bind fun ns => (blockR e G b (d + 1) (signR e [41] ns.2)).bind fun l => some (St.mk 6 x.1 ns.1 .zero l.1 [], l.2)) (by decide) (fun t u hu => ?_) (fun v q hq => ⟨_, q.r, by
          show (paramR e G [] (signR e [40] q)).bind _ = _
          rw [signR_bad hq]; exact bp1 _ q hq⟩)
        have hu := TokK.suf (TokK.suf hr (suf_tl r)) (takeS_s _ _ _ _ hu)
        refine Ag.step (g := fun _ q => (paramR e G [] q).bind fun ns => (blockR e G b (d + 1) (signR e [41] ns.2)).bind fun l => some (St.mk 6 t.text ns.1 .zero l.1 [], l.2)) (mustS_a e [40] u) (fun _ u2 h2 => ?_) (fun _ q hq => ⟨_, q.r, bp1 _ q hq⟩)
        have hu2 := TokK.suf hu (mustS_s _ _ _ _ h2)
        have hp : Ag e (if hdK u2 = 1 then paramS F [] u2 else .ok [] u2) (paramR e G [] ⟨u2, (0, 0)⟩) := by
          refine .ite (fun h1 => param_a e F G [] u2 (by omega) (fun _ => h1)) (fun h1 => ?_)
          cases G with
          | zero => exact absurd hG (by omega)
          | succ G =>
            rw [paramR, if_neg (show ¬ (⟨u2, (0, 0)⟩ : Rd).bad = true from by intro h; cases h), if_pos ⟨rfl, h1⟩]; exact .okv
        refine hp.bind (fun ns u3 h3 => ?_) (fun v q hq => ⟨_, q.r, by
          show (blockR e G b (d + 1) (signR e [41] q)).bind _ = _
          rw [signR_bad hq]; exact bp2 _ _ q hq⟩)
        have hu3 : ∀ t ∈ u3, TokK t := by
          split at h3
          · exact TokK.suf hu2 (paramS_s F _ _ _ _ h3)
          · cases h3; exact hu2
        refine Ag.step (g := fun _ q => (blockR e G b (d + 1) q).bind fun l => some (St.mk 6 t.text ns .zero l.1 [], l.2)) (mustS_a e [41] u3) (fun _ u4 h4 => ?_) (fun _ q hq => ⟨_, q.r, bp2 _ _ q hq⟩)
        have hu4 := TokK.suf hu3 (mustS_s _ _ _ _ h4)
        exact (ih.block G b (d + 1) u4 (by omega) hu4).bind (fun l u _ => .okv) (bp_some (s := fun x => x.2) fun _ _ _ => rfl)
      rw [if_neg h]
      refine .ite (fun h => ?_) (fun h => ?_)
      · rw [if_pos h]
        show Ag e _ ((exprR e G 0 ⟨r.tail, (0, 0)⟩).bind fun x => (blockR e G b d x.2).bind fun l => if isR [wElse] l.2 then (blockR e G b d l.2.next).bind fun m => some (St.mk 7 [] [] x.1 l.1 m.1, m.2) else some (St.mk 7 [] [] x.1 l.1 [], l.2))
        have bp : ∀ x (q : Rd), q.bad = true → (blockR e G b d q).bind (fun l => if isR [wElse] l.2 then (blockR e G b d l.2.next).bind fun m => some (St.mk 7 [] [] x l.1 m.1, m.2) else some (St.mk 7 [] [] x l.1 [], l.2)) = some (.mk 7 [] [] x [] [], q) := fun x q hq => by
          rw [blockR_bad hq]
          show (if isR [wElse] q = true then _ else some (St.mk 7 [] [] x [] [], q)) = _
          rw [isR_bad hq]; rfl
        refine ((allA e F).expr G 0 r.tail (by omega)).bind (fun x u hu => ?_) (fun x q hq => ⟨_, q.r, bp x q hq⟩)
        have hu := TokK.suf (TokK.suf hr (suf_tl r)) ((allS F).expr _ _ _ _ hu)
        refine (ih.block G b d u (by omega) hu).bind (fun l u2 h2 => ?_) (fun l q hq => ⟨_, q.r, by
          show (if isR [wElse] q = true then _ else some (St.mk 7 [] [] x l [], q)) = _
          rw [isR_bad hq]; rfl⟩)
        have hu2 := TokK.suf hu ((allW F).block _ _ _ _ _ h2)
        show Ag e _ (if isR [wElse] ⟨u2, (0, 0)⟩ then (blockR e G b d ⟨u2.tail, (0, 0)⟩).bind fun m => some (St.mk 7 [] [] x l m.1, m.2) else some (St.mk 7 [] [] x l [], ⟨u2, (0, 0)⟩))
        rw [isR_one]
        refine .ite (fun h => ?_) (fun h => ?_)
        · rw [if_pos h]
          exact (ih.block G b d u2.tail (by omega) (TokK.suf hu2 (suf_tl u2))).bind (fun l u _ => .okv) (bp_some (s := fun x => x.2) fun _ _ _ => rfl)
        · rw [if_neg h]; exact .okv
      rw [if_neg h]
      refine .ite (fun h => ?_) (fun h => ?_)
      · rw [if_pos h]
        have bp : ∀ t x (q : Rd), q.bad = true → (blockR e G b d q).bind (fun l => some (St.mk 8 t [] x l.1 [], l.2)) = some (.mk 8 t [] x [] [], q) := fun t x q hq => by rw [blockR_bad hq]; rfl
        have bp1 : ∀ t (q : Rd), q.bad = true → (exprR e G 0 q).bind (fun x => (blockR e G b d x.2).bind fun l => some (St.mk 8 t [] x.1 l.1 [], l.2)) = some (.mk 8 t [] .zero [] [], q) := fun t q hq => by
          rw [exprR_bad hq]; exact bp t _ q hq
        refine Ag.take (g := fun x => (exprR e G 0 (signR e wIn x.2)).bind fun y => (blockR e G b d y.2).bind fun l => some (St.mk 8 x.1 [] y.1 l.1 [], l.2)) (by decide) (fun t u hu => ?_) (fun v q hq => ⟨_, q.r, by
          show (exprR e G 0 (signR e wIn q)).bind _ = _
          rw [signR_bad hq]; exact bp1 _ q hq⟩)
        have hu := TokK.suf (TokK.suf hr (suf_tl r)) (takeS_s _ _ _ _ hu)
        refine Ag.step (g := fun _ q => (exprR e G 0 q).bind fun y => (blockR e G b d y.2).bind fun l => some (St.mk 8 t.text [] y.1 l.1 [], l.2)) (mustS_a e wIn u) (fun _ u2 h2 => ?_) (fun _ q hq => ⟨_, q.r, bp1 _ q hq⟩)
        have hu2 := TokK.suf hu (mustS_s _ _ _ _ h2)
        refine ((allA e F).expr G 0 u2 (by omega)).bind (fun x u3 h3 => ?_) (fun x q hq => ⟨_, q.r, bp _ x q hq⟩)
        have hu3 := TokK.suf hu2 ((allS F).expr _ _ _ _ h3)
        exact (ih.block G b d u3 (by omega) hu3).bind (fun l u _ => .okv) (bp_some (s := fun x => x.2) fun _ _ _ => rfl)
      rw [if_neg h]
      refine (small_a e F G b d r (by omega) hr).bind (fun s u hu => ?_) (bp_some (s := fun x => (kindR e 6 x.2).2) fun v q hq => by rw [kindR_bad hq (by decide)])
      exact Ag.take (g := fun x => some (s, x.2)) (by decide) (fun _ _ _ => .okv) (bp_some (s := fun x => x.2) fun _ _ _ => rfl)
end Go.Proofs.YtmdegomejbpldaaGreatDoor
end
section
set_option linter.unusedVariables false
set_option linter.unusedSimpArgs false
set_option maxRecDepth 20000
set_option maxHeartbeats 4000000
namespace Go.Proofs.YtmdegomejbpldaaGreatDoor
open Go Go.Ab
def src1 : List UInt8 := [97, 32, 61, 32, 45, 49, 32, 43, 32, 50]
def src2 : List UInt8 := [97, 61, 91, 49, 44, 50, 93, 91, 48, 93]
def src3 : List UInt8 := [97, 32, 61, 32, 91, 49, 44, 32, 50, 93, 91, 48, 93, 10]
def one (n : Nat) : Ex := .mk 4 n [] [] []
def st1 : St := .mk 3 [97] [] (.mk 14 0 [43] [.mk 13 0 [] [one 1] [], one 2] []) [] []
def st2 : St := .mk 3 [97] [] (.mk 11 0 [] [.mk 7 0 [] [one 1, one 2] [], one 0] []) [] []
theorem parse1 : parseS src1 = ([st1], (0, 0)) := by kernel_rfl
theorem parse2 : parseS src2 = ([st2], (0, 0)) := by kernel_rfl
theorem srct2 : srcT [st2] = src3 := by decide +kernel
theorem parse3 : parseS src3 = ([st2], (0, 0)) := by kernel_rfl
theorem canon2 : canonS src2 = (src3, (0, 0)) := by
  unfold canonS
  rw [parse2]
  show (if (0 : Nat) ≠ 0 then _ else if 6000 < (srcT [st2]).length ∨ (parseS (srcT [st2])).2.1 ≠ 0 then _ else (srcT [st2], (0, 0))) = _
  rw [srct2, parse3]
  decide
theorem allJ2 : ∀ x ∈ (parseS src2).1, AllJ (fun ns => ns.length ≤ 1) x := by
  rw [parse2]
  intro x hx
  rw [List.mem_singleton] at hx
  rw [hx]
  exact .mk (fun h => by cases h) nofun nofun
theorem begunP : Calc cx 6 [.str src1] (parseAV ([st1], (0, 0))) := by
  have := Parse_ok src1; rwa [parse1] at this
theorem begunC : Calc cx 5 [.str src2] (canonAV (src3, (0, 0))) := by
  have := Canon_ok (J := fun ns => ns.length ≤ 1) (fun ns h => Join_few ns h) src2 allJ2 (by rw [parse2]; show (srcT [st2]).length ≤ _; rw [srct2]; decide)
  rwa [canon2] at this
theorem syntaxBegun_ok : Calc cx 4 [] (.bool true) :=
  pure_intro (fun a w => Tryz.call4 a w) Tryz.func4 rfl Tryz.ntmps4 rfl .bool fun B => by
    have h1 := begunP
    have h2 := begunC
    refine pa [.v (parseAV ([st1], (0, 0))), .v (canonAV (src3, (0, 0))), .b true, .b true, .v (stA st1), .b true, .b true] rfl ?_ ?_
    · (repeat' with_reducible apply AllP_cons) <;> try exact aC
      · exact ⟨_, h1, .cons (.refl .str) (.nil _)⟩
      · exact ⟨_, h2, .cons (.refl .str) (.nil _)⟩
      · intro x hx; rw [List.mem_singleton] at hx; rw [hx]; trivial
      · decide
    exact S_retc .bool rfl trivial rfl
end Go.Proofs.YtmdegomejbpldaaGreatDoor
end
section
set_option linter.unusedVariables false
set_option linter.unusedSimpArgs false
set_option maxRecDepth 20000
set_option maxHeartbeats 4000000
namespace Go.Proofs.YtmdegomejbpldaaGreatDoor
open Go Go.Ab
theorem quoC_1 (c : UInt8) (h : c = 10) : quoC c = [92, 110] := by rw [h]; rfl
theorem quoC_2 (c : UInt8) (h : c = 9) : quoC c = [92, 116] := by rw [h]; rfl
end Go.Proofs.YtmdegomejbpldaaGreatDoor
end
section
set_option linter.unusedVariables false
set_option linter.unusedSimpArgs false
set_option maxRecDepth 20000
set_option maxHeartbeats 4000000
namespace Go.Proofs.YtmdegomejbpldaaGreatDoor
open Go Go.Ab
theorem quoteS_quo (r : List UInt8) : ∀ (s : List UInt8) (i : Nat) (b : List UInt8), okTx s → quoteS (s.flatMap quoC ++ 34 :: r) i b = .inr (b ++ s, i + (s.flatMap quoC).length + 1)
  | [], i, b, _ => by
    rw [quoteS.eq_def]
    simp
  | c :: s, i, b, h => by
    have hs : okTx s := fun x hx => h x (List.mem_cons_of_mem _ hx)
    have hc := h c (List.mem_cons_self ..)
    have two : ∀ d e : UInt8, quoC c = [92, d] → esc d = some c → quoteS ((c :: s).flatMap quoC ++ 34 :: r) i b = .inr (b ++ c :: s, i + ((c :: s).flatMap quoC).length + 1) := fun d e h1 h2 => by
      rw [List.flatMap_cons, h1, List.append_assoc]
      show quoteS (92 :: d :: (s.flatMap quoC ++ 34 :: r)) i b = _
      rw [quoteS.eq_def]
      simp only
      rw [if_neg (by decide), if_neg (by decide), if_neg (by decide), h2]
      simp only
      rw [quoteS_quo r s (i + 2) (b ++ [c]) hs]
      simp only [List.append_assoc, List.length_append, List.length_cons, List.length_nil, Sum.inr.injEq, Prod.mk.injEq]
      exact ⟨rfl, by omega⟩
    by_cases d1 : c = 10
    · exact two 110 0 (quoC_1 c d1) (by rw [d1]; rfl)
    by_cases d2 : c = 9
    · exact two 116 0 (quoC_2 c d2) (by rw [d2]; rfl)
    by_cases d3 : c = 92
    · exact two 92 0 (by rw [d3]; rfl) (by rw [d3]; rfl)
    by_cases d4 : c = 34
    · exact two 34 0 (by rw [d4]; rfl) (by rw [d4]; rfl)
    have hq : quoC c = [c] := by unfold quoC; rw [if_neg d1, if_neg d2, if_neg d3, if_neg d4]
    have h32 : 32 ≤ c.toNat := by
      rcases hc with h | h | h
      · exact h
      · exact absurd h d2
      · exact absurd h d1
    rw [List.flatMap_cons, hq]
    show quoteS (c :: (s.flatMap quoC ++ 34 :: r)) i b = _
    rw [quoteS.eq_def]
    simp only
    rw [if_neg (by omega), if_neg (by simpa using d4), if_pos (by simpa using d3), quoteS_quo r s (i + 1) (b ++ [c]) hs]
    simp only [List.append_assoc, List.length_append, List.length_cons, List.length_nil, Sum.inr.injEq, Prod.mk.injEq]
    exact ⟨rfl, by omega⟩
end Go.Proofs.YtmdegomejbpldaaGreatDoor
end
section
set_option linter.unusedVariables false
set_option linter.unusedSimpArgs false
set_option maxRecDepth 20000
namespace Go.Proofs.YtmdegomejbpldaaGreatDoor
open Go Go.Ab
def digs (n : Nat) : List UInt8 := if h : n < 10 then [UInt8.ofNat (48 + n)] else digs (n / 10) ++ [UInt8.ofNat (48 + n % 10)]
termination_by n
decreasing_by omega
end Go.Proofs.YtmdegomejbpldaaGreatDoor
end
section
set_option linter.unusedVariables false
set_option linter.unusedSimpArgs false
set_option maxRecDepth 20000
set_option maxHeartbeats 4000000
namespace Go.Proofs.YtmdegomejbpldaaGreatDoor
open Go Go.Ab
theorem digs_dec (n : Nat) : ∀ m, m = n → digs m = Lib.decDigits m := by
  induction n using Nat.strongRecOn with
  | _ n ih =>
    intro m hm
    rw [digs, Lib.decDigits]
    by_cases h : m < 10
    · rw [dif_pos h, dif_pos h]
    · rw [dif_neg h, dif_neg h, ih (m / 10) (by omega) (m / 10) rfl]
theorem itoa_digs (n : Nat) : Lib.itoa (n : Int) = digs n := by
  rw [digs_dec n n rfl]
  unfold Lib.itoa
  rw [if_neg (by omega)]
  simp
end Go.Proofs.YtmdegomejbpldaaGreatDoor
end
section
set_option linter.unusedVariables false
set_option linter.unusedSimpArgs false
set_option maxRecDepth 20000
namespace Go.Proofs.YtmdegomejbpldaaGreatDoor
open Go Go.Ab
def LFx (f : Nat) (s : List UInt8) (i o : Nat) (out : List Tok) : Flt ⊕ (Nat × List Tok) := lineF f s (gapC s i) o out
def Lex (P : List UInt8 → Prop) (a : List UInt8) (ts : List Tok) (o o' : Nat) : Prop :=
  ∀ s i f out rest res, s.drop i = a ++ rest → P rest → LFx f s i o out = .inr res → ∃ f' ts', LFx f' s (i + a.length) o' (out ++ ts') = .inr res ∧ bareL ts' = ts
def NL : List UInt8 → Prop
  | [] => True
  | c :: _ => (isLet c || isDg c) = false
def NE : List UInt8 → Prop
  | [] => True
  | c :: _ => c ≠ 61
def NB : List UInt8 → Prop
  | [] => False
  | c :: _ => c = 32
def Tr (_ : List UInt8) : Prop := True
theorem Lex.nil {o : Nat} : Lex Tr [] [] o o := fun s i f out rest res _ _ h => ⟨f, [], by rw [List.append_nil]; exact h, rfl⟩
theorem Lex.app {P Q : List UInt8 → Prop} {a b : List UInt8} {ts us : List Tok} {o o1 o2 : Nat} (ha : Lex P a ts o o1) (hb : Lex Q b us o1 o2) (hP : ∀ rest, Q rest → P (b ++ rest)) : Lex Q (a ++ b) (ts ++ us) o o2 := by
  intro s i f out rest res hs hr h
  rw [List.append_assoc] at hs
  obtain ⟨f1, t1, h1, e1⟩ := ha s i f out _ res hs (hP _ hr) h
  have hs2 : s.drop (i + a.length) = b ++ rest := by rw [← List.drop_drop, hs, List.drop_left]
  obtain ⟨f2, t2, h2, e2⟩ := hb s _ f1 _ _ res hs2 hr h1
  refine ⟨f2, t1 ++ t2, ?_, by unfold bareL at *; rw [List.map_append, e1, e2]⟩
  rw [List.length_append, ← Nat.add_assoc, ← List.append_assoc]; exact h2
theorem Lex.to {P Q : List UInt8 → Prop} {a a' : List UInt8} {ts ts' : List Tok} {o o' : Nat} (h : Lex P a ts o o') (hP : ∀ r, Q r → P r) (ha : a' = a) (ht : ts' = ts) : Lex Q a' ts' o o' := by
  subst ha; subst ht
  exact fun s i f out rest res hs hr => h s i f out rest res hs (hP _ hr)
theorem drop_hd {s : List UInt8} {i : Nat} {c : UInt8} {r : List UInt8} (h : s.drop i = c :: r) : ∃ hi : i < s.length, s[i] = c := by
  have hi : i < s.length := by
    rcases Nat.lt_or_ge i s.length with hl | hl
    · exact hl
    · rw [List.drop_eq_nil_of_le hl] at h; cases h
  refine ⟨hi, ?_⟩
  rw [List.drop_eq_getElem_cons hi] at h
  exact (List.cons.inj h).1
theorem gapC_no {s : List UInt8} {i : Nat} {c : UInt8} {r : List UInt8} (h : s.drop i = c :: r) (h1 : c ≠ 32) (h2 : c ≠ 35) : gapE s i = i ∧ gapC s i = i := by
  obtain ⟨hi, hc⟩ := drop_hd h
  have e : gapE s i = i := stopAt_no hi (by rw [hc]; simpa using h1)
  refine ⟨e, ?_⟩
  unfold gapC
  rw [e, if_neg]
  rw [List.getElem?_eq_getElem hi, hc]
  simpa using h2
theorem lex_blank {o : Nat} : Lex Tr [32] [] o o := by
  intro s i f out rest res hs _ h
  obtain ⟨hi, hc⟩ := drop_hd (r := rest) hs
  refine ⟨f, [], ?_, rfl⟩
  rw [List.append_nil]
  have e : gapE s i = gapE s (i + 1) := stopAt_yes hi (by rw [hc]; rfl)
  have e2 : gapC s i = gapC s (i + 1) := by unfold gapC; rw [e]
  unfold LFx at h ⊢
  rw [e2] at h
  exact h
theorem Lex.tok {P : List UInt8 → Prop} {c : UInt8} {a : List UInt8} {t : Tok} {o o' : Nat} (h1 : c ≠ 32) (h2 : c ≠ 35) (h3 : c ≠ 10)
    (h : ∀ s i rest, s.drop i = c :: a ++ rest → P rest → i < s.length → s.getD i 0 = c → ∀ r, oneS s i o = .inr r → ∃ t', r = (t', i + (c :: a).length, o') ∧ bareT t' = t) : Lex P (c :: a) [t] o o' := by
  intro s i f out rest res hs hr hL
  obtain ⟨hi, hc⟩ := drop_hd (r := a ++ rest) hs
  have hg := (gapC_no (r := a ++ rest) hs h1 h2).2
  unfold LFx at hL
  rw [hg] at hL
  cases f with
  | zero => cases hL
  | succ f =>
    have h10 : s[i]? ≠ some 10 := by rw [List.getElem?_eq_getElem hi, hc]; simpa using h3
    rw [lineF, if_pos ⟨hi, .inl h10⟩, if_neg h10] at hL
    have hgd : s.getD i 0 = c := by simp [List.getD, hi, hc]
    cases ho : oneS s i o with
    | inl e => rw [ho] at hL; cases hL
    | inr r =>
      obtain ⟨t', rfl, ht⟩ := h s i rest hs hr hi hgd r ho
      rw [ho] at hL
      exact ⟨f, [t'], hL, by unfold bareL; rw [List.map_cons, ht]; rfl⟩
theorem tw_all {p : UInt8 → Bool} {rest : List UInt8} (hr : ∀ c r, rest = c :: r → p c = false) : ∀ w : List UInt8, (∀ c ∈ w, p c = true) → (w ++ rest).takeWhile p = w
  | [], _ => by
    cases rest with
    | nil => rfl
    | cons c r => rw [List.nil_append, List.takeWhile_cons, if_neg (by rw [hr c r rfl]; decide)]
  | c :: w, h => by
    rw [List.cons_append, List.takeWhile_cons, if_pos (h c (List.mem_cons_self ..)), tw_all hr w fun d hd => h d (List.mem_cons_of_mem _ hd)]
theorem stop_w {p : UInt8 → Bool} {s w rest : List UInt8} {i : Nat} (hs : s.drop i = w ++ rest) (hw : ∀ c ∈ w, p c = true) (hr : ∀ c r, rest = c :: r → p c = false) : stopAt p s i = i + w.length ∧ cutT s i (i + w.length) = w := by
  refine ⟨by unfold stopAt; rw [hs, tw_all hr w hw], ?_⟩
  unfold cutT
  rw [List.drop_take, Nat.add_sub_cancel_left, hs, List.take_left]
theorem let_no {c : UInt8} (h : isLet c = true) : c ≠ 32 ∧ c ≠ 35 ∧ c ≠ 10 := by
  refine ⟨?_, ?_, ?_⟩ <;> (rintro rfl; revert h; decide)
theorem dg_no {c : UInt8} (h : isDg c = true) : c ≠ 32 ∧ c ≠ 35 ∧ c ≠ 10 ∧ isLet c = false := by
  refine ⟨?_, ?_, ?_, ?_⟩
  · rintro rfl; revert h; decide
  · rintro rfl; revert h; decide
  · rintro rfl; revert h; decide
  · unfold isDg at h
    unfold isLet
    simp only [Bool.and_eq_true, decide_eq_true_eq] at h
    have h95 : c ≠ 95 := by rintro rfl; revert h; decide
    simp only [Bool.or_eq_false_iff, Bool.and_eq_false_iff, decide_eq_false_iff_not, beq_eq_false_iff_ne]
    exact ⟨⟨by omega, by omega⟩, h95⟩
theorem NL.of {rest : List UInt8} (h : NL rest) : ∀ c r, rest = c :: r → (isLet c || isDg c) = false := by
  rintro c r rfl; exact h
theorem lex_word {c : UInt8} {w : List UInt8} {o : Nat} (hc : isLet c = true) (hw : ∀ d ∈ c :: w, (isLet d || isDg d) = true) : Lex NL (c :: w) [⟨if (c :: w) ∈ words14 then 5 else 1, c :: w, 0, 0⟩] o o := by
  obtain ⟨h1, h2, h3⟩ := let_no hc
  refine Lex.tok h1 h2 h3 fun s i rest hs hr hi hg r ho => ?_
  obtain ⟨e1, e2⟩ := stop_w hs hw hr.of
  unfold oneS at ho
  rw [hg, if_pos hc, e1, e2] at ho
  cases ho
  exact ⟨_, rfl, rfl⟩
theorem lex_kw {w : List UInt8} {o : Nat} (h : w ∈ words14) : Lex NL w [tW w] o o := by
  have key : ∀ w ∈ words14, ∃ c r, w = c :: r ∧ isLet c = true ∧ ∀ d ∈ w, (isLet d || isDg d) = true := by
    intro w hw
    have : ∀ w ∈ words14, (match w with | [] => false | c :: r => isLet c && w.all fun d => isLet d || isDg d) = true := by decide
    have := this w hw
    match w, this with
    | c :: r, h =>
      simp only [Bool.and_eq_true, List.all_eq_true] at h
      exact ⟨c, r, rfl, h.1, h.2⟩
  obtain ⟨c, r, rfl, h1, h2⟩ := key w h
  have := lex_word (o := o) h1 h2
  rw [if_pos h] at this
  exact this
theorem lex_name {w : List UInt8} {o : Nat} (h : isNm w = true) : Lex NL w [tN w] o o := by
  match w, h with
  | c :: r, h =>
    unfold isNm at h
    simp only [Bool.and_eq_true, List.all_eq_true, Bool.not_eq_true'] at h
    obtain ⟨⟨h1, h2⟩, h3⟩ := h
    have h4 : (c :: r) ∉ words14 := fun hm => by rw [List.contains_iff_mem.2 hm] at h3; cases h3
    have := lex_word (o := o) h1 (w := r) (fun d hd => by
      rcases List.mem_cons.1 hd with rfl | hd
      · rw [h1]; rfl
      · exact h2 d hd)
    rw [if_neg h4] at this
    exact this
theorem lex_text {t : List UInt8} {o : Nat} (h : okTx t) : Lex Tr (quoT t) [tX t] o o := by
  have e : quoT t = 34 :: (t.flatMap quoC ++ [34]) := by unfold quoT; rw [List.append_assoc]; rfl
  rw [e]
  refine Lex.tok (by decide) (by decide) (by decide) fun s i rest hs hr hi hg r ho => ?_
  have hs2 : s.drop (i + 1) = t.flatMap quoC ++ 34 :: rest := by
    rw [← List.drop_drop, hs]
    show (t.flatMap quoC ++ [34]) ++ rest = _
    rw [List.append_assoc]; rfl
  unfold oneS at ho
  rw [hg, if_neg (by decide), if_neg (by decide), if_pos rfl, hs2, quoteS_quo rest t (i + 1) [] h] at ho
  cases ho
  refine ⟨⟨3, t, 0, i⟩, ?_, rfl⟩
  simp only [List.length_cons, List.length_append, List.length_nil, List.nil_append]
  rw [show i + 1 + (t.flatMap quoC).length + 1 = i + ((t.flatMap quoC).length + (0 + 1) + 1) by omega]
theorem sign_find {g : List UInt8} (hg : g ∈ signs18) {rest : List UInt8} (h : g = [61] ∨ g = [60] → NE rest) : signs18.find? (fun x => x.isPrefixOf (g ++ rest)) = some g := by
  simp only [signs18, List.mem_cons, List.not_mem_nil, or_false] at hg
  have ne : (g = [61] ∨ g = [60]) → ([61] : List UInt8).isPrefixOf rest = false := fun hh => by
    have := h hh
    cases rest with
    | nil => rfl
    | cons c r =>
      have hc : c ≠ 61 := this
      simp [List.isPrefixOf, Ne.symm hc]
  rcases hg with rfl | rfl | rfl | rfl | rfl | rfl | rfl | rfl | rfl | rfl | rfl | rfl | rfl | rfl | rfl | rfl | rfl | rfl
  all_goals first
    | (simp [signs18, List.find?, List.isPrefixOf]; done)
    | (have := ne (by decide); simp [signs18, List.find?, List.isPrefixOf, this])
theorem sign_hd : ∀ g ∈ signs18, ∃ c r, g = c :: r ∧ c ≠ 32 ∧ c ≠ 35 ∧ c ≠ 10 ∧ isLet c = false ∧ isDg c = false ∧ c ≠ 34 := by
  intro g hg
  have : ∀ g ∈ signs18, (match g with | [] => false | c :: r => !(c == 32) && !(c == 35) && !(c == 10) && !isLet c && !isDg c && !(c == 34)) = true := by decide
  have := this g hg
  match g, this with
  | c :: r, h =>
    simp only [Bool.and_eq_true, Bool.not_eq_true', beq_eq_false_iff_ne] at h
    exact ⟨c, r, rfl, h.1.1.1.1.1, h.1.1.1.1.2, h.1.1.1.2, h.1.1.2, h.1.2, h.2⟩
theorem lex_sign {g : List UInt8} (hg : g ∈ signs18) {o o' : Nat} (ho : (g ∈ opens ∧ o' = o + 1) ∨ (g ∉ opens ∧ g ∈ closes ∧ o = o' + 1) ∨ (g ∉ opens ∧ g ∉ closes ∧ o' = o)) : Lex (fun r => g = [61] ∨ g = [60] → NE r) g [tG g] o o' := by
  obtain ⟨c, a, rfl, h1, h2, h3, h4, h5, h6⟩ := sign_hd g hg
  refine Lex.tok h1 h2 h3 fun s i rest hs hr hi hgd r hone => ?_
  have hsg : signAt s i = some (c :: a) := by unfold signAt; rw [hs]; exact sign_find hg hr
  unfold oneS at hone
  rw [hgd, if_neg (by rw [h4]; decide), if_neg (by rw [h5]; decide), if_neg h6, hsg] at hone
  simp only at hone
  rcases ho with ⟨q1, rfl⟩ | ⟨q1, q2, rfl⟩ | ⟨q1, q2, rfl⟩
  · rw [if_pos q1] at hone
    split at hone
    · cases hone
    · cases hone; exact ⟨_, rfl, rfl⟩
  · rw [if_neg q1, if_pos q2, if_neg (by omega)] at hone
    cases hone; exact ⟨_, rfl, rfl⟩
  · rw [if_neg q1, if_neg q2] at hone
    cases hone; exact ⟨_, rfl, rfl⟩
theorem lexG (g : List UInt8) (hg : g ∈ signs18 ∧ g ∉ opens ∧ g ∉ closes ∧ g ≠ [61] ∧ g ≠ [60]) {o : Nat} : Lex Tr g [tG g] o o := (lex_sign hg.1 (.inr (.inr ⟨hg.2.1, hg.2.2.1, rfl⟩))).to (fun _ _ h => by rcases h with h | h; exact absurd h hg.2.2.2.1; exact absurd h hg.2.2.2.2) rfl rfl
theorem lexEq {o : Nat} : Lex NE [61] [tG [61]] o o := (lex_sign (by decide) (.inr (.inr ⟨by decide, by decide, rfl⟩))).to (fun _ h _ => h) rfl rfl
theorem lexO (g : List UInt8) (hg : g ∈ signs18 ∧ g ∈ opens ∧ g ≠ [61] ∧ g ≠ [60]) {o : Nat} : Lex Tr g [tG g] o (o + 1) := (lex_sign hg.1 (.inl ⟨hg.2.1, rfl⟩)).to (fun _ _ h => by rcases h with h | h; exact absurd h hg.2.2.1; exact absurd h hg.2.2.2) rfl rfl
theorem lexC (g : List UInt8) (hg : g ∈ signs18 ∧ g ∉ opens ∧ g ∈ closes ∧ g ≠ [61] ∧ g ≠ [60]) {o : Nat} : Lex Tr g [tG g] (o + 1) o := (lex_sign hg.1 (.inr (.inl ⟨hg.2.1, hg.2.2.1, rfl⟩))).to (fun _ _ h => by rcases h with h | h; exact absurd h hg.2.2.2.1; exact absurd h hg.2.2.2.2) rfl rfl
theorem NB.ne {r : List UInt8} (h : NB r) : NE r := by
  cases r with
  | nil => exact h.elim
  | cons c r => have h : c = 32 := h; subst h; show (32 : UInt8) ≠ 61; decide
theorem NB.nl {r : List UInt8} (h : NB r) : NL r := by
  cases r with
  | nil => exact h.elim
  | cons c r => have h : c = 32 := h; subst h; exact rfl
theorem lexOp {t : List UInt8} (ht : t ∈ ops13) {o : Nat} : Lex NB t [tO t] o o := by
  have key : ∀ t ∈ ops13, (t ∈ words14 ∧ tO t = tW t) ∨ ((t ∈ signs18 ∧ t ∉ opens ∧ t ∉ closes) ∧ tO t = tG t) := by decide
  rcases key t ht with ⟨h, e⟩ | ⟨h, e⟩
  · rw [e]; exact (lex_kw h).to (fun _ h => h.nl) rfl rfl
  · rw [e]; exact (lex_sign h.1 (.inr (.inr ⟨h.2.1, h.2.2, rfl⟩))).to (fun _ h _ => h.ne) rfl rfl
theorem digs_all (n : Nat) : ∀ m, m = n → (∀ c ∈ digs m, isDg c = true) ∧ natOf (digs m) = m ∧ digs m ≠ [] ∧ ((digs m).headD 0 = 48 → (digs m).length = 1) ∧ (m ≠ 0 → (digs m).headD 0 ≠ 48) := by
  induction n using Nat.strongRecOn with
  | _ n ih =>
    intro m hm
    rw [digs]
    have dg : ∀ k, k < 10 → isDg (UInt8.ofNat (48 + k)) = true ∧ (UInt8.ofNat (48 + k)).toNat - 48 = k ∧ (k ≠ 0 → UInt8.ofNat (48 + k) ≠ 48) := by decide
    by_cases h : m < 10
    · rw [dif_pos h]
      obtain ⟨d1, d2, d3⟩ := dg m h
      refine ⟨fun c hc => by rw [List.mem_singleton.1 hc]; exact d1, by simpa [natOf] using d2, by simp, fun _ => rfl, fun h0 => d3 h0⟩
    · rw [dif_neg h]
      obtain ⟨i1, i2, i3, i4, i5⟩ := ih (m / 10) (by omega) (m / 10) rfl
      obtain ⟨d1, d2, d3⟩ := dg (m % 10) (by omega)
      have hne : (digs (m / 10)).headD 0 ≠ 48 := i5 (by omega)
      have hh : (digs (m / 10) ++ [UInt8.ofNat (48 + m % 10)]).headD 0 = (digs (m / 10)).headD 0 := by
        cases hd : digs (m / 10) with
        | nil => exact absurd hd i3
        | cons a l => rfl
      refine ⟨fun c hc => ?_, ?_, by simp, fun h0 => absurd (hh.symm.trans h0) hne, fun _ h0 => hne (hh.symm.trans h0)⟩
      · rcases List.mem_append.1 hc with hc | hc
        · exact i1 c hc
        · rw [List.mem_singleton.1 hc]; exact d1
      · have : natOf (digs (m / 10) ++ [UInt8.ofNat (48 + m % 10)]) = 10 * natOf (digs (m / 10)) + ((UInt8.ofNat (48 + m % 10)).toNat - 48) := by simp [natOf, List.foldl_append]
        rw [this, i2, d2]; omega
theorem lex_num {n : Nat} (hn : n ≤ 9007199254740991) {o : Nat} : Lex NL (Lib.itoa n) [tI n] o o := by
  unfold tI
  rw [itoa_digs]
  obtain ⟨h1, h2, h3, h4, _⟩ := digs_all n n rfl
  cases hd : digs n with
  | nil => exact absurd hd h3
  | cons c a =>
    rw [hd] at h1 h2 h4
    have hc := h1 c (List.mem_cons_self ..)
    obtain ⟨k1, k2, k3, k4⟩ := dg_no hc
    refine Lex.tok k1 k2 k3 fun s i rest hs hr hi hgd r ho => ?_
    obtain ⟨e1, e2⟩ := stop_w (p := isDg) hs h1 (fun d q hq => by have := hr.of d q hq; simp only [Bool.or_eq_false_iff] at this; exact this.2)
    unfold oneS at ho
    rw [hgd, if_neg (by rw [k4]; decide), if_pos hc, e1, e2, h2, if_neg] at ho
    · cases ho; exact ⟨_, rfl, rfl⟩
    · rintro (hh | ⟨hh, hl⟩)
      · omega
      · have := h4 hh
        omega
end Go.Proofs.YtmdegomejbpldaaGreatDoor
end
section
set_option linter.unusedVariables false
set_option linter.unusedSimpArgs false
set_option maxRecDepth 20000
namespace Go.Proofs.YtmdegomejbpldaaGreatDoor
open Go Go.Ab
def hdOk (c : UInt8) : Bool := isLet c || isDg c || [34, 40, 91, 123, 45].contains c
theorem hdOk_no {c : UInt8} (h : hdOk c = true) : c ≠ 61 ∧ c ≠ 32 ∧ c ≠ 35 ∧ c ≠ 10 := by
  refine ⟨?_, ?_, ?_, ?_⟩ <;> (rintro rfl; revert h; decide)
structure LexP (a : List UInt8) (ts : List Tok) : Prop where
  l : ∀ o, Lex NL a ts o o
  h : ∃ c r, a = c :: r ∧ hdOk c = true
theorem LexP.ne {a : List UInt8} {ts : List Tok} (h : LexP a ts) (r : List UInt8) : NE (a ++ r) := by
  obtain ⟨c, q, rfl, hc⟩ := h.h
  exact (hdOk_no hc).1
inductive LexL : List (List UInt8) → List (List Tok) → Prop
  | nil : LexL [] []
  | cons {a : List UInt8} {ts : List Tok} {az : List (List UInt8)} {tss : List (List Tok)} (h : LexP a ts) (r : LexL az tss) : LexL (a :: az) (ts :: tss)
def itemX (l : List (List UInt8)) : List UInt8 := l.flatMap fun p => [44, 32] ++ p
def listX : List (List UInt8) → List UInt8
  | [] => []
  | p :: r => p ++ itemX r
theorem itemX_nl (l : List (List UInt8)) {r : List UInt8} (h : NL r) : NL (itemX l ++ r) := by
  cases l with
  | nil => exact h
  | cons a l => exact rfl
theorem lex_item {az : List (List UInt8)} {tss : List (List Tok)} (h : LexL az tss) (o : Nat) : Lex NL (itemX az) (itemT tss) o o := by
  induction h with
  | nil => exact Lex.nil.to (fun _ _ => trivial) rfl rfl
  | @cons a ts az tss h r ih =>
    refine (((lexG [44] (by decide)).app lex_blank (fun _ _ => trivial)).app ((h.l o).app ih (fun r hr => itemX_nl _ hr)) (fun _ _ => trivial)).to (fun _ h => h) ?_ rfl
    unfold itemX
    rw [List.flatMap_cons, List.append_assoc]; rfl
theorem lex_list {az : List (List UInt8)} {tss : List (List Tok)} (h : LexL az tss) (o : Nat) : Lex NL (listX az) (listT tss) o o := by
  cases h with
  | nil => exact Lex.nil.to (fun _ _ => trivial) rfl rfl
  | cons h r => exact (h.l o).app (lex_item r o) (fun r hr => itemX_nl _ hr)
def dictX : Bool → List (List UInt8) → List UInt8
  | f, a :: b :: r => (if f then [] else [44, 32]) ++ (a ++ ([58, 32] ++ (b ++ dictX false r)))
  | _, _ => []
theorem lex_dict : ∀ (m : Nat) (az : List (List UInt8)) (tss : List (List Tok)), az.length = 2 * m → LexL az tss → ∀ f o, Lex NL (dictX f az) (dictT f tss) o o
  | 0, [], _, _, .nil, f, o => by cases f <;> exact Lex.nil.to (fun _ _ => trivial) rfl rfl
  | m + 1, a :: b :: az, _, hl, .cons (ts := ts) h1 (.cons (ts := us) (tss := tss) h2 hr), f, o => by
    have ih := lex_dict m az tss (by simp only [List.length_cons] at hl; omega) hr false o
    have hb : ∀ r, NL r → NL (dictX false az ++ r) := fun r h => by
      match az, hl with
      | [], _ => exact h
      | [x], hl => simp at hl; omega
      | x :: y :: q, _ => exact rfl
    have h0 : Lex Tr (if f then [] else [44, 32]) (if f then [] else [tG [44]]) o o := by
      cases f with
      | true => exact Lex.nil
      | false => exact ((lexG [44] (by decide)).app lex_blank (fun _ _ => trivial)).to (fun _ h => h) rfl rfl
    have h3 : Lex Tr [58, 32] [tG [58]] o o := ((lexG [58] (by decide)).app lex_blank (fun _ _ => trivial)).to (fun _ h => h) rfl rfl
    exact h0.app ((h1.l o).app (h3.app ((h2.l o).app ih hb) (fun _ _ => trivial)) (fun _ _ => rfl)) (fun _ _ => trivial)
  | 0, _ :: _, _, hl, _, _, _ => by simp at hl
  | m + 1, [], _, hl, _, _, _ => by simp at hl
  | m + 1, [x], _, hl, _, _, _ => by simp at hl; omega
def argX : List (List UInt8) → Nms → List (List UInt8)
  | [], _ => []
  | p :: r, ns => if ns.length = r.length + 1 then (ns.headD [] ++ ([61] ++ p)) :: argX r ns.tail else p :: argX r ns
theorem LexL.len {az : List (List UInt8)} {tss : List (List Tok)} (h : LexL az tss) : az.length = tss.length := by
  induction h with
  | nil => rfl
  | cons h r ih => simp [ih]
theorem nm_hd {n : List UInt8} (h : isNm n = true) : ∃ c r, n = c :: r ∧ hdOk c = true := by
  match n, h with
  | c :: r, h =>
    unfold isNm at h
    simp only [Bool.and_eq_true] at h
    exact ⟨c, r, rfl, by unfold hdOk; rw [h.1.1]; rfl⟩
theorem lex_arg {az : List (List UInt8)} {tss : List (List Tok)} (h : LexL az tss) : ∀ ns : Nms, (∀ s ∈ ns, isNm s = true) → LexL (argX az ns) (argT tss ns) := by
  induction h with
  | nil => exact fun ns _ => .nil
  | @cons a ts az tss h r ih =>
    intro ns hns
    rw [argX, argT, r.len]
    by_cases hc : ns.length = tss.length + 1
    · rw [if_pos hc, if_pos hc]
      match ns, hc, hns with
      | n :: ns, hc, hns =>
        have hn := hns n (List.mem_cons_self ..)
        refine .cons ⟨fun o => ((lex_name hn).app (lexEq.app (h.l o) (fun r _ => h.ne r)) (fun _ _ => rfl)).to (fun _ h => h) rfl rfl, ?_⟩ (ih ns fun s hs => hns s (List.mem_cons_of_mem _ hs))
        obtain ⟨c, q, e, hq⟩ := nm_hd hn
        exact ⟨c, q ++ ([61] ++ a), by show n ++ _ = _; rw [e]; rfl, hq⟩
    · rw [if_neg hc, if_neg hc]
      exact .cons h (ih ns hns)
theorem mapIdx_c {α β : Type} (f : Nat → α → β) (g : α → β) (h : ∀ i x, f i x = g x) (l : List α) : l.mapIdx f = l.map g := by
  apply List.ext_getElem
  · simp
  · intro i h1 h2
    simp [h]
theorem each_flat (l : List Pcs) : (eachA [44, 32] l).flatten = listX (l.map List.flatten) := by
  unfold eachA
  cases l with
  | nil => rfl
  | cons p r =>
    rw [List.mapIdx_cons, mapIdx_c (fun i p => (if 0 < i + 1 then [([44, 32] : List UInt8)] else []) ++ p) (fun p => [[44, 32]] ++ p) (fun i x => by rw [if_pos (by omega)])]
    show (([] ++ p) ++ (r.map fun p => [[44, 32]] ++ p).flatten).flatten = p.flatten ++ itemX (r.map List.flatten)
    rw [List.nil_append, List.flatten_append]
    congr 1
    unfold itemX
    induction r with
    | nil => rfl
    | cons q r ih =>
      rw [List.map_cons, List.flatten_cons, List.flatten_append, ih, List.map_cons, List.flatMap_cons]
      rfl
theorem dict_flat : ∀ (m : Nat) (w : List (Bool × Pcs)) (k : Nat), w.length = 2 * m → k % 2 = 0 → (w.mapIdx fun i p => ((if 0 < i + k then [sepD (i + k)] else []) ++ p.2).flatten).flatten = dictX (k == 0) (w.map fun p => p.2.flatten)
  | 0, [], k, _, _ => by cases hk : (k == 0) <;> rfl
  | m + 1, p :: q :: w, k, hl, hk => by
    have ih := dict_flat m w (k + 2) (by simp only [List.length_cons] at hl; omega) (by omega)
    rw [List.mapIdx_cons, List.mapIdx_cons]
    have e : (fun (i : Nat) (p : Bool × Pcs) => ((if 0 < i + 1 + 1 + k then [sepD (i + 1 + 1 + k)] else []) ++ p.2).flatten) = fun i p => ((if 0 < i + (k + 2) then [sepD (i + (k + 2))] else []) ++ p.2).flatten := by
      funext i p
      rw [show i + 1 + 1 + k = i + (k + 2) by omega]
    rw [e, List.flatten_cons, List.flatten_cons, ih]
    have s0 : ((if 0 < 0 + k then [sepD (0 + k)] else []) ++ p.2).flatten = (if (k == 0) then [] else [44, 32]) ++ p.2.flatten := by
      rw [List.flatten_append]
      congr 1
      by_cases h0 : k = 0
      · subst h0; rfl
      · rw [if_pos (by omega), if_neg (by simpa using h0)]
        unfold sepD
        rw [if_pos (by omega)]; rfl
    have s1 : ((if 0 < 0 + 1 + k then [sepD (0 + 1 + k)] else []) ++ q.2).flatten = [58, 32] ++ q.2.flatten := by
      rw [List.flatten_append, if_pos (by omega)]
      congr 1
      unfold sepD
      rw [if_neg (by omega)]; rfl
    rw [s0, s1]
    show _ = (if (k == 0) then [] else [44, 32]) ++ (p.2.flatten ++ ([58, 32] ++ (q.2.flatten ++ dictX false (w.map fun p => p.2.flatten))))
    rw [show (k + 2 == 0) = false from rfl]
    simp only [List.append_assoc]
  | 0, _ :: _, k, hl, _ => by simp at hl
  | m + 1, [], k, hl, _ => by simp at hl
  | m + 1, [x], k, hl, _ => by simp at hl; omega
theorem flat_flat {α : Type} (l : List (List (List α))) : l.flatten.flatten = (l.map List.flatten).flatten := by
  induction l with
  | nil => rfl
  | cons a l ih => rw [List.flatten_cons, List.flatten_append, ih]; rfl
theorem dictA_flat (w : List (Bool × Pcs)) (h : w.length % 2 = 0) : (eachA [] (dictA w)).flatten = dictX true (w.map fun p => p.2.flatten) := by
  have := dict_flat (w.length / 2) w 0 (by omega) rfl
  rw [show (0 == 0) = true from rfl] at this
  rw [← this]
  unfold eachA dictA
  rw [flat_flat, List.mapIdx_mapIdx]
  congr 1
  apply List.ext_getElem
  · simp
  · intro i h1 h2
    simp only [List.getElem_map, List.getElem_mapIdx]
    by_cases h0 : 0 < i
    · simp [h0]
    · simp [h0]
theorem call_flat (ns : Nms) (m : Nat) (hm : ns.length ≤ m) : ∀ (w : List (Bool × Pcs)) (k : Nat), k + w.length = m → (w.mapIdx fun i p => ((if m - ns.length ≤ i + k then [ns.getD (i + k - (m - ns.length)) [], [61]] else []) ++ p.2).flatten) = argX (w.map fun p => p.2.flatten) (ns.drop (k - (m - ns.length)))
  | [], k, _ => rfl
  | p :: w, k, hk => by
    simp only [List.length_cons] at hk
    have ih := call_flat ns m hm w (k + 1) (by omega)
    rw [List.mapIdx_cons]
    have e : (fun (i : Nat) (p : Bool × Pcs) => ((if m - ns.length ≤ i + 1 + k then [ns.getD (i + 1 + k - (m - ns.length)) [], [61]] else []) ++ p.2).flatten) = fun i p => ((if m - ns.length ≤ i + (k + 1) then [ns.getD (i + (k + 1) - (m - ns.length)) [], [61]] else []) ++ p.2).flatten := by
      funext i p
      rw [show i + 1 + k = i + (k + 1) by omega]
    rw [e, ih, List.map_cons, argX, List.length_drop, List.length_map]
    by_cases hc : m - ns.length ≤ k
    · rw [if_pos (by omega), if_pos (by omega)]
      rw [List.tail_drop, show k - (m - ns.length) + 1 = k + 1 - (m - ns.length) by omega]
      congr 1
      rw [Nat.zero_add]
      have : (ns.drop (k - (m - ns.length))).headD [] = ns.getD (k - (m - ns.length)) [] := by simp [List.getD, List.headD_eq_head?_getD]
      rw [this]
      simp
    · rw [if_neg (by omega), if_neg (by omega)]
      rw [show k - (m - ns.length) = 0 by omega, show k + 1 - (m - ns.length) = 0 by omega]
      rfl
theorem callPs_flat (ns : Nms) (w : List (Bool × Pcs)) (h : ns.length ≤ w.length) : (callPs ns w).map List.flatten = argX (w.map fun p => p.2.flatten) ns := by
  have := call_flat ns w.length h w 0 (by omega)
  rw [Nat.zero_sub, List.drop_zero] at this
  rw [← this]
  unfold callPs
  apply List.ext_getElem
  · simp
  · intro i h1 h2
    simp
def xt (x : Ex) : List UInt8 := (exW x).flatten
def it (x : Ex) : List UInt8 := (inP x).flatten
theorem exWs_sndK (ks : List Ex) : (exWs ks).map (fun p => p.2.flatten) = ks.map xt := by rw [exWs_map, List.map_map]; rfl
theorem in_lex {x : Ex} (h : LexP (xt x) (exTK x)) : LexP (it x) (inT x) := by
  unfold it inP brk inT brkT
  cases apart x with
  | true =>
    refine ⟨fun o => ((lexO [40] (by decide)).app ((h.l (o + 1)).app (lexC [41] (by decide)) (fun _ _ => rfl)) (fun _ _ => trivial)).to (fun _ _ => trivial) ?_ ?_, ⟨40, xt x ++ [41], ?_, rfl⟩⟩
    · show ([[40]] ++ exW x ++ [[41]]).flatten = _
      simp [xt]
    · show tG [40] :: (exTK x ++ [tG [41]]) = _
      rfl
    · show ([[40]] ++ exW x ++ [[41]]).flatten = _
      simp [xt]
  | false => exact h
theorem lexL_of : ∀ ks : List Ex, (∀ x ∈ ks, LexP (xt x) (exTK x)) → LexL (ks.map xt) (ks.map exTK)
  | [], _ => .nil
  | x :: ks, h => .cons (h x (List.mem_cons_self ..)) (lexL_of ks fun y hy => h y (List.mem_cons_of_mem _ hy))
theorem kw_hd : ∀ w ∈ words14, ∃ c r, w = c :: r ∧ hdOk c = true := by
  intro w hw
  have : ∀ w ∈ words14, (match w with | [] => false | c :: r => hdOk c) = true := by decide
  have := this w hw
  match w, this with
  | c :: r, h => exact ⟨c, r, rfl, h⟩
theorem LexP.hd2 {a : List UInt8} {ts : List Tok} (h : LexP a ts) (b : List UInt8) : ∃ c r, a ++ b = c :: r ∧ hdOk c = true := by
  obtain ⟨c, r, rfl, hc⟩ := h.h
  exact ⟨c, r ++ b, rfl, hc⟩
theorem ex_lex {M : Nat} {x : Ex} (h : Wx M x) : LexP (xt x) (exTK x) := by
  induction h with
  | @mk k n t ks ns h1 h2 h3 h4 ih =>
    have kw : ∀ w ∈ words14, LexP w [tW w] := fun w hw => ⟨fun o => lex_kw hw, kw_hd w hw⟩
    have one : ∀ {w : List UInt8} {ts : List Tok}, LexP w ts → LexP ([w].flatten) ts := fun h => by rw [List.flatten_singleton]; exact h
    match k, h4 with
    | 1, h4 => exact one (kw wNone (by decide))
    | 2, h4 => exact one (kw wTrue (by decide))
    | 3, h4 => exact one (kw wFalse (by decide))
    | 4, h4 =>
      refine one ⟨fun o => lex_num h4.1, ?_⟩
      rw [itoa_digs]
      obtain ⟨d1, d2, d3, _⟩ := digs_all n n rfl
      cases hd : digs n with
      | nil => exact absurd hd d3
      | cons c r => rw [hd] at d1; exact ⟨c, r, rfl, by unfold hdOk; rw [d1 c (List.mem_cons_self ..)]; simp⟩
    | 5, h4 => exact one ⟨fun o => (lex_text h4.2.1).to (fun _ _ => trivial) rfl rfl, ⟨34, t.flatMap quoC ++ [34], by unfold quoT; rw [List.append_assoc]; rfl, rfl⟩⟩
    | 6, h4 => exact one ⟨fun o => lex_name h4.2.1, nm_hd h4.2.1⟩
    | 7, h4 =>
      have e : xt (.mk 7 n t ks ns) = [91] ++ (listX (ks.map xt) ++ [93]) := by
        show (([[91]] : Pcs) ++ eachA [44, 32] ((exWs ks).map fun (x : Bool × Pcs) => x.2) ++ [[93]]).flatten = _
        rw [List.flatten_append, List.flatten_append, each_flat, List.map_map, show (List.flatten ∘ fun (x : Bool × Pcs) => x.2) = fun p => p.2.flatten from rfl, exWs_sndK, List.append_assoc]
        rfl
      refine ⟨fun o => ((lexO [91] (by decide)).app ((lex_list (lexL_of ks ih) (o + 1)).app (lexC [93] (by decide)) (fun _ _ => rfl)) (fun _ _ => trivial)).to (fun _ _ => trivial) e ?_, ⟨91, _, e, rfl⟩⟩
      show tG [91] :: (listT ((exTs ks).map (·.2)) ++ [tG [93]]) = _
      rw [exTs_snd]; rfl
    | 8, h4 =>
      have e : xt (.mk 8 n t ks ns) = [123] ++ (dictX true (ks.map xt) ++ [125]) := by
        show (([[123]] : Pcs) ++ eachA [] (dictA (exWs ks)) ++ [[125]]).flatten = _
        rw [List.flatten_append, List.flatten_append, dictA_flat _ (by rw [exWs_map, List.length_map]; exact h4.2.2.1), exWs_sndK, List.append_assoc]
        rfl
      refine ⟨fun o => ((lexO [123] (by decide)).app ((lex_dict (ks.length / 2) _ _ (by rw [List.length_map]; have := h4.2.2.1; omega) (lexL_of ks ih) true (o + 1)).app (lexC [125] (by decide)) (fun _ _ => rfl)) (fun _ _ => trivial)).to (fun _ _ => trivial) e ?_, ⟨123, _, e, rfl⟩⟩
      show tG [123] :: (dictT true ((exTs ks).map (·.2)) ++ [tG [125]]) = _
      rw [exTs_snd]; rfl
    | 9, h4 =>
      obtain ⟨_, ht, hl, _⟩ := h4
      have sFor : ∀ o, Lex Tr [32, 102, 111, 114, 32] [tW wFor] o o := fun o => ((lex_blank.app (lex_kw (w := wFor) (by decide)) (fun _ _ => trivial)).app lex_blank (fun _ _ => rfl)).to (fun _ h => h) rfl rfl
      have sIn : ∀ o, Lex Tr [32, 105, 110, 32] [tW wIn] o o := fun o => ((lex_blank.app (lex_kw (w := wIn) (by decide)) (fun _ _ => trivial)).app lex_blank (fun _ _ => rfl)).to (fun _ h => h) rfl rfl
      have sIf : ∀ o, Lex Tr [32, 105, 102, 32] [tW wIf] o o := fun o => ((lex_blank.app (lex_kw (w := wIf) (by decide)) (fun _ _ => trivial)).app lex_blank (fun _ _ => rfl)).to (fun _ h => h) rfl rfl
      rcases hl with hl | hl
      · obtain ⟨x1, x2, rfl⟩ := len2K hl
        have l1 := ih x1 (by simp)
        have l2 := ih x2 (by simp)
        have e : xt (.mk 9 n t [x1, x2] ns) = [91] ++ (xt x1 ++ ([32, 102, 111, 114, 32] ++ (t ++ ([32, 105, 110, 32] ++ (xt x2 ++ [93]))))) := by
          show ([[91]] ++ exW x1 ++ [[32, 102, 111, 114, 32], t, [32, 105, 110, 32]] ++ exW x2 ++ [] ++ [[93]]).flatten = _
          simp [xt]
        exact ⟨fun o => ((lexO [91] (by decide)).app ((l1.l (o + 1)).app ((sFor _).app ((lex_name ht).app ((sIn _).app ((l2.l (o + 1)).app (lexC [93] (by decide)) (fun _ _ => rfl)) (fun _ _ => trivial)) (fun _ _ => rfl)) (fun _ _ => trivial)) (fun _ _ => rfl)) (fun _ _ => trivial)).to (fun _ _ => trivial) e rfl, ⟨91, _, e, rfl⟩⟩
      · obtain ⟨x1, x2, x3, rfl⟩ := len3K hl
        have l1 := ih x1 (by simp)
        have l2 := ih x2 (by simp)
        have l3 := ih x3 (by simp)
        have e : xt (.mk 9 n t [x1, x2, x3] ns) = [91] ++ (xt x1 ++ ([32, 102, 111, 114, 32] ++ (t ++ ([32, 105, 110, 32] ++ (xt x2 ++ ([32, 105, 102, 32] ++ (xt x3 ++ [93]))))))) := by
          show ([[91]] ++ exW x1 ++ [[32, 102, 111, 114, 32], t, [32, 105, 110, 32]] ++ exW x2 ++ ([[32, 105, 102, 32]] ++ exW x3) ++ [[93]]).flatten = _
          simp [xt]
        refine ⟨fun o => ((lexO [91] (by decide)).app ((l1.l (o + 1)).app ((sFor _).app ((lex_name ht).app ((sIn _).app ((l2.l (o + 1)).app ((sIf _).app ((l3.l (o + 1)).app (lexC [93] (by decide)) (fun _ _ => rfl)) (fun _ _ => trivial)) (fun _ _ => rfl)) (fun _ _ => trivial)) (fun _ _ => rfl)) (fun _ _ => trivial)) (fun _ _ => rfl)) (fun _ _ => trivial)).to (fun _ _ => trivial) e ?_, ⟨91, _, e, rfl⟩⟩
        show tG [91] :: (exTK x1 ++ tW wFor :: tN t :: tW wIn :: (exTK x2 ++ (tW wIf :: exTK x3 ++ [tG [93]]))) = _
        simp
    | 10, h4 =>
      obtain ⟨_, _, hl, hns, _⟩ := h4
      match ks, hl, ih with
      | x :: ks, hl, ih =>
        have lx := in_lex (ih x (List.mem_cons_self ..))
        have e : xt (.mk 10 n t (x :: ks) ns) = it x ++ ([40] ++ (listX (argX (ks.map xt) ns) ++ [41])) := by
          show (inP x ++ [[40]] ++ eachA [44, 32] (callPs ns (exWs ks)) ++ [[41]]).flatten = _
          rw [List.flatten_append, List.flatten_append, List.flatten_append, each_flat, callPs_flat _ _ (by rw [exWs_map, List.length_map]; simp only [List.length_cons] at hl; omega), exWs_sndK]
          simp [it]
        have la := lex_arg (lexL_of ks fun y hy => ih y (List.mem_cons_of_mem _ hy)) ns hns
        refine ⟨fun o => ((lx.l o).app ((lexO [40] (by decide)).app ((lex_list la (o + 1)).app (lexC [41] (by decide)) (fun _ _ => rfl)) (fun _ _ => trivial)) (fun _ _ => rfl)).to (fun _ _ => trivial) e ?_, by rw [e]; exact lx.hd2 _⟩
        show inT x ++ tG [40] :: (listT (argT ((exTs ks).map (·.2)) ns) ++ [tG [41]]) = _
        rw [exTs_snd]; rfl
      | [], hl, _ => simp at hl
    | 11, h4 =>
      obtain ⟨x1, x2, rfl⟩ := len2K h4.2.2.1
      have lx := in_lex (ih x1 (by simp))
      have l2 := ih x2 (by simp)
      have e : xt (.mk 11 n t [x1, x2] ns) = it x1 ++ ([91] ++ (xt x2 ++ [93])) := by
        show (inP x1 ++ [[91]] ++ exW x2 ++ [[93]]).flatten = _
        simp [it, xt]
      exact ⟨fun o => ((lx.l o).app ((lexO [91] (by decide)).app ((l2.l (o + 1)).app (lexC [93] (by decide)) (fun _ _ => rfl)) (fun _ _ => trivial)) (fun _ _ => rfl)).to (fun _ _ => trivial) e rfl, by rw [e]; exact lx.hd2 _⟩
    | 12, h4 =>
      obtain ⟨x1, rfl⟩ := len1 h4.2.2.1
      have lx := in_lex (ih x1 (by simp))
      have e : xt (.mk 12 n t [x1] ns) = wNot ++ ([32] ++ it x1) := by
        show ([[110, 111, 116, 32]] ++ inP x1).flatten = _
        simp [it, wNot]
      exact ⟨fun o => ((lex_kw (w := wNot) (by decide)).app (lex_blank.app (lx.l o) (fun _ _ => trivial)) (fun _ _ => rfl)).to (fun _ h => h) e rfl, ⟨110, _, e, rfl⟩⟩
    | 13, h4 =>
      obtain ⟨x1, rfl⟩ := len1 h4.2.2.1
      have lx := in_lex (ih x1 (by simp))
      have e : xt (.mk 13 n t [x1] ns) = [45] ++ it x1 := by
        show ([[45]] ++ inP x1).flatten = _
        simp [it]
      exact ⟨fun o => ((lexG [45] (by decide)).app (lx.l o) (fun _ _ => trivial)).to (fun _ h => h) e rfl, ⟨45, _, e, rfl⟩⟩
    | 14, h4 =>
      obtain ⟨x1, x2, rfl⟩ := len2K h4.2.2.1
      have l1 := in_lex (ih x1 (by simp))
      have l2 := in_lex (ih x2 (by simp))
      have e : xt (.mk 14 n t [x1, x2] ns) = it x1 ++ ([32] ++ (t ++ ([32] ++ it x2))) := by
        show (inP x1 ++ [[32], t, [32]] ++ inP x2).flatten = _
        simp [it]
      exact ⟨fun o => ((l1.l o).app (lex_blank.app ((lexOp h4.2.1).app (lex_blank.app (l2.l o) (fun _ _ => trivial)) (fun _ _ => rfl)) (fun _ _ => trivial)) (fun _ _ => rfl)).to (fun _ h => h) e rfl, by rw [e]; exact l1.hd2 _⟩
    | 0, h4 => exact h4.elim
    | k + 15, h4 => exact h4.elim
end Go.Proofs.YtmdegomejbpldaaGreatDoor
end
section
set_option linter.unusedVariables false
set_option linter.unusedSimpArgs false
set_option maxRecDepth 20000
namespace Go.Proofs.YtmdegomejbpldaaGreatDoor
open Go Go.Ab
section
variable {z z' : List Tok} {Q : Prop} {e : Nat} {α β : Type} {R : α → α → Prop} {R' : β → β → Prop} {m m' : Nat} {r r' : List Tok}
theorem Sm.toF {x x' : Pr α} (h : Sm z z' Q e R m r r' x x') : Sm z z' False e R m r r' x x' :=
  ⟨h.1, fun hL y u hx ⟨a, h1, h2⟩ => h.2 hL y u hx ⟨a, h1, fun h => (h2 h).elim⟩⟩
theorem Sm.bindF {x x' : Pr α} {f f' : α → List Tok → Pr β} (hr : ∀ y, R y y) (h : Sm z z' False e R m r r' x x') (hf : ∀ y y' u u', R y y' → Sm z z' Q e R' (m' + 1) u u' (f y u) (f' y' u')) : Sm z z' Q e R' (m + (m' + 1)) r r' (x.bind f) (x'.bind f') := by
  cases x with
  | out => exact .out
  | bad k u => exact .bad
  | ok y u =>
    refine ⟨fun w v hw => ?_, fun hL w v hw ha => ?_⟩
    · have h1 := h.1 y u rfl
      have h2 := (hf y y u u (hr y)).1 w v hw
      exact ⟨h2.1.trans h1.1, by omega⟩
    · have h2 := (hf y y u u (hr y)).1 w v hw
      obtain ⟨a, hav, haq⟩ := ha
      obtain ⟨b, hb⟩ := h2.1
      have hb0 : b ≠ [] := by
        rintro rfl
        have := congrArg List.length hb
        simp only [List.nil_append] at this
        omega
      rcases h.2 hL y u rfl ⟨b ++ a, by rw [← hb, hav, List.append_assoc], fun h => hb0 (List.append_eq_nil_iff.1 h).1⟩ with ⟨y', u', hx', hR, hL'⟩ | ⟨he, k, hx'⟩
      · subst hx'
        exact (hf y y' u u' hR).2 hL' w v hw ⟨a, hav, haq⟩
      · subst hx'; exact .inr ⟨he, k, rfl⟩
theorem Sm.iteF {b b' : Prop} [Decidable b] [Decidable b'] {x x' y y' : Pr α} (hB : Ben z z' False) (hb : Hd r r' → (b ↔ b')) (h1 : b → Sm z z' False e R m r r' x x') (h2 : ¬ b → Sm z z' False e R m r r' y y') : Sm z z' False e R m r r' (if b then x else y) (if b' then x' else y') := by
  have key : ∀ w v, (if b then x else y) = .ok w v → v <:+ r ∧ v.length + m ≤ r.length := fun w v h => by
    by_cases hc : b
    · rw [if_pos hc] at h; exact (h1 hc).1 w v h
    · rw [if_neg hc] at h; exact (h2 hc).1 w v h
  refine ⟨key, fun hL w v h ha => ?_⟩
  have hk := key w v h
  have hz : z.length < r.length := by
    obtain ⟨a, hav, haq⟩ := ha
    have := congrArg List.length hav
    rw [List.length_append] at this
    have : 0 < a.length := List.length_pos_iff.2 haq
    omega
  have hbb := hb (hL.hd hB hz).1
  by_cases hc : b
  · rw [if_pos hc] at h; rw [if_pos (hbb.1 hc)]; exact (h1 hc).2 hL w v h ha
  · rw [if_neg hc] at h; rw [if_neg (fun h => hc (hbb.2 h))]; exact (h2 hc).2 hL w v h ha
end
section
variable {z z' : List Tok}
theorem paramS_m (hB : Ben z z' False) : ∀ (F F' : Nat) (ns : List (List UInt8)) (r r' : List Tok), F ≤ F' → Sm z z' False 0 Eq 1 r r' (paramS F ns r) (paramS F' ns r')
  | 0, _, _, _, _, _ => .out
  | F + 1, F', ns, r, r', hF => by
    obtain ⟨F', rfl⟩ : ∃ G, F' = G + 1 := ⟨F' - 1, by omega⟩
    rw [paramS, paramS]
    refine .iteF hB (fun h => by rw [h.k, h.t]) (fun _ => .bad) (fun _ => Sm.bind (m := 1) (m' := 0) (fun _ => ⟨rfl, rfl⟩) (takeS_m hB 1) fun t t' u u' ht => ?_)
    rw [ht.1]
    exact .iteF hB (fun h => by rw [h.is]) (fun h => (Sm.tl hB (isS_pos h) (paramS_m hB F F' _ _ _ (by omega))).mono (by omega)) (fun _ => .ok rfl)
theorem namesS_m (hB : Ben z z' False) : ∀ (F F' : Nat) (ns : List (List UInt8)) (r r' : List Tok), F ≤ F' → Sm z z' False 0 Eq 1 r r' (namesS F ns r) (namesS F' ns r')
  | 0, _, _, _, _, _ => .out
  | F + 1, F', ns, r, r', hF => by
    obtain ⟨F', rfl⟩ : ∃ G, F' = G + 1 := ⟨F' - 1, by omega⟩
    rw [namesS, namesS]
    refine .iteF hB (fun h => by rw [h.k, h.t]) (fun _ => .bad) (fun _ => Sm.bind (m := 1) (m' := 0) (fun _ => ⟨rfl, rfl⟩) (takeS_m hB 3) fun t t' u u' ht => ?_)
    rw [ht.1]
    exact .iteF hB (fun h => by rw [h.is]) (fun h => (Sm.tl hB (isS_pos h) (namesS_m hB F F' _ _ _ (by omega))).mono (by omega)) (fun _ => .ok rfl)
theorem smallS_m (hB : Ben z z' False) (F F' b d : Nat) (r r' : List Tok) (hF : F ≤ F') : Sm z z' False 0 Eq 1 r r' (smallS F b d r) (smallS F' b d r') := by
  have hA := allM hB F F' hF 0
  have exp : ∀ (r r' : List Tok) (g : Ex → St), Sm z z' False 0 Eq (1 + 0) r r' ((exprS F 0 r).bind fun x r => .ok (g x) r) ((exprS F' 0 r').bind fun x r => .ok (g x) r) := fun r r' g => .bind (fun _ => rfl) (hA.expr 0 r r' (by omega)) fun y y' u u' hy => by subst hy; exact .ok rfl
  unfold smallS
  refine .iteF hB (fun h => by rw [h.is]) (fun h => .tl hB (isS_pos h) (.ok rfl)) (fun _ => .iteF hB (fun h => by rw [h.is]) (fun h => ?_) (fun _ => .iteF hB (fun h => by rw [h.is]) (fun h => ?_) (fun _ => .iteF hB (fun h => by rw [h.n]) (fun h => ?_) (fun _ => exp r r' _))))
  · by_cases hd : d = 0
    · rw [if_pos hd]; exact .bad
    · rw [if_neg hd, if_neg hd]
      exact .tl hB (isS_pos h) (.iteF hB (fun h => by rw [h.k]) (fun _ => (exp _ _ _).mono (by omega)) (fun _ => .ok rfl))
  · unfold loadS
    by_cases hb : b > 0
    · rw [if_pos hb]; exact .bad
    · rw [if_neg hb, if_neg hb]
      refine Sm.mono (m := (1 + (1 + (1 + (1 + (1 + 0))))) + 1) (.tl hB (isS_pos h) ?_) (by omega)
      exact .bind (fun _ => trivial) (mustS_m hB _) fun _ _ u u' _ => .bind (fun _ => ⟨rfl, rfl⟩) (takeS_m hB 3) fun t t' v v' ht => .bind (fun _ => trivial) (mustS_m hB _) fun _ _ w w' _ => .bind (fun _ => rfl) (namesS_m hB F F' [] w w' hF) fun ns ns' q q' hn => .bind (fun _ => trivial) (mustS_m hB _) fun _ _ o o' _ => by
        subst hn; rw [ht.1]; exact .ok rfl
  · have hp := nameS_pos h
    have e1 := List.length_tail (l := r)
    have e2 := List.length_tail (l := r.tail)
    refine .hdw (x1 := (exprS F' 0 r'.tail.tail).bind fun x r' => .ok (.mk 3 (hdT r) [] x [] []) r') hB ?_ (fun h => by rw [h.t])
    refine Sm.mono (m := (1 + 0) + 1 + 1) ?_ (by omega)
    exact .tl hB (by omega) (.tl hB (by omega) (exp _ _ _))
structure AllN (z z' : List Tok) (F F' : Nat) : Prop where
  stmts : ∀ b d l r r', Sm z z' False 0 Eq 0 r r' (stmtsS F false b d l r) (stmtsS F' false b d l r')
  block : ∀ b d r r', Sm z z' True 0 Eq 1 r r' (blockS F b d r) (blockS F' b d r')
  stmt : ∀ b d r r', Sm z z' True 0 Eq 1 r r' (stmtS F b d r) (stmtS F' b d r')
theorem allN (hB : Ben z z' False) (hE : isS wElse z' = false) (F : Nat) : ∀ F', F ≤ F' → AllN z z' F F' := by
  induction F with
  | zero => intro _ _; exact ⟨fun _ _ _ _ _ => .out, fun _ _ _ _ => .out, fun _ _ _ _ => .out⟩
  | succ F ih =>
    intro F' hF
    obtain ⟨F', rfl⟩ : ∃ G, F' = G + 1 := ⟨F' - 1, by omega⟩
    have ih := ih F' (by omega)
    have hA := allM hB F F' (by omega) 0
    refine ⟨?_, ?_, ?_⟩
    · intro b d l r r'
      rw [stmtsS, stmtsS]
      refine .iteF hB (fun h => by show (hdK r == 8) = true ↔ (hdK r' == 8) = true; rw [h.k]) (fun _ => .ok rfl) (fun _ => ?_)
      exact Sm.mono (m := 1 + 0) (.bind (fun _ => rfl) (ih.stmt b d r r').toF fun y y' u u' hy => by subst hy; exact ih.stmts b d _ u u') (by omega)
    · intro b d r r'
      rw [blockS, blockS]
      refine Sm.mono (m := 1 + (1 + (1 + (0 + (0 + 1))))) ?_ (by omega)
      exact .bind (fun _ => trivial) (mustS_m hB _) fun _ _ u u' _ => .bind (fun _ => ⟨rfl, rfl⟩) (takeS_m hB _) fun _ _ v v' _ => .bind (fun _ => ⟨rfl, rfl⟩) (takeS_m hB _) fun _ _ w w' _ => .bindF (fun _ => rfl) (ih.stmts _ _ [] w w') fun y y' q q' hy =>
        Sm.mono (m := 1 + 0) (.bind (fun _ => ⟨rfl, rfl⟩) (takeS_m hB _) fun _ _ o o' _ => by subst hy; exact .ok rfl) (by omega)
    · intro b d r r'
      rw [stmtS, stmtS]
      refine .ite hB (fun h => by rw [h.is]) (fun h => ?_) (fun _ => .ite hB (fun h => by rw [h.is]) (fun h => ?_) (fun _ => .ite hB (fun h => by rw [h.is]) (fun h => ?_) (fun _ => ?_)))
      · by_cases hb : b > 0
        · rw [if_pos hb]; exact .bad
        · rw [if_neg hb, if_neg hb]
          refine Sm.mono (m := (1 + (1 + (0 + (1 + 1)))) + 1) (.tl hB (isS_pos h) ?_) (by omega)
          refine .bind (fun _ => ⟨rfl, rfl⟩) (takeS_m hB 1) fun t t' u u' ht => .bind (fun _ => trivial) (mustS_m hB _) fun _ _ v v' _ => .bindF (R := Eq) (fun _ => rfl) ?_ fun ns ns' w w' hn => Sm.mono (m := 1 + (1 + 0)) (.bind (fun _ => trivial) (mustS_m hB _) fun _ _ q q' _ => .bind (fun _ => rfl) (ih.block b (d + 1) q q') fun l l' o o' hl => by subst hn; subst hl; rw [ht.1]; exact .ok rfl) (by omega)
          exact .iteF hB (fun h => by rw [h.k]) (fun _ => (paramS_m hB F F' [] v v' (by omega)).mono (by omega)) (fun _ => .ok rfl)
      · refine Sm.mono (m := (1 + (0 + 1)) + 1) (.tl hB (isS_pos h) ?_) (by omega)
        refine .bindF (fun _ => rfl) (hA.expr 0 _ _ (by omega)) fun x x' u u' hx => Sm.mono (m := 1 + 0) (.bind (fun _ => rfl) (ih.block b d u u') fun l l' v v' hl => ?_) (by omega)
        subst hx; subst hl
        refine .ite0 hB (fun h => by rw [h.is]) (fun _ h1 h2 => ?_) (fun h => ?_) (fun _ => .ok rfl)
        · unfold isS at hE ⊢
          rw [h1, h2, hE]; exact Bool.false_ne_true
        · exact Sm.mono (m := (1 + 0) + 1) (.tl hB (isS_pos h) (.bind (fun _ => rfl) (ih.block b d _ _) fun l l' w w' hl => by subst hl; exact .ok rfl)) (by omega)
      · refine Sm.mono (m := (1 + (1 + (1 + (0 + 1)))) + 1) (.tl hB (isS_pos h) ?_) (by omega)
        refine .bind (fun _ => ⟨rfl, rfl⟩) (takeS_m hB 1) fun t t' u u' ht => .bind (fun _ => trivial) (mustS_m hB _) fun _ _ v v' _ => .bindF (fun _ => rfl) (hA.expr 0 _ _ (by omega)) fun x x' w w' hx => Sm.mono (m := 1 + 0) (.bind (fun _ => rfl) (ih.block b d w w') fun l l' q q' hl => ?_) (by omega)
        subst hx; subst hl; rw [ht.1]; exact .ok rfl
      · refine Sm.mono (m := 1 + (0 + 1)) ?_ (by omega)
        exact .bindF (fun _ => rfl) (smallS_m hB F F' b d r r' (by omega)) fun s s' u u' hs => Sm.mono (m := 1 + 0) (.bind (fun _ => ⟨rfl, rfl⟩) (takeS_m hB _) fun _ _ v v' _ => by subst hs; exact .ok rfl) (by omega)
end
end Go.Proofs.YtmdegomejbpldaaGreatDoor
end
section
set_option linter.unusedVariables false
set_option linter.unusedSimpArgs false
set_option maxRecDepth 20000
namespace Go.Proofs.YtmdegomejbpldaaGreatDoor
open Go Go.Ab
structure NoB (r : List Tok) : Prop where
  k1 : hdK r ≠ 1
  k2 : hdK r ≠ 2
  k3 : hdK r ≠ 3
  s : ∀ s ∈ [wNot, [45], wNone, wTrue, wFalse, [40], [91], [123], wPass, wReturn, wLoad, wDef, wIf, wFor], isS s r = false
theorem NoB.atom {r : List Tok} (h : NoB r) (F n : Nat) {y : Ex} {u : List Tok} : atomS F n r ≠ .ok y u := by
  cases F with
  | zero => nofun
  | succ F =>
    rw [atomS_eq, if_neg h.k1, if_neg h.k2, if_neg h.k3, h.s _ (by decide), h.s _ (by decide), h.s _ (by decide), h.s _ (by decide), h.s _ (by decide), h.s _ (by decide)]
    nofun
theorem bind_no {α β : Type} {x : Pr α} {f : α → List Tok → Pr β} (h : ∀ y u, x ≠ .ok y u) (y : β) (u : List Tok) : x.bind f ≠ .ok y u := by
  cases x with
  | out => nofun
  | bad => nofun
  | ok y v => exact absurd rfl (h y v)
theorem NoB.lev {r : List Tok} (h : NoB r) : ∀ (F k n : Nat) (y : Ex) (u : List Tok), levS F k n r ≠ .ok y u
  | 0, _, _, _, _ => nofun
  | F + 1, k, n, y, u => by
    by_cases h2 : k = 2
    · subst h2
      rw [levS_2, h.s _ (by decide), if_neg (by decide)]
      exact bind_no (fun y u => h.lev F 3 n y u) y u
    · by_cases h5 : k = 5
      · subst h5
        rw [levS_5, h.s _ (by decide), if_neg (by decide)]
        exact bind_no (fun y u => h.atom F n) y u
      · rw [levS_d k h2 h5]
        exact bind_no (fun y u => h.lev F (k + 1) n y u) y u
theorem NoB.expr {r : List Tok} (h : NoB r) (F n : Nat) (y : Ex) (u : List Tok) : exprS F n r ≠ .ok y u := by
  cases F with
  | zero => nofun
  | succ F =>
    rw [exprS]
    split
    · nofun
    · exact h.lev F 0 _ y u
theorem NoB.stmt {r : List Tok} (h : NoB r) (F b d : Nat) (y : St) (u : List Tok) : stmtS F b d r ≠ .ok y u := by
  cases F with
  | zero => nofun
  | succ F =>
    rw [stmtS, h.s wDef (by decide), h.s wIf (by decide), h.s wFor (by decide), if_neg (by decide), if_neg (by decide), if_neg (by decide)]
    refine bind_no (fun y u => ?_) y u
    have hn : nameS r = false := by unfold nameS; rw [beq_false_of_ne h.k1]; rfl
    unfold smallS
    rw [h.s wPass (by decide), h.s wReturn (by decide), h.s wLoad (by decide), hn, if_neg (by decide), if_neg (by decide), if_neg (by decide), if_neg (by decide)]
    exact bind_no (fun y u => h.expr F 0 y u) y u
theorem NoB.top {r : List Tok} (h : NoB r) (hr : r ≠ []) (F : Nat) (ls : List St) (y : List St) (u : List Tok) : stmtsS F true 0 0 ls r ≠ .ok y u := by
  cases F with
  | zero => nofun
  | succ F =>
    rw [stmtsS, if_neg (by simpa using hr)]
    exact bind_no (fun y u => h.stmt F 0 0 y u) y u
theorem top_nil : ∀ (F : Nat) (l0 : List St) (r : List Tok) (v : List St) (u : List Tok), stmtsS F true 0 0 l0 r = .ok v u → u = []
  | 0, _, _, _, _, h => by cases h
  | F + 1, l0, r, v, u, h => by
    rw [stmtsS] at h
    have h : (if r.isEmpty = true then .ok l0 r else (stmtS F 0 0 r).bind fun s r => stmtsS F true 0 0 (l0 ++ [s]) r) = Pr.ok v u := h
    by_cases h1 : r.isEmpty = true
    · rw [if_pos h1] at h; cases h; simpa using h1
    · rw [if_neg h1] at h
      cases hy : stmtS F 0 0 r with
      | out => rw [hy] at h; cases h
      | bad k w => rw [hy] at h; cases h
      | ok s w => rw [hy] at h; exact top_nil _ _ _ _ _ h
theorem topM {t : List Tok} (hB : Ben [] t False) (hE : isS wElse t = false) : ∀ (F F' : Nat) (ls : List St) (r r' : List Tok) (x : List St) (u : List Tok), F ≤ F' → stmtsS F true 0 0 ls r = .ok x u → bareL r' = bareL (r ++ t) →
    ∃ k t', k ≤ r.length ∧ k ≤ F ∧ bareL t' = bareL t ∧ stmtsS F' true 0 0 ls r' = stmtsS (F' - k) true 0 0 x t'
  | 0, _, _, _, _, _, _, _, h, _ => by cases h
  | F + 1, F', ls, r, r', x, u, hF, h, hb => by
    obtain ⟨F', rfl⟩ : ∃ G, F' = G + 1 := ⟨F' - 1, by omega⟩
    rw [stmtsS] at h
    have h : (if r.isEmpty = true then .ok ls r else (stmtS F 0 0 r).bind fun s r => stmtsS F true 0 0 (ls ++ [s]) r) = Pr.ok x u := h
    by_cases h1 : r.isEmpty = true
    · rw [if_pos h1] at h
      cases h
      have : r = [] := by simpa using h1
      subst this
      exact ⟨0, r', Nat.zero_le _, Nat.zero_le _, hb, rfl⟩
    · rw [if_neg h1] at h
      cases hy : stmtS F 0 0 r with
      | out => rw [hy] at h; cases h
      | bad k w => rw [hy] at h; cases h
      | ok s w =>
        rw [hy] at h
        have h : stmtsS F true 0 0 (ls ++ [s]) w = .ok x u := h
        have hS := (allN hB hE F F' (by omega)).stmt 0 0 r r'
        have hlen := hS.1 s w hy
        rcases hS.2 ⟨r, by simp, hb⟩ s w hy ⟨w, by simp, fun _ => trivial⟩ with ⟨s', w', hx', hs, hL⟩ | ⟨he, _⟩
        · subst hs
          obtain ⟨a, ha, hwb⟩ := hL
          rw [List.append_nil] at ha
          subst ha
          obtain ⟨k, t', hk1, hk2, ht', hk⟩ := topM hB hE F F' (ls ++ [s]) w w' x u (by omega) h hwb
          refine ⟨k + 1, t', by omega, by omega, ht', ?_⟩
          have hne : r'.isEmpty = false := by
            cases r' with
            | nil =>
              cases r with
              | nil => exact absurd rfl h1
              | cons a r => cases hb
            | cons => rfl
          rw [stmtsS]
          show (if r'.isEmpty = true then .ok ls r' else (stmtS F' 0 0 r').bind fun s r => stmtsS F' true 0 0 (ls ++ [s]) r) = _
          rw [hne, if_neg (by decide), hx']
          show stmtsS F' true 0 0 (ls ++ [s]) w' = _
          rw [hk, show F' + 1 - (k + 1) = F' - k by omega]
        · exact absurd he (Nat.lt_irrefl 0)
theorem ben_nil : Ben [] [] False := ⟨rfl, rfl, False.elim, False.elim, False.elim⟩
theorem parse_okE {s : List UInt8} {A : List Tok} {f : Flt} (hA : splitS s = (A, f)) (h : (parseS s).2.1 = 0) : f.1 = 0 ∧ stmtsS (fuelS A) true 0 0 [] A = .ok (parseS s).1 [] := by
  have hne := ((allU (fuelS A)).stmts true 0 0 [] A (by unfold fuelS; omega)).1
  have hk : ∀ t ∈ A, TokK t := fun t ht => by
    have := splitS_good s t (by rw [hA]; exact ht)
    exact ⟨this.kind.1, this.sign⟩
  have hX := (allA2 s.length (fuelS A)).stmts (4 * fuelS A) true 0 0 [] A (by omega) hk
  unfold parseS at h ⊢
  rw [hA] at h ⊢
  simp only at h ⊢
  by_cases hf : f.1 ≠ 0
  · rw [if_pos hf] at h; exact absurd h hf
  · rw [if_neg hf] at h ⊢
    refine ⟨by omega, ?_⟩
    cases hx : stmtsS (fuelS A) true 0 0 [] A with
    | out => exact absurd hx hne
    | bad k u => rw [hx] at hX h; exact absurd h hX.1
    | ok x u =>
      have := top_nil _ _ _ _ _ hx
      subst this
      rfl
end Go.Proofs.YtmdegomejbpldaaGreatDoor
end
section
set_option linter.unusedVariables false
set_option linter.unusedSimpArgs false
set_option maxRecDepth 20000
namespace Go.Proofs.YtmdegomejbpldaaGreatDoor
open Go Go.Ab
theorem allF_step (f : Nat) (s : List UInt8) (i : Nat) (ins : List Nat) (out : List Tok) : allF (f + 1) s i ins out = if s.length ≤ gapC s i then (match furS 0 (gapC s i) ins with | Sum.inl e => Sum.inl e | Sum.inr (_, l) => Sum.inr (out ++ l)) else if s[gapC s i]? = some 10 then allF f s (gapC s i + 1) ins out else match furS (gapE s i - i) (gapC s i) ins with | Sum.inl e => Sum.inl e | Sum.inr (ins', l) => match lineF (s.length + 1) s (gapC s i) 0 (out ++ l) with | Sum.inl e => Sum.inl e | Sum.inr (k, out') => allF f s k ins' out' := rfl
end Go.Proofs.YtmdegomejbpldaaGreatDoor
end
section
set_option linter.unusedVariables false
set_option linter.unusedSimpArgs false
set_option maxRecDepth 20000
namespace Go.Proofs.YtmdegomejbpldaaGreatDoor
open Go Go.Ab
theorem oneS_ne {s : List UInt8} {i o : Nat} {e : Flt} (h : oneS s i o = .inl e) : e.1 ≠ 0 := by
  unfold oneS at h
  split at h
  · cases h
  · split at h
    · split at h
      · cases h; exact (by decide : (3 : Nat) ≠ 0)
      · cases h
    · split at h
      · split at h
        · cases h; exact (by decide : (1 : Nat) ≠ 0)
        · cases h
      · split at h
        · cases h; exact (by decide : (1 : Nat) ≠ 0)
        · split at h
          · split at h
            · cases h; exact (by decide : (2 : Nat) ≠ 0)
            · cases h
          · split at h
            · split at h
              · cases h; exact (by decide : (1 : Nat) ≠ 0)
              · cases h
            · cases h
theorem furS_ne {n i : Nat} {ins : List Nat} {e : Flt} (h : furS n i ins = .inl e) : e.1 ≠ 0 := by
  unfold furS at h
  split at h
  · split at h
    · cases h; exact (by decide : (2 : Nat) ≠ 0)
    · cases h
  · split at h
    · cases h
    · cases h; exact (by decide : (4 : Nat) ≠ 0)
theorem lineF_ne (s : List UInt8) : ∀ (f i o : Nat) (out : List Tok) (e : Flt), i ≤ s.length → s.length - i < f → lineF f s i o out = .inl e → e.1 ≠ 0
  | 0, _, _, _, _, _, h, _ => by omega
  | f + 1, i, o, out, e, hi, hf, h => by
    rw [lineF] at h
    split at h
    · rename_i hc
      split at h
      · have hg := gapC_le (s := s) (i := i + 1) (by omega)
        exact lineF_ne s f _ o out e hg.2 (by omega) h
      · cases hx : oneS s i o with
        | inl e' =>
          rw [hx] at h
          have := Sum.inl.inj h
          subst this; exact oneS_ne hx
        | inr q =>
          obtain ⟨t, j, o'⟩ := q
          rw [hx] at h
          have hb := oneS_le hc.1 hx
          have hg := gapC_le (s := s) (i := j) (by omega)
          exact lineF_ne s f (gapC s j) o' (out ++ [t]) e hg.2 (by omega) h
    · split at h
      · cases h; exact (by decide : (1 : Nat) ≠ 0)
      · cases h
theorem allF_ne (s : List UInt8) : ∀ (f i : Nat) (ins : List Nat) (out : List Tok) (e : Flt), i ≤ s.length → s.length - i < f → allF f s i ins out = .inl e → e.1 ≠ 0
  | 0, _, _, _, _, _, h, _ => by omega
  | f + 1, i, ins, out, e, hi, hf, h => by
    have hg := gapC_le hi
    rw [allF_step f] at h
    split at h
    · cases hx : furS 0 (gapC s i) ins with
      | inl e' => rw [hx] at h; have := Sum.inl.inj h; subst this; exact furS_ne hx
      | inr q => rw [hx] at h; cases h
    · split at h
      · exact allF_ne s f _ ins out e (by omega) (by omega) h
      · cases hx : furS (gapE s i - i) (gapC s i) ins with
        | inl e' => rw [hx] at h; have := Sum.inl.inj h; subst this; exact furS_ne hx
        | inr q =>
          obtain ⟨ins', l⟩ := q
          rw [hx] at h
          simp only at h
          cases hy : lineF (s.length + 1) s (gapC s i) 0 (out ++ l) with
          | inl e' => rw [hy] at h; have := Sum.inl.inj h; subst this; exact lineF_ne s _ _ _ _ _ hg.2 (by omega) hy
          | inr q =>
            obtain ⟨k, out2⟩ := q
            rw [hy] at h
            have hb := lineF_le _ hg.2 hy
            have hb4 := hb.2.2.2 (by omega)
            exact allF_ne s f k ins' out2 e hb.2.1 (by omega) h
theorem splitS_all0 {s : List UInt8} {A : List Tok} {f : Flt} (h : splitS s = (A, f)) (hf : f.1 = 0) : s.length ≤ 6000 ∧ f = (0, 0) ∧ allF (s.length + 1) s 0 [0] [] = .inr A := by
  unfold splitS at h
  split at h
  · cases h; cases hf
  · rename_i h6
    cases hx : allF (s.length + 1) s 0 [0] [] with
    | inl e =>
      rw [hx] at h
      cases h
      exact absurd hf (allF_ne s _ _ _ _ _ (Nat.zero_le _) (by omega) hx)
    | inr l =>
      rw [hx] at h
      cases h
      exact ⟨by omega, rfl, rfl⟩
end Go.Proofs.YtmdegomejbpldaaGreatDoor
end
section
set_option linter.unusedVariables false
set_option linter.unusedSimpArgs false
set_option maxRecDepth 20000
namespace Go.Proofs.YtmdegomejbpldaaGreatDoor
open Go Go.Ab
theorem len58 (l : List UInt8) : (([58, 10] : List UInt8) ++ l).length = 2 + l.length := by rw [List.length_append]; rfl
def ind (d : Nat) : List UInt8 := List.replicate (4 * d) 32
theorem ind_len (d : Nat) : (ind d).length = 4 * d := List.length_replicate
theorem ind_up (d : Nat) : ind d ++ tab4 = ind (d + 1) := by
  unfold ind
  rw [show 4 * (d + 1) = 4 * d + 4 by omega, show tab4 = List.replicate 4 32 from rfl, List.replicate_append_replicate]
def lad (D : Nat) : List Nat := (List.range (D + 1)).map (4 * ·)
def outs (n : Nat) : List Tok := List.replicate n tZ
def pre (D d : Nat) : List Tok := if d ≤ D then outs (D - d) else [tA]
theorem lad_len (D : Nat) : (lad D).length = D + 1 := by simp [lad]
theorem lad_up (D : Nat) : lad (D + 1) = lad D ++ [4 * (D + 1)] := by unfold lad; rw [List.range_succ (n := D + 1), List.map_append]; rfl
theorem tw_gen {α : Type} {p : α → Bool} {rest : List α} (hr : ∀ c r, rest = c :: r → p c = false) : ∀ w : List α, (∀ c ∈ w, p c = true) → (w ++ rest).takeWhile p = w
  | [], _ => by
    cases rest with
    | nil => rfl
    | cons c r => rw [List.nil_append, List.takeWhile_cons, if_neg (by rw [hr c r rfl]; decide)]
  | c :: w, h => by
    rw [List.cons_append, List.takeWhile_cons, if_pos (h c (List.mem_cons_self ..)), tw_gen hr w fun d hd => h d (List.mem_cons_of_mem _ hd)]
theorem lad_cut {d D : Nat} (h : d ≤ D) : ∃ l, lad D = lad d ++ l ∧ ∀ c r, l = c :: r → 4 * d < c := by
  refine ⟨(List.range (D - d)).map fun x => 4 * (d + 1 + x), ?_, ?_⟩
  · unfold lad
    rw [show D + 1 = (d + 1) + (D - d) by omega, List.range_add, List.map_append, List.map_map]; rfl
  · intro c r e
    have : c ∈ (List.range (D - d)).map fun x => 4 * (d + 1 + x) := by rw [e]; exact List.mem_cons_self ..
    obtain ⟨x, _, rfl⟩ := List.mem_map.1 this
    omega
theorem lad_stay {d D : Nat} (h : d ≤ D) : stay (lad D) (4 * d) = d + 1 ∧ (lad D).take (d + 1) = lad d ∧ 4 * d ∈ lad D := by
  obtain ⟨l, e, hl⟩ := lad_cut h
  refine ⟨?_, ?_, ?_⟩
  · unfold stay
    rw [e, tw_gen (fun c r hc => by have := hl c r hc; exact decide_eq_false (by omega)) _ fun c hc => ?_, lad_len]
    unfold lad at hc
    obtain ⟨x, hx, rfl⟩ := List.mem_map.1 hc
    rw [List.mem_range] at hx
    exact decide_eq_true (by omega)
  · rw [e, List.take_left' (lad_len d)]
  · rw [e]
    refine List.mem_append_left _ ?_
    unfold lad
    exact List.mem_map.2 ⟨d, List.mem_range.2 (by omega), rfl⟩
theorem lad_last (D : Nat) : (lad D).getD ((lad D).length - 1) 0 = 4 * D := by
  rw [lad_len]
  simp [lad, List.getD]
theorem fur_lad {d D p : Nat} (h : d ≤ D + 1) {r : List Nat × List Tok} (hr : furS (4 * d) p (lad D) = .inr r) : r.1 = lad d ∧ bareL r.2 = pre D d := by
  unfold furS at hr
  rw [lad_last] at hr
  by_cases hd : d ≤ D
  · rw [if_neg (by omega), if_pos (lad_stay hd).2.2, (lad_stay hd).1, (lad_stay hd).2.1, lad_len] at hr
    cases hr
    refine ⟨rfl, ?_⟩
    unfold pre outs bareL
    rw [if_pos hd, List.map_replicate, show D + 1 - (d + 1) = D - d by omega]; rfl
  · obtain rfl : d = D + 1 := by omega
    rw [if_pos (by omega)] at hr
    split at hr
    · cases hr
    · cases hr
      refine ⟨(lad_up D).symm, ?_⟩
      unfold pre
      rw [if_neg hd]; rfl
theorem line_okK {d D : Nat} (hd : d ≤ D + 1) {line : List UInt8} {ts : List Tok} (hl : LexP line ts) {s : List UInt8} {i f : Nat} {out res : List Tok} {rest : List UInt8} (hs : s.drop i = ind d ++ (line ++ 10 :: rest)) (h : allF f s i (lad D) out = .inr res) :
    ∃ f' out', allF f' s (i + 4 * d + line.length + 1) (lad d) out' = .inr res ∧ bareL out' = bareL out ++ (pre D d ++ (ts ++ [tL])) := by
  cases f with
  | zero => cases h
  | succ f =>
    obtain ⟨c, q, e, hc⟩ := hl.h
    obtain ⟨_, hc32, hc35, hc10⟩ := hdOk_no hc
    have hs2 : s.drop (i + 4 * d) = line ++ 10 :: rest := by
      rw [← List.drop_drop, hs, List.drop_left' (ind_len d)]
    have hs3 : s.drop (i + 4 * d) = c :: (q ++ 10 :: rest) := by rw [hs2, e]; rfl
    obtain ⟨hi, hci⟩ := drop_hd hs3
    have hgE : gapE s i = i + 4 * d := by
      unfold gapE
      have := (stop_w (p := (· == 32)) (w := ind d) hs (fun x hx => by rw [(List.mem_replicate.1 hx).2]; rfl) (fun x r hx => by
        rw [e] at hx
        have hx : c = x := (List.cons.inj hx).1
        subst hx; simpa using hc32)).1
      rw [this, ind_len]
    have hgC : gapC s i = i + 4 * d := by
      unfold gapC
      rw [hgE, if_neg]
      rw [List.getElem?_eq_getElem hi, hci]; simpa using hc35
    rw [allF, hgC, if_neg (by omega), if_neg (by rw [List.getElem?_eq_getElem hi, hci]; simpa using hc10), hgE, show i + 4 * d - i = 4 * d by omega] at h
    cases hf : furS (4 * d) (i + 4 * d) (lad D) with
    | inl e => rw [hf] at h; cases h
    | inr r =>
      obtain ⟨ins', l⟩ := r
      obtain ⟨e1, e2⟩ := fur_lad hd hf
      simp only at e1 e2
      subst e1
      rw [hf] at h
      simp only at h
      cases hL : lineF (s.length + 1) s (i + 4 * d) 0 (out ++ l) with
      | inl e => rw [hL] at h; cases h
      | inr r =>
        obtain ⟨k, out2⟩ := r
        rw [hL] at h
        have h : allF f s k (lad d) out2 = .inr res := h
        have hL2 : LFx (s.length + 1) s (i + 4 * d) 0 (out ++ l) = .inr (k, out2) := by
          unfold LFx
          rw [(gapC_no hs3 hc32 hc35).2]; exact hL
        obtain ⟨f', ts', h3, h4⟩ := hl.l 0 s _ _ _ _ _ hs2 rfl hL2
        have hs4 : s.drop (i + 4 * d + line.length) = 10 :: rest := by rw [← List.drop_drop, hs2, List.drop_left]
        obtain ⟨hi2, hc2⟩ := drop_hd hs4
        unfold LFx at h3
        rw [(gapC_no hs4 (by decide) (by decide)).2] at h3
        cases f' with
        | zero => cases h3
        | succ f' =>
          rw [lineF, if_neg, if_neg (by omega), if_pos hi2] at h3
          · cases h3
            refine ⟨f, _, h, ?_⟩
            unfold bareL at *
            rw [List.map_append, List.map_append, List.map_append, e2, h4]
            simp only [List.append_assoc]
            rfl
          · rintro ⟨_, h | h⟩
            · exact h (by rw [List.getElem?_eq_getElem hi2, hc2])
            · exact absurd h (by decide)
def sx (s : St) (d : Nat) : List UInt8 := (stW s (ind d)).flatten
def sxs (l : List St) (d : Nat) : List UInt8 := (stWs l (ind d)).flatten
theorem sxs_nil (d : Nat) : sxs [] d = [] := rfl
theorem sxs_cons (s : St) (l : List St) (d : Nat) : sxs (s :: l) d = ind d ++ (sx s d ++ sxs l d) := by
  unfold sxs sx
  rw [stWs, List.flatten_append, List.flatten_append, List.flatten_singleton, List.append_assoc]
def SG (s : St) : Prop := ∀ d D, d ≤ D + 1 → ∀ (t : List UInt8) (i f : Nat) (out : List Tok) (rest : List UInt8) (res : List Tok), t.drop i = ind d ++ (sx s d ++ rest) → allF f t i (lad D) out = .inr res →
  ∃ f' out' D', d ≤ D' ∧ allF f' t (i + 4 * d + (sx s d).length) (lad D') out' = .inr res ∧ bareL out' ++ outs (D' - d) = bareL out ++ (pre D d ++ stT s)
theorem sgs : ∀ (l : List St), (∀ s ∈ l, SG s) → ∀ d D, d ≤ D + 1 → (l = [] → d ≤ D) → ∀ (t : List UInt8) (i f : Nat) (out : List Tok) (rest : List UInt8) (res : List Tok), t.drop i = sxs l d ++ rest → allF f t i (lad D) out = .inr res →
    ∃ f' out' D', d ≤ D' ∧ allF f' t (i + (sxs l d).length) (lad D') out' = .inr res ∧ bareL out' ++ outs (D' - d) = bareL out ++ (pre D d ++ stTs l)
  | [], _, d, D, _, h0, t, i, f, out, rest, res, hs, h => ⟨f, out, D, h0 rfl, h, by
    unfold pre
    rw [if_pos (h0 rfl)]
    show _ = _ ++ (_ ++ [])
    rw [List.append_nil]⟩
  | s :: l, hl, d, D, hD, _, t, i, f, out, rest, res, hs, h => by
    rw [sxs_cons, List.append_assoc, List.append_assoc] at hs
    obtain ⟨f1, out1, D1, hd1, h1, e1⟩ := hl s (List.mem_cons_self ..) d D hD t i f out _ res hs h
    have hs2 : t.drop (i + 4 * d + (sx s d).length) = sxs l d ++ rest := by
      rw [← List.drop_drop, ← List.drop_drop, hs, List.drop_left' (ind_len d), List.drop_left]
    obtain ⟨f2, out2, D2, hd2, h2, e2⟩ := sgs l (fun x hx => hl x (List.mem_cons_of_mem _ hx)) d D1 (by omega) (fun _ => hd1) t _ f1 out1 rest res hs2 h1
    refine ⟨f2, out2, D2, hd2, ?_, ?_⟩
    · rw [sxs_cons, List.length_append, List.length_append, ind_len, ← Nat.add_assoc, ← Nat.add_assoc]; exact h2
    · rw [e2, stTs]
      have : pre D1 d = outs (D1 - d) := if_pos hd1
      rw [this, ← List.append_assoc, e1]
      simp only [List.append_assoc]
theorem sg_one {s : St} {line : List UInt8} {ts : List Tok} (hl : LexP line ts) (hx : ∀ d, sx s d = line ++ [10]) (ht : stT s = ts ++ [tL]) : SG s := by
  intro d D hD t i f out rest res hs h
  rw [hx, List.append_assoc] at hs
  obtain ⟨f', out', h1, e1⟩ := line_okK hD hl hs h
  refine ⟨f', out', d, Nat.le_refl _, ?_, ?_⟩
  · rw [hx, List.length_append]; exact h1
  · rw [Nat.sub_self, ht]
    show bareL out' ++ [] = _
    rw [List.append_nil, e1]
theorem blk_sg {b : List St} (hb : ∀ s ∈ b, SG s) {line : List UInt8} {ts : List Tok} (hl : LexP line ts) {d D : Nat} (hD : d ≤ D + 1) {t : List UInt8} {i f : Nat} {out : List Tok} {rest : List UInt8} {res : List Tok} (hs : t.drop i = ind d ++ (line ++ ([58, 10] ++ (sxs b (d + 1) ++ rest)))) (h : allF f t i (lad D) out = .inr res) :
    ∃ f' out' D', d ≤ D' ∧ allF f' t (i + 4 * d + (line.length + (2 + (sxs b (d + 1)).length))) (lad D') out' = .inr res ∧ bareL out' ++ outs (D' - d) = bareL out ++ (pre D d ++ (ts ++ blkT b.isEmpty (stTs b))) := by
  have hl2 : LexP (line ++ [58]) (ts ++ [tG [58]]) := ⟨fun o => ((hl.l o).app (lexG [58] (by decide)) (fun _ _ => rfl)).to (fun _ _ => trivial) rfl rfl, hl.hd2 _⟩
  have hs2 : t.drop i = ind d ++ ((line ++ [58]) ++ 10 :: (sxs b (d + 1) ++ rest)) := by rw [hs, List.append_assoc]; rfl
  obtain ⟨f1, out1, h1, e1⟩ := line_okK hD hl2 hs2 h
  have hlen : (line ++ [58]).length = line.length + 1 := by simp
  rw [hlen] at h1
  cases b with
  | nil =>
    refine ⟨f1, out1, d, Nat.le_refl _, ?_, ?_⟩
    · rw [sxs_nil, show i + 4 * d + (line.length + (2 + ([] : List UInt8).length)) = i + 4 * d + (line.length + 1) + 1 by simp; omega]; exact h1
    · rw [Nat.sub_self]
      show bareL out1 ++ [] = _
      rw [List.append_nil, e1]
      unfold blkT
      simp
  | cons s b =>
    have hs3 : t.drop (i + 4 * d + (line.length + 1) + 1) = sxs (s :: b) (d + 1) ++ rest := by
      have hA : t.drop (i + 4 * d) = (line ++ [58]) ++ 10 :: (sxs (s :: b) (d + 1) ++ rest) := by rw [← List.drop_drop, hs2, List.drop_left' (ind_len d)]
      rw [Nat.add_assoc (i + 4 * d) (line.length + 1) 1, ← List.drop_drop, hA]
      rw [show line.length + 1 + 1 = ((line ++ [58]) ++ [10]).length by simp, show (line ++ [58]) ++ 10 :: (sxs (s :: b) (d + 1) ++ rest) = ((line ++ [58]) ++ [10]) ++ (sxs (s :: b) (d + 1) ++ rest) by simp, List.drop_left]
    obtain ⟨f2, out2, D2, hd2, h2, e2⟩ := sgs (s :: b) hb (d + 1) d (Nat.le_refl _) (fun h => by cases h) t _ f1 out1 rest res hs3 h1
    refine ⟨f2, out2, D2, by omega, ?_, ?_⟩
    · rw [show i + 4 * d + (line.length + (2 + (sxs (s :: b) (d + 1)).length)) = i + 4 * d + (line.length + 1) + 1 + (sxs (s :: b) (d + 1)).length by omega]; exact h2
    · have e3 : outs (D2 - d) = outs (D2 - (d + 1)) ++ [tZ] := by
        unfold outs
        rw [show D2 - d = D2 - (d + 1) + 1 by omega, List.replicate_succ']
      have e4 : pre d (d + 1) = [tA] := if_neg (by omega)
      rw [e3, ← List.append_assoc, e2, e1, e4]
      unfold blkT
      simp [List.append_assoc]
theorem joinT_eqK (ns : Nms) : joinT ns = listX ns := by cases ns <;> rfl
theorem more_eq (ns : Nms) : moreN ns = itemT (ns.map fun n => [tN n]) := by
  induction ns with
  | nil => rfl
  | cons n ns ih =>
    show [tG [44], tN n] ++ moreN ns = _
    rw [ih]; rfl
theorem par_eq (ns : Nms) : parT ns = listT (ns.map fun n => [tN n]) := by
  cases ns with
  | nil => rfl
  | cons n ns => show tN n :: moreN ns = _; rw [more_eq]; rfl
theorem moreX_eq (ns : Nms) : moreX ns = itemT (ns.map fun n => [tX n]) := by
  induction ns with
  | nil => rfl
  | cons n ns ih =>
    show [tG [44], tX n] ++ moreX ns = _
    rw [ih]; rfl
theorem names_lex : ∀ ns : Nms, (∀ s ∈ ns, isNm s = true) → LexL ns (ns.map fun n => [tN n])
  | [], _ => .nil
  | n :: ns, h => .cons ⟨fun o => lex_name (h n (List.mem_cons_self ..)), nm_hd (h n (List.mem_cons_self ..))⟩ (names_lex ns fun s hs => h s (List.mem_cons_of_mem _ hs))
theorem nm_tx {n : List UInt8} (h : isNm n = true) : okTx n := by
  match n, h with
  | c :: r, h =>
    unfold isNm at h
    simp only [Bool.and_eq_true, List.all_eq_true] at h
    have key : ∀ d : UInt8, (isLet d || isDg d) = true → 32 ≤ d.toNat := fun d hd => by
      unfold isLet isDg at hd
      simp only [Bool.or_eq_true, Bool.and_eq_true, decide_eq_true_eq, beq_iff_eq] at hd
      rcases hd with ((hd | hd) | hd) | hd
      · omega
      · omega
      · subst hd; decide
      · omega
    intro d hd
    left
    rcases List.mem_cons.1 hd with rfl | hd
    · exact key _ (by rw [h.1.1]; rfl)
    · exact key _ (h.1.2 d hd)
theorem quo_P {t : List UInt8} (h : okTx t) : LexP (quoT t) [tX t] := ⟨fun o => (lex_text h).to (fun _ _ => trivial) rfl rfl, ⟨34, t.flatMap quoC ++ [34], by unfold quoT; rw [List.append_assoc]; rfl, rfl⟩⟩
theorem quos_lex : ∀ ns : Nms, (∀ s ∈ ns, isNm s = true) → LexL (ns.map quoT) (ns.map fun n => [tX n])
  | [], _ => .nil
  | n :: ns, h => .cons (quo_P (nm_tx (h n (List.mem_cons_self ..)))) (quos_lex ns fun s hs => h s (List.mem_cons_of_mem _ hs))
theorem loads_flat (ns : Nms) : (ns.flatMap fun n => [[44, 32], quoT n]).flatten = itemX (ns.map quoT) := by
  induction ns with
  | nil => rfl
  | cons n ns ih =>
    rw [List.flatMap_cons, List.flatten_append, ih]
    unfold itemX
    rw [List.map_cons, List.flatMap_cons]
    simp
theorem kwP {w : List UInt8} (h : w ∈ words14) : LexP w [tW w] := ⟨fun o => lex_kw h, kw_hd w h⟩
theorem LexP.app {a b : List UInt8} {ts us : List Tok} (ha : LexP a ts) (hb : ∀ o, Lex NL b us o o) (h : ∀ r, NL r → NL (b ++ r)) : LexP (a ++ b) (ts ++ us) := ⟨fun o => (ha.l o).app (hb o) h, ha.hd2 _⟩
theorem st_lex {M : Nat} {s : St} (h : Ws M s) : SG s := by
  induction h with
  | @mk k t ns x b e h1 h2 h3 h4 h5 h6 ih4 ih5 =>
    match k, h6 with
    | 1, h6 => exact sg_one (kwP (w := wPass) (by decide)) (fun d => rfl) rfl
    | 2, h6 =>
      have lx := ex_lex h6.2.2.1
      refine sg_one ((kwP (w := wReturn) (by decide)).app (b := [32] ++ xt x) (us := exTK x) (fun o => (lex_blank.app (lx.l o) (fun _ _ => trivial)).to (fun _ h => h) rfl rfl) (fun _ _ => rfl)) (fun d => ?_) rfl
      show ([[114, 101, 116, 117, 114, 110, 32]] ++ exW x ++ [nl]).flatten = _
      simp [xt, nl, wReturn]
    | 3, h6 =>
      have lx := ex_lex h6.2.2.1
      refine sg_one ((⟨fun o => lex_name h6.1, nm_hd h6.1⟩ : LexP t [tN t]).app (b := [32] ++ ([61] ++ ([32] ++ xt x))) (us := tG [61] :: exTK x) (fun o => (lex_blank.app (lexEq.app (lex_blank.app (lx.l o) (fun _ _ => trivial)) (fun _ _ => by show (32 : UInt8) ≠ 61; decide)) (fun _ _ => trivial)).to (fun _ h => h) rfl rfl) (fun _ _ => rfl)) (fun d => ?_) rfl
      show ([t, [32, 61, 32]] ++ exW x ++ [nl]).flatten = _
      simp [xt, nl]
    | 4, h6 =>
      have la := lex_item (quos_lex ns h6.2.1.2)
      refine sg_one (ts := [tW wLoad] ++ (tG [40] :: tX t :: (moreX ns ++ [tG [41]]))) ((kwP (w := wLoad) (by decide)).app (b := [40] ++ (quoT t ++ (itemX (ns.map quoT) ++ [41]))) (fun o => ((lexO [40] (by decide)).app ((lex_text h6.1).app ((la (o + 1)).app (lexC [41] (by decide)) (fun _ _ => rfl)) (fun _ _ => trivial)) (fun _ _ => trivial)).to (fun _ _ => trivial) rfl (by rw [moreX_eq]; rfl)) (fun _ _ => rfl)) (fun d => ?_) (by show tW wLoad :: tG [40] :: tX t :: (moreX ns ++ [tG [41], tL]) = _; simp)
      show ([[108, 111, 97, 100, 40], quoT t] ++ (ns.flatMap fun n => [[44, 32], quoT n]) ++ [[41, 10]]).flatten = _
      rw [List.flatten_append, List.flatten_append, loads_flat]
      simp [wLoad]
    | 5, h6 =>
      have lx := ex_lex h6.2.2.1
      refine sg_one lx (fun d => ?_) rfl
      show (exW x ++ [nl]).flatten = _
      simp [xt, nl]
    | 6, h6 =>
      have la := lex_list (names_lex ns h6.2.1.1)
      have hl : LexP (wDef ++ ([32] ++ (t ++ ([40] ++ (listX ns ++ [41]))))) ([tW wDef] ++ (tN t :: tG [40] :: (parT ns ++ [tG [41]]))) := (kwP (w := wDef) (by decide)).app (fun o => (lex_blank.app ((lex_name h6.1).app ((lexO [40] (by decide)).app ((la (o + 1)).app (lexC [41] (by decide)) (fun _ _ => rfl)) (fun _ _ => trivial)) (fun _ _ => rfl)) (fun _ _ => trivial)).to (fun _ _ => trivial) rfl (by rw [par_eq]; rfl)) (fun _ _ => rfl)
      intro d D hD s i f out rest res hs h
      have e : sx (.mk 6 t ns x b e) d = (wDef ++ ([32] ++ (t ++ ([40] ++ (listX ns ++ [41]))))) ++ ([58, 10] ++ sxs b (d + 1)) := by
        show ([[100, 101, 102, 32], t, [40], joinT ns, [41]] ++ ([[58, 10]] ++ stWs b (ind d ++ tab4))).flatten = _
        rw [ind_up, joinT_eqK]
        simp [wDef, sxs]
      rw [e, List.append_assoc, List.append_assoc] at hs
      obtain ⟨f', out', D', q1, q2, q3⟩ := blk_sg ih4 hl hD hs h
      refine ⟨f', out', D', q1, ?_, ?_⟩
      · rw [e, List.length_append, len58]; exact q2
      · rw [q3]
        congr 2
        show _ = tW wDef :: tN t :: tG [40] :: (parT ns ++ tG [41] :: blkT b.isEmpty (stTs b))
        simp
    | 7, h6 =>
      have lx := ex_lex h6.2.2
      have hl : LexP (wIf ++ ([32] ++ xt x)) ([tW wIf] ++ exTK x) := (kwP (w := wIf) (by decide)).app (fun o => (lex_blank.app (lx.l o) (fun _ _ => trivial)).to (fun _ h => h) rfl rfl) (fun _ _ => rfl)
      intro d D hD s i f out rest res hs h
      cases e with
      | nil =>
        have e : sx (.mk 7 t ns x b []) d = (wIf ++ ([32] ++ xt x)) ++ ([58, 10] ++ sxs b (d + 1)) := by
          show ([[105, 102, 32]] ++ exW x ++ ([[58, 10]] ++ stWs b (ind d ++ tab4)) ++ []).flatten = _
          rw [ind_up]
          simp [wIf, sxs, xt]
        rw [e, List.append_assoc, List.append_assoc] at hs
        obtain ⟨f', out', D', q1, q2, q3⟩ := blk_sg ih4 hl hD hs h
        refine ⟨f', out', D', q1, ?_, ?_⟩
        · rw [e, List.length_append, len58]; exact q2
        · rw [q3]
          congr 2
          show _ = tW wIf :: (exTK x ++ (blkT b.isEmpty (stTs b) ++ []))
          simp
      | cons s0 e0 =>
        have e : sx (.mk 7 t ns x b (s0 :: e0)) d = (wIf ++ ([32] ++ xt x)) ++ ([58, 10] ++ (sxs b (d + 1) ++ (ind d ++ (wElse ++ ([58, 10] ++ sxs (s0 :: e0) (d + 1)))))) := by
          show ([[105, 102, 32]] ++ exW x ++ ([[58, 10]] ++ stWs b (ind d ++ tab4)) ++ ([ind d, wElse] ++ ([[58, 10]] ++ stWs (s0 :: e0) (ind d ++ tab4)))).flatten = _
          rw [ind_up]
          simp [wIf, sxs, xt]
        have hs1 : s.drop i = ind d ++ ((wIf ++ ([32] ++ xt x)) ++ ([58, 10] ++ (sxs b (d + 1) ++ (ind d ++ (wElse ++ ([58, 10] ++ (sxs (s0 :: e0) (d + 1) ++ rest))))))) := by
          rw [hs, e]
          simp only [List.append_assoc]
        obtain ⟨f1, out1, D1, q1, q2, q3⟩ := blk_sg ih4 hl hD hs1 h
        have hs2 : s.drop (i + 4 * d + ((wIf ++ ([32] ++ xt x)).length + (2 + (sxs b (d + 1)).length))) = ind d ++ (wElse ++ ([58, 10] ++ (sxs (s0 :: e0) (d + 1) ++ rest))) := by
          have hA : s.drop (i + 4 * d) = (wIf ++ ([32] ++ xt x)) ++ ([58, 10] ++ (sxs b (d + 1) ++ (ind d ++ (wElse ++ ([58, 10] ++ (sxs (s0 :: e0) (d + 1) ++ rest)))))) := by rw [← List.drop_drop, hs1, List.drop_left' (ind_len d)]
          rw [← List.drop_drop, hA, ← List.drop_drop, List.drop_left, ← List.drop_drop]
          show ((sxs b (d + 1) ++ _).drop _) = _
          rw [List.drop_left]
        obtain ⟨f2, out2, D2, r1, r2, r3⟩ := blk_sg ih5 (kwP (w := wElse) (by decide)) (D := D1) (by omega) hs2 q2
        refine ⟨f2, out2, D2, r1, ?_, ?_⟩
        · have hl : (sx (.mk 7 t ns x b (s0 :: e0)) d).length = (wIf ++ ([32] ++ xt x)).length + (2 + (sxs b (d + 1)).length) + (4 * d + (wElse.length + (2 + (sxs (s0 :: e0) (d + 1)).length))) := by
            rw [e]
            simp only [List.length_append, ind_len, List.length_cons, List.length_nil]
            omega
          have key : ∀ p q r : Nat, i + 4 * d + (p + q + (4 * d + r)) = i + 4 * d + (p + q) + 4 * d + r := fun p q r => by omega
          rw [hl, key]
          exact r2
        · have e1 : pre D1 d = outs (D1 - d) := if_pos q1
          rw [r3, e1, ← List.append_assoc, q3]
          simp only [List.append_assoc]
          congr 2
    | 8, h6 =>
      have lx := ex_lex h6.2.2.1
      have hl : LexP (wFor ++ ([32] ++ (t ++ ([32] ++ (wIn ++ ([32] ++ xt x)))))) ([tW wFor] ++ (tN t :: tW wIn :: exTK x)) := (kwP (w := wFor) (by decide)).app (fun o => (lex_blank.app ((lex_name h6.1).app (lex_blank.app ((lex_kw (w := wIn) (by decide)).app (lex_blank.app (lx.l o) (fun _ _ => trivial)) (fun _ _ => rfl)) (fun _ _ => trivial)) (fun _ _ => rfl)) (fun _ _ => trivial)).to (fun _ h => h) rfl rfl) (fun _ _ => rfl)
      intro d D hD s i f out rest res hs h
      have e : sx (.mk 8 t ns x b e) d = (wFor ++ ([32] ++ (t ++ ([32] ++ (wIn ++ ([32] ++ xt x)))))) ++ ([58, 10] ++ sxs b (d + 1)) := by
        show ([[102, 111, 114, 32], t, [32, 105, 110, 32]] ++ exW x ++ ([[58, 10]] ++ stWs b (ind d ++ tab4))).flatten = _
        rw [ind_up]
        simp [wFor, wIn, sxs, xt]
      rw [e, List.append_assoc, List.append_assoc] at hs
      obtain ⟨f', out', D', q1, q2, q3⟩ := blk_sg ih4 hl hD hs h
      refine ⟨f', out', D', q1, ?_, ?_⟩
      · rw [e, List.length_append, len58]; exact q2
      · rw [q3]
        congr 2
    | 0, h6 => exact h6.elim
    | k + 9, h6 => exact h6.elim
theorem split_back {M : Nat} {l : List St} (hl : ∀ s ∈ l, Ws M s) {T : List Tok} {f : Flt} (h : splitS (srcT l) = (T, f)) (hf : f.1 = 0) : bareL T = stTs l := by
  obtain ⟨_, _, hA⟩ := splitS_all0 h hf
  have e : srcT l = sxs l 0 := rfl
  obtain ⟨f', out', D', _, h2, e2⟩ := sgs l (fun s hs => st_lex (hl s hs)) 0 0 (by omega) (fun _ => Nat.le_refl _) (srcT l) 0 _ [] [] T (by rw [e, List.append_nil, List.drop_zero]) hA
  rw [Nat.zero_add, ← e] at h2
  cases f' with
  | zero => cases h2
  | succ f' =>
    have hg : gapC (srcT l) (srcT l).length = (srcT l).length := by
      have h0 : gapE (srcT l) (srcT l).length = (srcT l).length := stopAt_end (Nat.le_refl _)
      unfold gapC
      rw [h0, List.getElem?_eq_none (Nat.le_refl _), if_neg (by simp)]
    rw [allF, hg, if_pos (Nat.le_refl _)] at h2
    cases hF : furS 0 (srcT l).length (lad D') with
    | inl e => rw [hF] at h2; cases h2
    | inr r =>
      rw [hF] at h2
      obtain ⟨r1, r2⟩ := r
      have e3 := (fur_lad (d := 0) (by omega) hF).2
      cases h2
      unfold bareL at *
      rw [List.map_append, e3]
      unfold pre
      rw [if_pos (Nat.zero_le _)]
      exact e2
end Go.Proofs.YtmdegomejbpldaaGreatDoor
end
section
set_option linter.unusedVariables false
set_option linter.unusedSimpArgs false
set_option maxRecDepth 20000
namespace Go.Proofs.YtmdegomejbpldaaGreatDoor
open Go Go.Ab
def wT (t : Tok) : Nat := 10000000 + 2 * t.text.length + (Lib.itoa t.num).length
def wL : List Tok → Nat
  | [] => 0
  | t :: r => wT t + wL r
def Zx {α : Type} (B : Nat) (m : α → Nat) (r : List Tok) (x : Pr α) : Prop := ∀ y u, x = .ok y u → m y + wL u ≤ B + wL r
section
variable {α β : Type} {B B' : Nat} {m : α → Nat} {m' : β → Nat} {r : List Tok}
theorem Zx.out : Zx B m r (.out : Pr α) := nofun
theorem Zx.bad {e : Nat} {u : List Tok} : Zx B m r (.bad e u : Pr α) := nofun
theorem Zx.ok {x : α} (h : m x ≤ B) : Zx B m r (.ok x r) := by intro _ _ h'; cases h'; omega
theorem Zx.bind {x : Pr α} {f : α → List Tok → Pr β} (h : Zx B m r x) (hf : ∀ y u, Zx (m y) m' u (f y u)) : Zx B m' r (x.bind f) := by
  cases x with
  | out => exact .out
  | bad e v => exact .bad
  | ok y v =>
    intro w q hw
    have h1 := h y v rfl
    have h2 := hf y v w q hw
    omega
theorem Zx.ite {x y : Pr α} {c : Prop} [Decidable c] (h : c → Zx B m r x) (h' : ¬ c → Zx B m r y) : Zx B m r (if c then x else y) := by
  by_cases hc : c
  · rw [if_pos hc]; exact h hc
  · rw [if_neg hc]; exact h' hc
theorem Zx.mono {x : Pr α} (h : Zx B m r x) (hB : B ≤ B') : Zx B' m r x := fun y u hx => by have := h y u hx; omega
theorem Zx.less {m2 : α → Nat} {x : Pr α} (h : Zx B m r x) (hm : ∀ y, m2 y ≤ m y) : Zx B m2 r x := fun y u hx => by have := h y u hx; have := hm y; omega
theorem Zx.tl {x : Pr α} (hp : r.tail.length + 1 ≤ r.length) (h : Zx (B + 10000000 + 2 * (hdT r).length) m r.tail x) : Zx B m r x := fun y u hx => by
  have := h y u hx
  cases r with
  | nil => simp at hp
  | cons t r =>
    have e1 : wL (t :: r) = 10000000 + 2 * t.text.length + (Lib.itoa t.num).length + wL r := rfl
    have e2 : (hdT (t :: r)).length = t.text.length := rfl
    have e3 : (t :: r).tail = r := rfl
    rw [e3] at this; omega
end
theorem mustS_z {B : Nat} (s : List UInt8) (r : List Tok) : Zx B (fun _ => B + 10000000) r (mustS s r) := .ite (fun h => .tl (isS_pos h) (.ok (by omega))) (fun _ => .bad)
theorem takeS_z {B : Nat} (k : Nat) (r : List Tok) : Zx B (fun t => B + 10000000 + 2 * t.text.length) r (takeS k r) := by
  intro t u h
  cases r with
  | nil => cases h
  | cons a v =>
    have h : (if a.kind = k then Pr.ok a v else .bad 1 (a :: v)) = .ok t u := h
    by_cases hk : a.kind = k
    · rw [if_pos hk] at h; cases h
      have e1 : wL (t :: u) = 10000000 + 2 * t.text.length + (Lib.itoa t.num).length + wL u := rfl
      show B + 10000000 + 2 * t.text.length + wL u ≤ B + wL (t :: u)
      omega
    · rw [if_neg hk] at h; cases h
def xz (x : Ex) : Nat := (exW x).flatten.length
def xzL (l : List Ex) : Nat := (l.map fun x => xz x + 2).sum
def nzL (l : List (List UInt8)) : Nat := (l.map fun n => n.length + 1).sum
theorem xzL_snoc (l : List Ex) (x : Ex) : xzL (l ++ [x]) = xzL l + (xz x + 2) := by unfold xzL; simp
theorem nzL_snoc (l : List (List UInt8)) (x : List UInt8) : nzL (l ++ [x]) = nzL l + (x.length + 1) := by unfold nzL; simp
theorem brk_len (b : Bool) (p : Pcs) : (brk b p).flatten.length ≤ p.flatten.length + 2 := by
  cases b with
  | true => simp [brk]
  | false => simp [brk]
theorem eachA_len (sep : List UInt8) (l : List Pcs) : (eachA sep l).flatten.length ≤ (l.map fun p => p.flatten.length + sep.length).sum := by
  induction h : l.length generalizing l with
  | zero => rw [List.length_eq_zero_iff.1 h]; simp [eachA]
  | succ n ih =>
    obtain ⟨a, p, rfl⟩ : ∃ a p, l = a ++ [p] := ⟨l.dropLast, l.getLast (by intro e; rw [e] at h; cases h), (List.dropLast_concat_getLast _).symm⟩
    have := ih a (by simpa using h)
    rw [eachA_snoc, List.flatten_append, List.length_append, List.flatten_append, List.length_append, List.map_append, List.sum_append]
    have h2 : ((if 0 < a.length then [sep] else []) : Pcs).flatten.length ≤ sep.length := by split <;> simp
    simp only [List.map_cons, List.map_nil, List.sum_cons, List.sum_nil]
    omega
theorem callPs_snoc (ns : List (List UInt8)) (n : List UInt8) (w : List (Bool × Pcs)) (p : Bool × Pcs) (h : ns.length ≤ w.length) : callPs (ns ++ [n]) (w ++ [p]) = callPs ns w ++ [[n, [61]] ++ p.2] := by
  unfold callPs
  rw [List.mapIdx_concat]
  have e : (w ++ [p]).length - (ns ++ [n]).length = w.length - ns.length := by simp
  rw [e]
  congr 1
  · refine List.mapIdx_eq_mapIdx_iff.2 fun i hi => ?_
    congr 1
    by_cases hc : w.length - ns.length ≤ i
    · rw [if_pos hc, if_pos hc]
      have hlt : i - (w.length - ns.length) < ns.length := by omega
      rw [List.getD_eq_getElem?_getD, List.getD_eq_getElem?_getD, List.getElem?_append_left hlt]
    · rw [if_neg hc, if_neg hc]
  · have hc : w.length - ns.length ≤ w.length := by omega
    have e2 : w.length - (w.length - ns.length) = ns.length := by omega
    rw [if_pos hc, e2]
    simp
theorem callPs_nil (w : List (Bool × Pcs)) : callPs [] w = w.map (·.2) := by
  unfold callPs
  refine List.ext_getElem (by simp) fun i h1 h2 => ?_
  have hi : i < w.length := by simpa using h2
  rw [List.getElem_mapIdx, List.getElem_map, if_neg (by show ¬ w.length - 0 ≤ i; omega), List.nil_append]
theorem callPs_len : ∀ (k : Nat) (ns : List (List UInt8)) (w : List (Bool × Pcs)), ns.length = k → k ≤ w.length → ((callPs ns w).map fun p => p.flatten.length + 2).sum ≤ (w.map fun p => p.2.flatten.length + 2).sum + nzL ns
  | 0, ns, w, h, _ => by
    rw [List.length_eq_zero_iff.1 h, callPs_nil, List.map_map]
    exact Nat.le_add_right _ _
  | k + 1, ns, w, h, hw => by
    obtain ⟨a, n, rfl⟩ : ∃ a n, ns = a ++ [n] := ⟨ns.dropLast, ns.getLast (by intro e; rw [e] at h; cases h), (List.dropLast_concat_getLast _).symm⟩
    obtain ⟨v, p, rfl⟩ : ∃ v p, w = v ++ [p] := ⟨w.dropLast, w.getLast (by intro e; rw [e] at hw; simp at hw), (List.dropLast_concat_getLast _).symm⟩
    simp only [List.length_append, List.length_cons, List.length_nil] at h hw
    have := callPs_len k a v (by omega) (by omega)
    rw [callPs_snoc a n v p (by omega), nzL_snoc, List.map_append, List.map_append, List.sum_append, List.sum_append]
    simp only [List.map_cons, List.map_nil, List.sum_cons, List.sum_nil, List.flatten_append, List.length_append, List.flatten_cons, List.flatten_nil, List.length_cons, List.length_nil]
    omega
theorem exWs_len (l : List Ex) : ((exWs l).map fun p => p.2.flatten.length + 2).sum = xzL l := by
  rw [exWs_map, List.map_map]; rfl
theorem xz_10 (k0 : Ex) (args : List Ex) (ns : List (List UInt8)) (n : Nat) (t : List UInt8) (h : ns.length ≤ args.length) : xz (.mk 10 n t (k0 :: args) ns) ≤ xzL (k0 :: args) + nzL ns + 2 := by
  have h1 := brk_len (apart k0) (exW k0)
  have h2 := eachA_len [44, 32] (callPs ns (exWs args))
  have h3 := callPs_len ns.length ns (exWs args) rfl (by rw [exWs_map]; simpa using h)
  rw [exWs_len] at h3
  have e : xz (.mk 10 n t (k0 :: args) ns) = (brk (apart k0) (exW k0) ++ [[40]] ++ eachA [44, 32] (callPs ns (exWs args)) ++ [[41]]).flatten.length := rfl
  have e2 : xzL (k0 :: args) = (xz k0 + 2) + xzL args := by unfold xzL; simp
  rw [e, e2]
  simp only [List.flatten_append, List.length_append, List.flatten_cons, List.flatten_nil, List.length_cons, List.length_nil]
  have h4 : (([44, 32] : List UInt8)).length = 2 := rfl
  rw [h4] at h2
  have h5 : xz k0 = (exW k0).flatten.length := rfl
  omega
theorem xz_7 (ks : List Ex) (ns : List (List UInt8)) (n : Nat) (t : List UInt8) : xz (.mk 7 n t ks ns) ≤ xzL ks + 2 := by
  have h2 := eachA_len [44, 32] ((exWs ks).map (·.2))
  rw [List.map_map] at h2
  have h3 := exWs_len ks
  have e : xz (.mk 7 n t ks ns) = ([[91]] ++ eachA [44, 32] ((exWs ks).map fun p => p.2) ++ [[93]] : Pcs).flatten.length := rfl
  rw [e]
  simp only [List.flatten_append, List.length_append, List.flatten_cons, List.flatten_nil, List.length_cons, List.length_nil]
  have h4 : ((exWs ks).map ((fun p : Pcs => p.flatten.length + ([44, 32] : List UInt8).length) ∘ fun x => x.2)).sum = xzL ks := h3
  rw [h4] at h2
  omega
theorem xz_8 (ks : List Ex) (ns : List (List UInt8)) (n : Nat) (t : List UInt8) : xz (.mk 8 n t ks ns) ≤ xzL ks + 2 := by
  have h2 := eachA_len [] (dictA (exWs ks))
  have h3 := exWs_len ks
  have e : xz (.mk 8 n t ks ns) = ([[123]] ++ eachA [] (dictA (exWs ks)) ++ [[125]]).flatten.length := rfl
  have key : ∀ w : List (Bool × Pcs), ((dictA w).map fun p => p.flatten.length + ([] : List UInt8).length).sum ≤ (w.map fun p => p.2.flatten.length + 2).sum := fun w => by
    induction hn : w.length generalizing w with
    | zero => rw [List.length_eq_zero_iff.1 hn]; simp [dictA]
    | succ k ih =>
      obtain ⟨v, p, rfl⟩ : ∃ v p, w = v ++ [p] := ⟨w.dropLast, w.getLast (by intro e; rw [e] at hn; cases hn), (List.dropLast_concat_getLast _).symm⟩
      have := ih v (by simpa using hn)
      simp only [List.length_nil] at this
      have hd : dictA (v ++ [p]) = dictA v ++ [(if 0 < v.length then [sepD v.length] else []) ++ p.2] := by unfold dictA; rw [List.mapIdx_concat]
      have hs : ((if 0 < v.length then [sepD v.length] else []) : Pcs).flatten.length ≤ 2 := by
        split
        · unfold sepD; split <;> simp
        · simp
      rw [hd, List.map_append, List.map_append, List.sum_append, List.sum_append]
      simp only [List.map_cons, List.map_nil, List.sum_cons, List.sum_nil, List.flatten_append, List.length_append, List.length_nil]
      omega
  have h5 := key (exWs ks)
  rw [e]
  simp only [List.flatten_append, List.length_append, List.flatten_cons, List.flatten_nil, List.length_cons, List.length_nil]
  simp only [List.length_nil] at h2 h5
  omega
theorem Zx.add {α : Type} {B : Nat} {m : α → Nat} {r : List Tok} {x : Pr α} (C : Nat) (h : Zx B m r x) : Zx (C + B) (fun y => C + m y) r x := fun y u hx => by
  have := h y u hx
  show C + m y + wL u ≤ C + B + wL r
  omega
theorem quoT_len2 (t : List UInt8) : (quoT t).length ≤ 2 * t.length + 2 := by
  have h : ∀ t : List UInt8, (t.flatMap quoC).length ≤ 2 * t.length := fun t => by
    induction t with
    | nil => exact Nat.le_refl _
    | cons c r ih =>
      have : (quoC c).length ≤ 2 := by unfold quoC; (repeat' split) <;> simp
      rw [List.flatMap_cons, List.length_append, List.length_cons]; omega
  have := h t
  unfold quoT
  simp only [List.length_append, List.length_cons, List.length_nil]; omega
theorem xz_11 (x y : Ex) (n : Nat) (t : List UInt8) (ns : List (List UInt8)) : xz (.mk 11 n t [x, y] ns) ≤ xz x + xz y + 4 := by
  have h := brk_len (apart x) (exW x)
  have e : xz (.mk 11 n t [x, y] ns) = (brk (apart x) (exW x) ++ [[91]] ++ exW y ++ [[93]] : Pcs).flatten.length := rfl
  have h1 : xz x = (exW x).flatten.length := rfl
  have h2 : xz y = (exW y).flatten.length := rfl
  rw [e]
  simp only [List.flatten_append, List.length_append, List.flatten_cons, List.flatten_nil, List.length_cons, List.length_nil]
  omega
theorem xz_12 (x : Ex) (n : Nat) (t : List UInt8) (ns : List (List UInt8)) : xz (.mk 12 n t [x] ns) ≤ xz x + 6 := by
  have h := brk_len (apart x) (exW x)
  have e : xz (.mk 12 n t [x] ns) = ([[110, 111, 116, 32]] ++ brk (apart x) (exW x) : Pcs).flatten.length := rfl
  have h1 : xz x = (exW x).flatten.length := rfl
  rw [e]
  simp only [List.flatten_append, List.length_append, List.flatten_cons, List.flatten_nil, List.length_cons, List.length_nil]
  omega
theorem xz_13 (x : Ex) (n : Nat) (t : List UInt8) (ns : List (List UInt8)) : xz (.mk 13 n t [x] ns) ≤ xz x + 3 := by
  have h := brk_len (apart x) (exW x)
  have e : xz (.mk 13 n t [x] ns) = ([[45]] ++ brk (apart x) (exW x) : Pcs).flatten.length := rfl
  have h1 : xz x = (exW x).flatten.length := rfl
  rw [e]
  simp only [List.flatten_append, List.length_append, List.flatten_cons, List.flatten_nil, List.length_cons, List.length_nil]
  omega
theorem xz_14 (x y : Ex) (t : List UInt8) : xz (binE t x y) ≤ xz x + xz y + t.length + 6 := by
  have h := brk_len (apart x) (exW x)
  have h' := brk_len (apart y) (exW y)
  have e : xz (binE t x y) = (brk (apart x) (exW x) ++ [[32], t, [32]] ++ brk (apart y) (exW y) : Pcs).flatten.length := rfl
  have h1 : xz x = (exW x).flatten.length := rfl
  have h2 : xz y = (exW y).flatten.length := rfl
  rw [e]
  simp only [List.flatten_append, List.length_append, List.flatten_cons, List.flatten_nil, List.length_cons, List.length_nil]
  omega
theorem xz_9a (x y : Ex) (n : Nat) (t : List UInt8) (ns : List (List UInt8)) : xz (.mk 9 n t [x, y] ns) ≤ xz x + xz y + t.length + 20 := by
  have e : xz (.mk 9 n t [x, y] ns) = ([[91]] ++ exW x ++ [[32, 102, 111, 114, 32], t, [32, 105, 110, 32]] ++ exW y ++ [] ++ [[93]] : Pcs).flatten.length := rfl
  have h1 : xz x = (exW x).flatten.length := rfl
  have h2 : xz y = (exW y).flatten.length := rfl
  rw [e]
  simp only [List.flatten_append, List.length_append, List.flatten_cons, List.flatten_nil, List.length_cons, List.length_nil]
  omega
theorem xz_9b (x y z : Ex) (n : Nat) (t : List UInt8) (ns : List (List UInt8)) : xz (.mk 9 n t [x, y, z] ns) ≤ xz x + xz y + xz z + t.length + 30 := by
  have e : xz (.mk 9 n t [x, y, z] ns) = ([[91]] ++ exW x ++ [[32, 102, 111, 114, 32], t, [32, 105, 110, 32]] ++ exW y ++ ([[32, 105, 102, 32]] ++ exW z) ++ [[93]] : Pcs).flatten.length := rfl
  have h1 : xz x = (exW x).flatten.length := rfl
  have h2 : xz y = (exW y).flatten.length := rfl
  have h3 : xz z = (exW z).flatten.length := rfl
  rw [e]
  simp only [List.flatten_append, List.length_append, List.flatten_cons, List.flatten_nil, List.length_cons, List.length_nil]
  omega
end Go.Proofs.YtmdegomejbpldaaGreatDoor
end
section
set_option linter.unusedVariables false
set_option linter.unusedSimpArgs false
set_option maxRecDepth 20000
namespace Go.Proofs.YtmdegomejbpldaaGreatDoor
open Go Go.Ab
def mz (x : Ex) : Nat := xz x + 50
structure AllZ (F : Nat) : Prop where
  expr : ∀ n r, Zx 0 mz r (exprS F n r)
  lev : ∀ k n r, Zx 0 mz r (levS F k n r)
  loop : ∀ k n x r, Zx (mz x) mz r (loopS F k n x r)
  post : ∀ n x r, Zx (mz x) mz r (postS F n x r)
  call : ∀ n k0 args ns r, ns.length ≤ args.length → Zx (xzL (k0 :: args) + nzL ns + 100) mz r (callS F n (k0 :: args) ns r)
  atom : ∀ n r, Zx 0 mz r (atomS F n r)
  list : ∀ n r, Zx 100 mz r (listS F n r)
  item : ∀ n ks r, Zx (xzL ks + 100) mz r (itemS F n ks r)
  dict : ∀ n ks r, Zx (xzL ks + 100) mz r (dictS F n ks r)
section
variable {α β : Type} {B C : Nat} {m : α → Nat} {m' : β → Nat} {r : List Tok}
theorem Zx.then {x : Pr α} {f : α → List Tok → Pr β} (h : Zx 0 m r x) (hf : ∀ y u, Zx (B + m y) m' u (f y u)) : Zx B m' r (x.bind f) := .bind (h.add B) hf
theorem Zx.must {s : List UInt8} {f : Unit → List Tok → Pr β} (hf : ∀ u, Zx (B + 10000000) m' u (f () u)) : Zx B m' r ((mustS s r).bind f) := .bind (mustS_z s r) fun _ u => hf u
theorem Zx.take {k : Nat} {f : Tok → List Tok → Pr β} (hf : ∀ t u, Zx (B + 10000000 + 2 * t.text.length) m' u (f t u)) : Zx B m' r ((takeS k r).bind f) := .bind (takeS_z k r) fun t u => hf t u
end
theorem xzL_one (x : Ex) : xzL [x] = xz x + 2 := by simp [xzL]
theorem nzL_nil : nzL [] = 0 := rfl
theorem xzL_nil : xzL [] = 0 := rfl
theorem allZ (F : Nat) : AllZ F := by
  induction F with
  | zero => exact ⟨fun _ _ => .out, fun _ _ _ => .out, fun _ _ _ _ => .out, fun _ _ _ => .out, fun _ _ _ _ _ _ => .out, fun _ _ => .out, fun _ _ => .out, fun _ _ _ => .out, fun _ _ _ => .out⟩
  | succ F ih =>
    refine ⟨?_, ?_, ?_, ?_, ?_, ?_, ?_, ?_, ?_⟩
    · intro n r
      rw [exprS]
      exact .ite (fun _ => .bad) (fun _ => ih.lev 0 _ r)
    · intro k n r
      by_cases h2 : k = 2
      · subst h2
        rw [levS_2]
        refine .ite (fun hi => .tl (isS_pos hi) (.ite (fun _ => .bad) (fun _ => (ih.lev 2 _ _).then fun y u => .ok ?_))) (fun _ => .bind (ih.lev 3 n r) fun x u => .ite (fun ho => .tl (isOf_pos ho) ((ih.lev 3 n _).then fun y v => .ok ?_)) (fun _ => .ok (Nat.le_refl _)))
        · have := xz_12 y 0 [] []
          show xz _ + 50 ≤ 0 + 10000000 + 2 * (hdT r).length + (xz y + 50); omega
        · have := xz_14 x y (hdT u)
          show xz (binE (hdT u) x y) + 50 ≤ (xz x + 50) + 10000000 + 2 * (hdT u).length + (xz y + 50); omega
      · by_cases h5 : k = 5
        · subst h5
          rw [levS_5]
          refine .ite (fun hi => .tl (isS_pos hi) (.ite (fun _ => .bad) (fun _ => (ih.lev 5 _ _).then fun y u => .ok ?_))) (fun _ => .bind (ih.atom n r) fun x u => ih.post n x u)
          have := xz_13 y 0 [] []
          show xz _ + 50 ≤ 0 + 10000000 + 2 * (hdT r).length + (xz y + 50); omega
        · rw [levS_d k h2 h5]
          exact .bind (ih.lev (k + 1) n r) fun x u => ih.loop k n x u
    · intro k n x r
      rw [loopS]
      refine .ite (fun ho => .tl (isOf_pos ho) ((ih.lev (k + 1) n _).then fun y u => (ih.loop k n _ u).mono ?_)) (fun _ => .ok (Nat.le_refl _))
      have := xz_14 x y (hdT r)
      show xz (binE (hdT r) x y) + 50 ≤ (xz x + 50) + 10000000 + 2 * (hdT r).length + (xz y + 50); omega
    · intro n x r
      rw [postS]
      refine .ite (fun hi => .tl (isS_pos hi) (.bind ((ih.call n x [] [] _ (Nat.le_refl _)).mono ?_) fun y u => ih.post n y u)) (fun _ => .ite (fun hi => .tl (isS_pos hi) ((ih.expr n _).then fun y u => .must fun v => (ih.post n _ v).mono ?_)) (fun _ => .ok (Nat.le_refl _)))
      · rw [xzL_one, nzL_nil]; show _ ≤ (xz x + 50) + 10000000 + _; omega
      · have := xz_11 x y 0 [] []
        show xz _ + 50 ≤ (xz x + 50) + 10000000 + 2 * (hdT r).length + (xz y + 50) + 10000000; omega
    · intro n k0 args ns r hl
      rw [callS]
      refine .ite (fun hi => .tl (isS_pos hi) (.ok ?_)) (fun _ => ?_)
      · have := xz_10 k0 args ns 0 [] hl
        show xz _ + 50 ≤ _; omega
      have h0 : Zx (xzL (k0 :: args) + nzL ns + 100) (fun _ => xzL (k0 :: args) + nzL ns + 100) r (if (k0 :: args).length > 1 then mustS [44] r else .ok () r) := .ite (fun _ => (mustS_z _ r).less fun _ => by omega) (fun _ => .ok (Nat.le_refl _))
      refine .bind h0 fun _ u => .ite (fun hn => .ite (fun _ => .bad) (fun _ => ?_)) (fun _ => .ite (fun _ => .bad) (fun h0 => (ih.expr n u).then fun y v => ?_))
      · have hp := nameS_pos hn
        have e1 := List.length_tail (l := u)
        have e2 := List.length_tail (l := u.tail)
        refine .tl (by omega) (.tl (by omega) ((ih.expr n _).then fun y v => (ih.call n k0 (args ++ [y]) (ns ++ [hdT u]) v (by simp; omega)).mono ?_))
        rw [nzL_snoc, show k0 :: (args ++ [y]) = (k0 :: args) ++ [y] from rfl, xzL_snoc]
        show _ ≤ _ + (xz y + 50); omega
      · refine (ih.call n k0 (args ++ [y]) ns v (by simp; omega)).mono ?_
        rw [show k0 :: (args ++ [y]) = (k0 :: args) ++ [y] from rfl, xzL_snoc]
        show _ ≤ _ + (xz y + 50); omega
    · intro n r
      cases r with
      | nil => exact .bad
      | cons t u =>
        have at0 : ∀ x : Ex, xz x ≤ 2 * t.text.length + (Lib.itoa t.num).length + 100 → Zx 0 mz (t :: u) (.ok x u) := fun x hx y v h => by
          cases h
          have e1 : wL (t :: u) = 10000000 + 2 * t.text.length + (Lib.itoa t.num).length + wL u := rfl
          show xz x + 50 + wL u ≤ 0 + wL (t :: u); omega
        have e6 : xz (.mk 6 0 t.text [] []) = t.text.length := by show ([t.text] : Pcs).flatten.length = _; simp
        have e4 : xz (.mk 4 t.num [] [] []) = (Lib.itoa t.num).length := by show ([Lib.itoa t.num] : Pcs).flatten.length = _; simp
        have e5 : xz (.mk 5 0 t.text [] []) = (quoT t.text).length := by show ([quoT t.text] : Pcs).flatten.length = _; simp
        have q5 := quoT_len2 t.text
        have tl : ∀ {x : Pr Ex}, Zx (0 + 10000000 + 2 * t.text.length) mz u x → Zx 0 mz (t :: u) x := fun h => Zx.tl (by simp) h
        exact .ite (fun _ => at0 _ (by omega)) (fun _ => .ite (fun _ => at0 _ (by omega)) (fun _ => .ite (fun _ => at0 _ (by omega)) (fun _ => .ite (fun _ => at0 _ (by show 4 ≤ _; omega)) (fun _ => .ite (fun _ => at0 _ (by show 4 ≤ _; omega)) (fun _ => .ite (fun _ => at0 _ (by show 5 ≤ _; omega))
          (fun _ => .ite (fun _ => tl ((ih.expr n u).then fun x v => .must fun w => .ok (by show xz x + 50 ≤ _ + (xz x + 50) + _; omega))) (fun _ => .ite (fun _ => tl ((ih.list n u).mono (by omega))) (fun _ => .ite (fun _ => tl ((ih.dict n [] u).mono (by rw [xzL_nil]; omega))) (fun _ => .bad)))))))))
    · intro n r
      rw [listS]
      refine .ite (fun hi => .tl (isS_pos hi) (.ok ?_)) (fun _ => (ih.expr n r).then fun x u => .ite (fun hi => .tl (isS_pos hi) (.take fun t v => .must fun w => (ih.expr n w).then fun y q => .ite (fun hj => .tl (isS_pos hj) ((ih.expr n _).then fun z o => .must fun p => .ok ?_)) (fun _ => .must fun p => .ok ?_))) (fun _ => (ih.item n [x] u).mono ?_))
      · have := xz_7 [] [] 0 []; rw [xzL_nil] at this; show xz _ + 50 ≤ _; omega
      · have := xz_9b x y z 0 t.text []
        show xz _ + 50 ≤ 100 + (xz x + 50) + 10000000 + _ + 10000000 + _ + 10000000 + (xz y + 50) + 10000000 + _ + (xz z + 50) + 10000000; omega
      · have := xz_9a x y 0 t.text []
        show xz _ + 50 ≤ 100 + (xz x + 50) + 10000000 + _ + 10000000 + _ + 10000000 + (xz y + 50) + 10000000; omega
      · rw [xzL_one]; show _ ≤ 100 + (xz x + 50); omega
    · intro n ks r
      rw [itemS]
      refine .ite (fun hi => .tl (isS_pos hi) (.ok ?_)) (fun _ => .must fun u => (ih.expr n u).then fun y v => (ih.item n _ v).mono ?_)
      · have := xz_7 ks [] 0 []; show xz _ + 50 ≤ _; omega
      · rw [xzL_snoc]; show _ ≤ _ + (xz y + 50); omega
    · intro n ks r
      rw [dictS]
      refine .ite (fun hi => .tl (isS_pos hi) (.ok ?_)) (fun _ => ?_)
      · have := xz_8 ks [] 0 []; show xz _ + 50 ≤ _; omega
      have h0 : Zx (xzL ks + 100) (fun _ => xzL ks + 100) r (if ks.length > 0 then mustS [44] r else .ok () r) := .ite (fun _ => (mustS_z _ r).less fun _ => by omega) (fun _ => .ok (Nat.le_refl _))
      refine .bind h0 fun _ u => (ih.expr n u).then fun y v => .must fun w => (ih.expr n w).then fun z q => (ih.dict n _ q).mono ?_
      rw [xzL_snoc, xzL_snoc]
      show _ ≤ _ + (xz y + 50) + 10000000 + (xz z + 50); omega
end Go.Proofs.YtmdegomejbpldaaGreatDoor
end
section
set_option linter.unusedVariables false
set_option linter.unusedSimpArgs false
set_option maxRecDepth 20000
namespace Go.Proofs.YtmdegomejbpldaaGreatDoor
open Go Go.Ab
def sz (i : List UInt8) (s : St) : Nat := (stW s i).flatten.length
def szL (i : List UInt8) (l : List St) : Nat := (stWs l i).flatten.length
def lz (ns : List (List UInt8)) : Nat := (ns.map fun n => 2 * n.length + 4).sum
def pz (ns : List (List UInt8)) : Nat := (ns.map fun n => n.length + 2).sum
theorem szL_snoc (i : List UInt8) (l : List St) (s : St) : szL i (l ++ [s]) = szL i l + (i.length + sz i s) := by
  unfold szL sz
  rw [stWs_snoc, List.flatten_append, List.length_append, List.flatten_append, List.length_append]; simp
theorem lz_snoc (l : List (List UInt8)) (x : List UInt8) : lz (l ++ [x]) = lz l + (2 * x.length + 4) := by unfold lz; simp
theorem pz_snoc (l : List (List UInt8)) (x : List UInt8) : pz (l ++ [x]) = pz l + (x.length + 2) := by unfold pz; simp
theorem join_len (ns : List (List UInt8)) : (joinT ns).length ≤ pz ns := by
  cases ns with
  | nil => exact Nat.zero_le _
  | cons x r =>
    have h : ∀ r : List (List UInt8), (r.flatMap fun t => ([44, 32] : List UInt8) ++ t).length = pz r := fun r => by
      induction r with
      | nil => rfl
      | cons y r ih =>
        rw [List.flatMap_cons, List.length_append, ih]
        have e : pz (y :: r) = y.length + 2 + pz r := by simp [pz]
        rw [e, List.length_append, List.length_cons, List.length_cons, List.length_nil]; omega
    show (x ++ r.flatMap fun t => [44, 32] ++ t).length ≤ (x.length + 2) + pz r
    rw [List.length_append, h]; omega
theorem load_len (ns : List (List UInt8)) : (ns.flatMap ldP).flatten.length ≤ lz ns := by
  induction ns with
  | nil => exact Nat.le_refl _
  | cons x r ih =>
    have := quoT_len2 x
    rw [List.flatMap_cons, List.flatten_append, List.length_append]
    have e : (ldP x).flatten.length = 2 + (quoT x).length := by simp [ldP]; omega
    show _ ≤ (2 * x.length + 4) + lz r
    omega
theorem namesS_z : ∀ (F : Nat) (ns : List (List UInt8)) (r : List Tok), Zx (lz ns) lz r (namesS F ns r)
  | 0, _, _ => .out
  | F + 1, ns, r => by
    rw [namesS]
    refine .ite (fun _ => .bad) (fun _ => .take fun t u => .ite (fun h => .tl (isS_pos h) ((namesS_z F _ _).mono ?_)) (fun _ => .ok ?_))
    · rw [lz_snoc]; omega
    · rw [lz_snoc]; omega
theorem paramS_z : ∀ (F : Nat) (ns : List (List UInt8)) (r : List Tok), Zx (pz ns) pz r (paramS F ns r)
  | 0, _, _ => .out
  | F + 1, ns, r => by
    rw [paramS]
    refine .ite (fun _ => .bad) (fun _ => .take fun t u => .ite (fun h => .tl (isS_pos h) ((paramS_z F _ _).mono ?_)) (fun _ => .ok ?_))
    · rw [pz_snoc]; omega
    · rw [pz_snoc]; omega
theorem smallS_z (F b d : Nat) (i : List UInt8) (r : List Tok) : Zx 0 (sz i) r (smallS F b d r) := by
  have ih := allZ F
  unfold smallS loadS
  refine .ite (fun h => .tl (isS_pos h) (.ok ?_)) (fun _ => .ite (fun h => .ite (fun _ => .bad) (fun _ => .ite (fun _ => .tl (isS_pos h) ((ih.expr 0 _).then fun x u => .ok ?_)) (fun _ => .tl (isS_pos h) (.ok ?_)))) (fun _ => .ite (fun h => .ite (fun _ => .bad) (fun _ => .tl (isS_pos h) (.must fun u => .take fun t v => .must fun w => .bind ((namesS_z F [] w).add (0 + 10000000 + 2 * (hdT r).length + 10000000 + 10000000 + 2 * t.text.length + 10000000)) fun ns q => .must fun o => .ok ?_))) (fun _ => .ite (fun h => ?_) (fun _ => (ih.expr 0 r).then fun x u => .ok ?_))))
  · show 5 ≤ _; omega
  · have e : sz i (.mk 2 [] [] x [] []) = ([[114, 101, 116, 117, 114, 110, 32]] ++ exW x ++ [nl] : Pcs).flatten.length := rfl
    rw [e]
    have h1 : xz x = (exW x).flatten.length := rfl
    simp only [List.flatten_append, List.length_append, List.flatten_cons, List.flatten_nil, List.length_cons, List.length_nil, nl]
    show _ ≤ _ + (xz x + 50); omega
  · show 12 ≤ _; omega
  · have e : sz i (.mk 4 t.text ns .zero [] []) = ([[108, 111, 97, 100, 40], quoT t.text] ++ ns.flatMap ldP ++ [[41, 10]] : Pcs).flatten.length := rfl
    have h1 := load_len ns
    have h2 := quoT_len2 t.text
    rw [e]
    simp only [List.flatten_append, List.length_append, List.flatten_cons, List.flatten_nil, List.length_cons, List.length_nil]
    omega
  · have hp := nameS_pos h
    have e1 := List.length_tail (l := r)
    have e2 := List.length_tail (l := r.tail)
    refine .tl (by omega) (.tl (by omega) ((ih.expr 0 _).then fun x u => .ok ?_))
    have e : sz i (.mk 3 (hdT r) [] x [] []) = ([hdT r, [32, 61, 32]] ++ exW x ++ [nl] : Pcs).flatten.length := rfl
    have h1 : xz x = (exW x).flatten.length := rfl
    rw [e]
    simp only [List.flatten_append, List.length_append, List.flatten_cons, List.flatten_nil, List.length_cons, List.length_nil, nl]
    show _ ≤ _ + (xz x + 50); omega
  · have e : sz i (.mk 5 [] [] x [] []) = (exW x ++ [nl] : Pcs).flatten.length := rfl
    have h1 : xz x = (exW x).flatten.length := rfl
    rw [e]
    simp only [List.flatten_append, List.length_append, List.flatten_cons, List.flatten_nil, List.length_cons, List.length_nil, nl]
    show _ ≤ _ + (xz x + 50); omega
structure AllY (F : Nat) : Prop where
  stmts : ∀ i top b d ls r, i.length + 4 * F ≤ 4000000 → Zx (szL i ls) (szL i) r (stmtsS F top b d ls r)
  block : ∀ i b d r, i.length + 4 * F ≤ 4000000 → Zx 0 (szL (i ++ tab4)) r (blockS F b d r)
  stmt : ∀ i b d r, i.length + 4 * F ≤ 4000000 → Zx 0 (fun s => i.length + sz i s) r (stmtS F b d r)
theorem allY (F : Nat) : AllY F := by
  induction F with
  | zero => exact ⟨fun _ _ _ _ _ _ _ => .out, fun _ _ _ _ _ => .out, fun _ _ _ _ _ => .out⟩
  | succ F ih =>
    have iz := allZ F
    refine ⟨?_, ?_, ?_⟩
    · intro i top b d ls r hi
      rw [stmtsS]
      refine .ite (fun _ => .ok (Nat.le_refl _)) (fun _ => (ih.stmt i b d r (by omega)).then fun s u => (ih.stmts i top b d _ u (by omega)).mono ?_)
      rw [szL_snoc]; exact Nat.le_refl _
    · intro i b d r hi
      rw [blockS]
      have ht : (i ++ tab4).length = i.length + 4 := by simp [tab4]
      refine .must fun u => .take fun _ v => .take fun _ w => .bind ((ih.stmts (i ++ tab4) false (b + 1) d [] w (by omega)).mono (by show 0 ≤ _; omega)) fun l q => .bind (takeS_z _ q) fun _ o => .ok (by omega)
    · intro i b d r hi
      rw [stmtS]
      refine .ite (fun h => .ite (fun _ => .bad) (fun _ => .tl (isS_pos h) (.take fun t u => .must fun v => .bind (m := fun ns => 10000000 + 2 * (hdT r).length + 10000000 + 2 * t.text.length + 10000000 + pz ns) (.ite (fun _ => ?_) (fun _ => .ok (by show _ + 0 ≤ _; omega))) fun ns w => .must fun q => (ih.block i b (d + 1) q (by omega)).then fun l o => .ok ?_))) (fun _ => .ite (fun h => .tl (isS_pos h) ((iz.expr 0 _).then fun x u => (ih.block i b d u (by omega)).then fun l v => .ite (fun he => .tl (isS_pos he) ((ih.block i b d _ (by omega)).then fun m w => .ok ?_)) (fun _ => .ok ?_))) (fun _ => .ite (fun h => .tl (isS_pos h) (.take fun t u => .must fun v => (iz.expr 0 v).then fun x w => (ih.block i b d w (by omega)).then fun l q => .ok ?_)) (fun _ => (smallS_z F b d i r).then fun s u => .bind (takeS_z 6 u) fun _ v => .ok ?_)))
      · exact ((paramS_z F [] v).add _).mono (by show _ + 0 ≤ _; omega)
      · have e : sz i (.mk 6 t.text ns .zero l []) = ([[100, 101, 102, 32], t.text, [40], joinT ns, [41]] ++ ([[58, 10]] ++ stWs l (i ++ tab4)) : Pcs).flatten.length := rfl
        have h1 := join_len ns
        have h2 : szL (i ++ tab4) l = (stWs l (i ++ tab4)).flatten.length := rfl
        show i.length + sz i _ ≤ _
        rw [e]
        simp only [List.flatten_append, List.length_append, List.flatten_cons, List.flatten_nil, List.length_cons, List.length_nil]
        omega
      · have e : sz i (.mk 7 [] [] x l m) = ([[105, 102, 32]] ++ exW x ++ ([[58, 10]] ++ stWs l (i ++ tab4)) ++ (if m.length > 0 then [i, wElse] ++ ([[58, 10]] ++ stWs m (i ++ tab4)) else []) : Pcs).flatten.length := rfl
        have h1 : mz x = (exW x).flatten.length + 50 := rfl
        have h2 : szL (i ++ tab4) l = (stWs l (i ++ tab4)).flatten.length := rfl
        have h3 : szL (i ++ tab4) m = (stWs m (i ++ tab4)).flatten.length := rfl
        have h4 : ((if m.length > 0 then [i, wElse] ++ ([[58, 10]] ++ stWs m (i ++ tab4)) else []) : Pcs).flatten.length ≤ i.length + 6 + szL (i ++ tab4) m := by
          split
          · simp only [List.flatten_append, List.length_append, List.flatten_cons, List.flatten_nil, List.length_cons, List.length_nil, wElse]; omega
          · simp
        show i.length + sz i _ ≤ _
        rw [e]
        simp only [List.flatten_append, List.length_append, List.flatten_cons, List.flatten_nil, List.length_cons, List.length_nil] at h4 ⊢
        omega
      · have e : sz i (.mk 7 [] [] x l []) = ([[105, 102, 32]] ++ exW x ++ ([[58, 10]] ++ stWs l (i ++ tab4)) ++ [] : Pcs).flatten.length := rfl
        have h1 : mz x = (exW x).flatten.length + 50 := rfl
        have h2 : szL (i ++ tab4) l = (stWs l (i ++ tab4)).flatten.length := rfl
        show i.length + sz i _ ≤ _
        rw [e]
        simp only [List.flatten_append, List.length_append, List.flatten_cons, List.flatten_nil, List.length_cons, List.length_nil]
        omega
      · have e : sz i (.mk 8 t.text [] x l []) = ([[102, 111, 114, 32], t.text, [32, 105, 110, 32]] ++ exW x ++ ([[58, 10]] ++ stWs l (i ++ tab4)) : Pcs).flatten.length := rfl
        have h1 : mz x = (exW x).flatten.length + 50 := rfl
        have h2 : szL (i ++ tab4) l = (stWs l (i ++ tab4)).flatten.length := rfl
        show i.length + sz i _ ≤ _
        rw [e]
        simp only [List.flatten_append, List.length_append, List.flatten_cons, List.flatten_nil, List.length_cons, List.length_nil]
        omega
      · show i.length + sz i s ≤ 0 + sz i s + 10000000 + _; omega
end Go.Proofs.YtmdegomejbpldaaGreatDoor
end
section
set_option linter.unusedVariables false
set_option linter.unusedSimpArgs false
set_option maxRecDepth 20000
namespace Go.Proofs.YtmdegomejbpldaaGreatDoor
open Go Go.Ab
def laysJoin_ren : Go.Shelf.Ren := ⟨fun | 156 => 24 | 165 => 47 | 166 => 21 | 169 => 9 | 240 => 38 | 241 => 66 | 276 => 62 | 277 => 80 | n => n, fun | 31 => 33 | 9 => 9 | 3 => 3 | 4 => 4 | 0 => 0 | 20 => 20 | 72 => 43 | 76 => 68 | 70 => 41 | 37 => 39 | 75 => 67 | 127 => 60 | 164 => 92 | 5 => 5 | 80 => 47 | n => n, fun | n => n⟩
theorem laysJoin : Go.Proofs.Lays.n156 Tryz.prog laysJoin_ren := {
  mixed := by kernel_rfl
  f156 := Tryz.func24.trans (congrArg some (by kernel_rfl))
  f165 := Tryz.func47.trans (congrArg some (by kernel_rfl))
  f166 := Tryz.func21.trans (congrArg some (by kernel_rfl))
  f169 := Tryz.func9.trans (congrArg some (by kernel_rfl))
  f240 := Tryz.func38.trans (congrArg some (by kernel_rfl))
  f241 := Tryz.func66.trans (congrArg some (by kernel_rfl))
  f276 := Tryz.func62.trans (congrArg some (by kernel_rfl))
  f277 := Tryz.func80.trans (congrArg some (by kernel_rfl))
  t0 := Tryz.underlying0
  a0 := Tryz.isAgg0
  z0 := Tryz.sizeOf0
  v0 := Tryz.zeroValue0
  t3 := Tryz.underlying3
  a3 := Tryz.isAgg3
  z3 := Tryz.sizeOf3
  v3 := Tryz.zeroValue3
  t4 := Tryz.underlying4
  a4 := Tryz.isAgg4
  z4 := Tryz.sizeOf4
  v4 := Tryz.zeroValue4
  t9 := Tryz.underlying9
  a9 := Tryz.isAgg9
  z9 := Tryz.sizeOf9
  v9 := Tryz.zeroValue9
  t20 := Tryz.underlying20
  a20 := Tryz.isAgg20
  z20 := Tryz.sizeOf20
  v20 := Tryz.zeroValue20
  t31 := Tryz.underlying33
  a31 := Tryz.isAgg33
  z31 := Tryz.sizeOf33
  v31 := Tryz.zeroValue33
  t37 := Tryz.underlying39
  a37 := Tryz.isAgg39
  z37 := Tryz.sizeOf39
  v37 := Tryz.zeroValue39
  t70 := Tryz.underlying41
  a70 := Tryz.isAgg41
  z70 := Tryz.sizeOf41
  v70 := Tryz.zeroValue41
  t72 := Tryz.underlying43
  a72 := Tryz.isAgg43
  z72 := Tryz.sizeOf43
  v72 := Tryz.zeroValue43
  t75 := Tryz.underlying67
  a75 := Tryz.isAgg67
  z75 := Tryz.sizeOf67
  v75 := Tryz.zeroValue67
  t76 := Tryz.underlying68
  a76 := Tryz.isAgg68
  z76 := Tryz.sizeOf68
  v76 := Tryz.zeroValue68
  t127 := Tryz.underlying60
  a127 := Tryz.isAgg60
  z127 := Tryz.sizeOf60
  v127 := Tryz.zeroValue60
  t164 := Tryz.underlying92
  a164 := Tryz.isAgg92
  z164 := Tryz.sizeOf92
  v164 := Tryz.zeroValue92 }
theorem extraJoin : Go.Proofs.Builder.Extra Tryz.prog laysJoin_ren := {
  sizeBuilder := by kernel_rfl
  liesBuilder := by kernel_rfl
  t5 := Tryz.underlying5
  a5 := Tryz.isAgg5
  z5 := Tryz.sizeOf5
  v5 := Tryz.zeroValue5
  infoByte := by kernel_rfl
  cellsByte := by kernel_rfl
  sizeByte := by kernel_rfl
  neB5 := by decide }
theorem toldB {cx : Cx} {f : FuncId} {args : List AV} {res : AV} (he : Enters cx.P f) (hf : Free true res)
    (h : ∀ r w vs, Inv cx r [] w → VRels r w vs args → ∃ v, (∀ w', VRel r w' v res) ∧ Calls cx.P f vs w fun e w' => e = .returned v ∧ RowKit.Below w.heap.size w w') : Calc cx f args res :=
  calc_of hf ⟨he, fun r w vs hi hv => by
    obtain ⟨v, h1, h2⟩ := h r w vs hi hv
    refine h2.mono fun e w' ⟨he, hb⟩ => ?_
    subst he
    obtain ⟨q1, q2⟩ := hi.grown (w' := w') hb.block hb.size hb.os hb.output hb.tape
    exact ⟨.ret res, [], r, ⟨res, rfl, .refl hf⟩, h1 _, q1, q2⟩⟩
theorem joinT_eq (ns : List (List UInt8)) : joinT ns = Lib.join ns [44, 32] := by
  cases ns with
  | nil => rfl
  | cons x r =>
    rw [Lib.join_cons]
    show x ++ r.flatMap (fun t => [44, 32] ++ t) = x ++ (r.map ([44, 32] ++ ·)).flatten
    rw [List.flatMap_def]
theorem Join_ok (ns : List (List UInt8)) (h1 : ns.length ≤ 800000) (h2 : (joinT ns).length ≤ 140737488355328) : Calc cx 24 [.sl true false 1 (texts ns), .str [44, 32]] (.str (joinT ns)) :=
  toldB (fun a w => Tryz.call24 a w) .str fun r w vs hi hv => by
    obtain ⟨hs, hv⟩ := hv
    have g0 := hv 0 (by simp)
    have g1 := hv 1 (by simp)
    have hvs : vs = #[vs.getD 0 undef, vs.getD 1 undef] := by
      have hs : vs.size = 2 := hs
      refine Array.ext (by simp [hs]) fun i h1 h2 => ?_
      match i, h1 with
      | 0, h1 => simp [Array.getD, h1]
      | 1, h1 => simp [Array.getD, h1]
      | i + 2, h1 => omega
    generalize vs.getD 0 undef = a at g0 hvs
    generalize vs.getD 1 undef = b at g1 hvs
    subst hvs
    have g1 : VRel r w b (.str [44, 32]) := g1
    have g0 : VRel r w a (.sl true false 1 (texts ns)) := g0
    refine ⟨.string ⟨(joinT ns).toArray⟩, fun w' => .str rfl, ?_⟩
    cases g1 with
    | @str sep _ hsep =>
    generalize hx : texts ns = xs at g0
    cases g0 with
    | @sl0 _ _ _ ad cap _ =>
      have hn : ns = [] := by simpa [texts] using hx
      subst hn
      exact (Any.strings_Join_none laysJoin extraJoin ad cap sep w).mono fun e w' ⟨he, hw⟩ => ⟨he, hw ▸ RowKit.Below.refl _ _⟩
    | @sl _ _ _ bk o _ n cap hn hc0 hf hI hS hsz f hc hvv =>
      subst hx
      have hl : (texts ns).length = ns.length := texts_len ns
      have key : ∀ (j : Nat) (hj : j < ns.length), f j 0 = .string ⟨ns[j].toArray⟩ := fun j hj => by
        have hj' : j < (texts ns).length := by omega
        have ht : (texts ns)[j] = .str ns[j] := by simp [texts]
        have h0 : 0 < (AV.cells ((texts ns)[j]'hj')).length := by rw [ht]; exact Nat.zero_lt_one
        have hv := hvv j hj' 0 h0
        have hv : VRel r w (f j 0) (.str ns[j]) := by
          have e : (AV.cells ((texts ns)[j]'hj'))[0]'h0 = .str ns[j] := by simp [ht, AV.cells]
          rwa [e] at hv
        generalize f j 0 = q at hv
        cases hv with
        | @str s _ hs =>
          congr 1
          cases s with
          | mk d => rw [← hs]
      have hxs : ((ns.map fun l => (⟨l.toArray⟩ : ByteArray)).map (·.data.toList)) = ns := by
        rw [List.map_map]
        conv => rhs; rw [← List.map_id ns]
        rfl
      have hJ := Any.strings_Join laysJoin extraJoin bk o cap (ns.map fun l => (⟨l.toArray⟩ : ByteArray)) sep w (fun j x hx => by
          rw [List.getElem?_map] at hx
          have hj : j < ns.length := by
            rcases Nat.lt_or_ge j ns.length with h | h
            · exact h
            · rw [List.getElem?_eq_none h] at hx; cases hx
          rw [List.getElem?_eq_getElem hj] at hx
          cases hx
          have := hc j (by omega) 0 (by omega)
          rw [Nat.mul_one, Nat.add_zero] at this
          rw [this, key j hj])
        (hi.Ilt bk hI) (by simp; omega) (by simp; omega) (by rw [hxs, hsep, ← joinT_eq]; exact h2)
      rw [hxs, hsep, ← joinT_eq, List.length_map] at hJ
      have hnn : n = ns.length := by omega
      subst hnn
      exact hJ
end Go.Proofs.YtmdegomejbpldaaGreatDoor
end
section
set_option linter.unusedVariables false
set_option linter.unusedSimpArgs false
set_option maxRecDepth 20000
namespace Go.Proofs.YtmdegomejbpldaaGreatDoor
open Go Go.Ab
theorem wL_le (K : Nat) : ∀ l : List Tok, (∀ t ∈ l, wT t ≤ K) → wL l ≤ K * l.length
  | [], _ => Nat.zero_le _
  | t :: r, h => by
    have h1 := wL_le K r fun x hx => h x (List.mem_cons_of_mem _ hx)
    have h2 := h t (List.mem_cons_self ..)
    show wT t + wL r ≤ K * (r.length + 1)
    rw [Nat.mul_add]; omega
theorem srcT_len (s : List UInt8) : (srcT (parseS s).1).length ≤ 70000000000000 := by
  have hg := splitS_good s
  have hw := splitS_w s
  have hz := splitS_size s
  have hs : (splitS s).2.1 = 0 → s.length ≤ 6000 := by
    unfold splitS
    split
    · intro h; cases h
    · intro _; omega
  unfold parseS
  generalize splitS s = y at hg hw hz hs ⊢
  obtain ⟨l, f⟩ := y
  have hz : l.length ≤ 24040 := hz
  simp only
  by_cases hf : f.1 ≠ 0
  · rw [if_pos hf]; exact Nat.zero_le _
  rw [if_neg hf]
  have hs : s.length ≤ 6000 := hs (by simpa using hf)
  have hl : wL l ≤ 10012021 * l.length := wL_le _ l fun t ht => by
    have h1 := (hg t ht).size
    have h2 := (hw t ht).num
    have h3 := Lib.itoa_length_le (t.num : Int) (by omega) (by omega)
    show 10000000 + 2 * t.text.length + (Lib.itoa t.num).length ≤ _
    omega
  have hY := (allY (fuelS l)).stmts [] true 0 0 [] l (by unfold fuelS; simp; omega)
  cases hx : stmtsS (fuelS l) true 0 0 [] l with
  | out => exact Nat.zero_le _
  | bad k u => exact Nat.zero_le _
  | ok x u =>
    have h := hY x u hx
    have e : szL [] [] = 0 := rfl
    have e2 : szL [] x = (srcT x).length := rfl
    rw [e, e2] at h
    show (srcT x).length ≤ _
    omega
theorem stWs_mem (i : List UInt8) : ∀ (l : List St) (s : St), s ∈ l → (stW s i).flatten.length ≤ (stWs l i).flatten.length
  | x :: r, s, h => by
    rw [stWs, List.flatten_append, List.length_append, List.flatten_append, List.length_append]
    rcases List.mem_cons.1 h with rfl | h
    · omega
    · have := stWs_mem i r s h; omega
theorem allJ_of {B : Nat} {s : St} (h : Ws 800000 s) : ∀ i, (stW s i).flatten.length ≤ B → AllJ (fun ns => ns.length ≤ 800000 ∧ (joinT ns).length ≤ B) s := by
  induction h with
  | @mk k t ns x b e h1 h2 h3 h4 h5 h6 ihb ihe =>
    intro i hl
    match k, h6, hl with
    | 1, h6, _ => rw [h6.2.2.2.1, h6.2.2.2.2]; exact .mk (fun h => by cases h) nofun nofun
    | 2, h6, _ => rw [h6.2.2.2.1, h6.2.2.2.2]; exact .mk (fun h => by cases h) nofun nofun
    | 3, h6, _ => rw [h6.2.2.2.1, h6.2.2.2.2]; exact .mk (fun h => by cases h) nofun nofun
    | 4, h6, _ => rw [h6.2.2.2.1, h6.2.2.2.2]; exact .mk (fun h => by cases h) nofun nofun
    | 5, h6, _ => rw [h6.2.2.2.1, h6.2.2.2.2]; exact .mk (fun h => by cases h) nofun nofun
    | 6, h6, hl =>
      have hl : ([[100, 101, 102, 32], t, [40], joinT ns, [41]] ++ ([[58, 10]] ++ stWs b (i ++ tab4)) : Pcs).flatten.length ≤ B := hl
      simp only [List.flatten_append, List.length_append, List.flatten_cons, List.flatten_nil, List.length_cons, List.length_nil] at hl
      rw [h6.2.2.2]
      exact .mk (fun _ => ⟨h1, by omega⟩) (fun s hs => ihb s hs (i ++ tab4) (by have := stWs_mem (i ++ tab4) b s hs; omega)) nofun
    | 7, h6, hl =>
      have hl : ([[105, 102, 32]] ++ exW x ++ ([[58, 10]] ++ stWs b (i ++ tab4)) ++ (if e.length > 0 then [i, wElse] ++ ([[58, 10]] ++ stWs e (i ++ tab4)) else []) : Pcs).flatten.length ≤ B := hl
      refine .mk (fun h => by cases h) (fun s hs => ihb s hs (i ++ tab4) ?_) (fun s hs => ihe s hs (i ++ tab4) ?_)
      · have := stWs_mem (i ++ tab4) b s hs
        simp only [List.flatten_append, List.length_append, List.flatten_cons, List.flatten_nil, List.length_cons, List.length_nil] at hl
        omega
      · have := stWs_mem (i ++ tab4) e s hs
        have hp : e.length > 0 := List.length_pos_of_mem hs
        rw [if_pos hp] at hl
        simp only [List.flatten_append, List.length_append, List.flatten_cons, List.flatten_nil, List.length_cons, List.length_nil] at hl
        omega
    | 8, h6, hl =>
      have hl : ([[102, 111, 114, 32], t, [32, 105, 110, 32]] ++ exW x ++ ([[58, 10]] ++ stWs b (i ++ tab4)) : Pcs).flatten.length ≤ B := hl
      simp only [List.flatten_append, List.length_append, List.flatten_cons, List.flatten_nil, List.length_cons, List.length_nil] at hl
      rw [h6.2.2.2]
      exact .mk (fun h => by cases h) (fun s hs => ihb s hs (i ++ tab4) (by have := stWs_mem (i ++ tab4) b s hs; omega)) nofun
    | 0, h6, _ => exact h6.elim
    | k + 9, h6, _ => exact h6.elim
theorem CanonF_ok (s : List UInt8) : Calc cx 5 [.str s] (canonAV (canonS s)) := by
  have hw := parseS_w s
  have hl := srcT_len s
  exact Canon_ok (J := fun ns => ns.length ≤ 800000 ∧ (joinT ns).length ≤ 70000000000000) (fun ns h => Join_ok ns h.1 (by have := h.2; omega)) s (fun x hx => allJ_of (hw.2 x hx) [] (by
    have := stWs_mem [] _ x hx
    have e : (srcT (parseS s).1).length = (stWs (parseS s).1 []).flatten.length := rfl
    omega)) hl
end Go.Proofs.YtmdegomejbpldaaGreatDoor
end
section
set_option linter.unusedVariables false
set_option linter.unusedSimpArgs false
set_option maxRecDepth 20000
set_option maxHeartbeats 4000000
namespace Go.Proofs.YtmdegomejbpldaaGreatDoor
open Go Go.Ab
theorem parse_back (s : List UInt8) (h : (parseS (srcT (parseS s).1)).2.1 = 0) : (parseS (srcT (parseS s).1)).1 = (parseS s).1 := by
  have hw := (parseS_w s).2
  obtain ⟨T, f, hT⟩ : ∃ T f, splitS (srcT (parseS s).1) = (T, f) := ⟨_, _, rfl⟩
  obtain ⟨hf, h1⟩ := parse_okE hT h
  have hb := split_back hw hT hf
  obtain ⟨k, t', hk1, hk2, ht', hk⟩ := topM ben_nil rfl (fuelS T) (fuelS T) [] T (bareL T) _ _ (Nat.le_refl _) h1 (by
    rw [List.append_nil]
    unfold bareL
    rw [List.map_map]
    rfl)
  have ht2 : t' = [] := by cases t' with | nil => rfl | cons => cases ht'
  subst ht2
  have hfin : stmtsS (fuelS T - k) true 0 0 (parseS (srcT (parseS s).1)).1 [] = .ok (parseS (srcT (parseS s).1)).1 [] := by
    obtain ⟨m, hm⟩ : ∃ m, fuelS T - k = m + 1 := ⟨fuelS T - k - 1, by unfold fuelS at *; omega⟩
    rw [hm]; rfl
  rw [hfin, hb] at hk
  exact read_back hw hk
theorem SyntaxBack_ok (s : List UInt8) (hs : s.length ≤ 1048576) : Calc cx 3 [.str s] (.bool true) :=
  pure_intro (fun a w => Tryz.call3 a w) Tryz.func3 rfl Tryz.ntmps3 rfl .bool fun B => by
    have hB := syntaxBegun_ok
    have h1 := CanonF_ok s
    have hP := Parse_ok s
    obtain ⟨l, e, q, hp⟩ : ∃ l e q, parseS s = (l, (e, q)) := ⟨_, _, _, rfl⟩
    have hb := parse_back s
    have hS := SameStmts_same (st := true) (st' := true) (fl := false) (fl' := false) s
    unfold canonS at h1
    rw [hp] at h1 hP hb hS
    simp only at h1 hb hS
    by_cases he : e = 0
    case neg =>
      rw [if_pos he] at h1
      have e0 : ((e : Int) != 0) = true := by simpa using he
      refine pa [.v (.bool true), .b false, .v (canonAV ([], (e, q))), .b true] rfl ?_ ?_
      · (repeat' with_reducible apply AllP_cons) <;> try exact aC
        · exact ⟨_, hB, .nil _⟩
        · exact ⟨_, h1, .cons (.refl .str) (.nil _)⟩
      exact S_retc .bool rfl trivial rfl
    subst he
    rw [if_neg (by decide)] at h1
    by_cases hc : 6000 < (srcT l).length ∨ (parseS (srcT l)).2.1 ≠ 0
    · rw [if_pos hc] at h1
      refine pa [.v (.bool true), .b false, .v (canonAV ([], (2, 0))), .b true] rfl ?_ ?_
      · (repeat' with_reducible apply AllP_cons) <;> try exact aC
        · exact ⟨_, hB, .nil _⟩
        · exact ⟨_, h1, .cons (.refl .str) (.nil _)⟩
      exact S_retc .bool rfl trivial rfl
    · rw [if_neg hc] at h1
      have hc2 : (parseS (srcT l)).2.1 = 0 := by
        rcases Nat.eq_zero_or_pos (parseS (srcT l)).2.1 with h | h
        · exact h
        · exact absurd (.inr (by omega)) hc
      have hc1 : ¬ 6000 < (srcT l).length := fun h => hc (.inl h)
      have hb := hb hc2
      have hP2 := Parse_ok (srcT l)
      have h2 := CanonF_ok (srcT l)
      obtain ⟨l2, e2, q2, hp2⟩ : ∃ l2 e2 q2, parseS (srcT l) = (l2, (e2, q2)) := ⟨_, _, _, rfl⟩
      unfold canonS at h2
      rw [hp2] at h2 hP2 hb hc2
      simp only at h2 hb hc2
      subst hb
      subst hc2
      rw [if_neg (by decide), if_neg (by rintro (h | h); exact hc1 h; rw [hp2] at h; exact h rfl)] at h2
      refine pa [.v (.bool true), .b false, .v (canonAV (srcT l2, (0, 0))), .b false, .v (parseAV (l2, (0, q))), .v (parseAV (l2, (0, q2))), .v (canonAV (srcT l2, (0, 0))), .b true, .b true, .b true, .v (.bool true), .b true] rfl ?_ ?_
      · (repeat' with_reducible apply AllP_cons) <;> try exact aC
        · exact ⟨_, hB, .nil _⟩
        · exact ⟨_, h1, .cons (.refl .str) (.nil _)⟩
        · exact ⟨_, hP, .cons (.refl .str) (.nil _)⟩
        · exact ⟨_, hP2, .cons (.refl .str) (.nil _)⟩
        · exact ⟨_, h2, .cons (.refl .str) (.nil _)⟩
        · exact ⟨_, hS, .cons (.refl (stsA_free l2)) (.cons (.refl (stsA_free l2)) (.nil _))⟩
      exact S_retc .bool rfl trivial (by show AV.bool (srcT l2 == srcT l2) = .bool true; rw [beq_self_eq_true])
end Go.Proofs.YtmdegomejbpldaaGreatDoor
end
