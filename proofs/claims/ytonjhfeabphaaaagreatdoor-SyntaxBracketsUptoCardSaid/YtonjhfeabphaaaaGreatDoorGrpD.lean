/-
  Texts of our own, in one file.
-/
import Derived.Test.YtonjhfeabphaaaaGreatDoorGrpC
import Derived.Lib.ItoaNum
section
set_option linter.unusedVariables false
set_option linter.unusedSimpArgs false
set_option maxRecDepth 20000
namespace Go.Proofs.YtonjhfeabphaaaaGreatDoor
open Go Go.Ab
section
variable {z z' : List Tok} {Q : Prop} {e : Nat} {α β : Type} {R : α → α → Prop} {R' : β → β → Prop} {m m' : Nat} {r r' : List Tok}
theorem Sm.toF {x x' : Pr α} (h : Sm z z' Q e R m r r' x x') : Sm z z' False e R m r r' x x' :=
 ⟨h.1, fun hL y u hx ⟨a, h1, h2⟩ => h.2 hL y u hx ⟨a, h1, fun h => (h2 h).elim⟩⟩
theorem Sm.bindF {x x' : Pr α} {f f' : α → List Tok → Pr β} (hr : ∀ y, R y y) (h : Sm z z' False e R m r r' x x') (hf : ∀ y y' u u', R y y' → Sm z z' Q e R' (m' + 1) u u' (f y u) (f' y' u')) : Sm z z' Q e R' (m + (m' + 1)) r r' (x.bind f) (x'.bind f') := by
 cases x with
 | out => exact .out
 | bad k u => exact .bad
 | ok y u =>
  refine ⟨fun w v hw => ?_, fun hL w v hw ha => ?_⟩
  ·have h1 := h.1 y u rfl
   have h2 := (hf y y u u (hr y)).1 w v hw
   exact ⟨h2.1.trans h1.1, by omega⟩
  ·have h2 := (hf y y u u (hr y)).1 w v hw
   obtain ⟨a, hav, haq⟩ := ha
   obtain ⟨b, hb⟩ := h2.1
   have hb0 : b ≠ [] := by
    rintro rfl
    have := congrArg List.length hb
    simp only [List.nil_append] at this
    omega
   rcases h.2 hL y u rfl ⟨b ++ a, by rw [← hb, hav, List.append_assoc], fun h => hb0 (List.append_eq_nil_iff.1 h).1⟩ with ⟨y', u', hx', hR, hL'⟩ | ⟨he, k, hx'⟩
   ·subst hx'
    exact (hf y y' u u' hR).2 hL' w v hw ⟨a, hav, haq⟩
   ·subst hx'; exact .inr ⟨he, k, rfl⟩
theorem Sm.iteF {b b' : Prop} [Decidable b] [Decidable b'] {x x' y y' : Pr α} (hB : Ben z z' False) (hb : Hd r r' → (b ↔ b')) (h1 : b → Sm z z' False e R m r r' x x') (h2 : ¬ b → Sm z z' False e R m r r' y y') : Sm z z' False e R m r r' (if b then x else y) (if b' then x' else y') := by
 have key : ∀ w v, (if b then x else y) = .ok w v → v <:+ r ∧ v.length + m ≤ r.length := fun w v h => by
  by_cases hc : b
  ·rw [if_pos hc] at h; exact (h1 hc).1 w v h
  ·rw [if_neg hc] at h; exact (h2 hc).1 w v h
 refine ⟨key, fun hL w v h ha => ?_⟩
 have hk := key w v h
 have hz : z.length < r.length := by
  obtain ⟨a, hav, haq⟩ := ha
  have := congrArg List.length hav
  rw [List.length_append] at this
  have : 0 < a.length := List.length_pos_iff.2 haq
  omega
 have hbb := hb (hL.hd hB hz).1
 by_cases hc : b
 ·rw [if_pos hc] at h; rw [if_pos (hbb.1 hc)]; exact (h1 hc).2 hL w v h ha
 ·rw [if_neg hc] at h; rw [if_neg (fun h => hc (hbb.2 h))]; exact (h2 hc).2 hL w v h ha
end
section
variable {z z' : List Tok}
theorem paramS_m (hB : Ben z z' False) : ∀ (F F' : Nat) (ns : List (List UInt8)) (r r' : List Tok), F ≤ F' → Sm z z' False 0 Eq 1 r r' (paramS F ns r) (paramS F' ns r')
 | 0, _, _, _, _, _ => .out
 | F + 1, F', ns, r, r', hF => by
  obtain ⟨F', rfl⟩ : ∃ G, F' = G + 1 := ⟨F' - 1, by omega⟩
  rw [paramS, paramS]
  refine .iteF hB (fun h => by rw [h.k, h.t]) (fun _ => .bad) (fun _ => Sm.bind (m := 1) (m' := 0) (fun _ => ⟨rfl, rfl⟩) (takeS_m hB 1) fun t t' u u' ht => ?_)
  rw [ht.1]
  exact .iteF hB (fun h => by rw [h.is]) (fun h => (Sm.tl hB (isS_pos h) (paramS_m hB F F' _ _ _ (by omega))).mono (by omega)) (fun _ => .ok rfl)
theorem namesS_m (hB : Ben z z' False) : ∀ (F F' : Nat) (ns : List (List UInt8)) (r r' : List Tok), F ≤ F' → Sm z z' False 0 Eq 1 r r' (namesS F ns r) (namesS F' ns r')
 | 0, _, _, _, _, _ => .out
 | F + 1, F', ns, r, r', hF => by
  obtain ⟨F', rfl⟩ : ∃ G, F' = G + 1 := ⟨F' - 1, by omega⟩
  rw [namesS, namesS]
  refine .iteF hB (fun h => by rw [h.k, h.t]) (fun _ => .bad) (fun _ => Sm.bind (m := 1) (m' := 0) (fun _ => ⟨rfl, rfl⟩) (takeS_m hB 3) fun t t' u u' ht => ?_)
  rw [ht.1]
  exact .iteF hB (fun h => by rw [h.is]) (fun h => (Sm.tl hB (isS_pos h) (namesS_m hB F F' _ _ _ (by omega))).mono (by omega)) (fun _ => .ok rfl)
theorem smallS_m (hB : Ben z z' False) (F F' b d : Nat) (r r' : List Tok) (hF : F ≤ F') : Sm z z' False 0 Eq 1 r r' (smallS F b d r) (smallS F' b d r') := by
 have hA := allM hB F F' hF 0
 have exp : ∀ (r r' : List Tok) (g : Ex → St), Sm z z' False 0 Eq (1 + 0) r r' ((exprS F 0 r).bind fun x r => .ok (g x) r) ((exprS F' 0 r').bind fun x r => .ok (g x) r) := fun r r' g => .bind (fun _ => rfl) (hA.expr 0 r r' (by omega)) fun y y' u u' hy => by subst hy; exact .ok rfl
 unfold smallS
 refine .iteF hB (fun h => by rw [h.is]) (fun h => .tl hB (isS_pos h) (.ok rfl)) (fun _ => .iteF hB (fun h => by rw [h.is]) (fun h => ?_) (fun _ => .iteF hB (fun h => by rw [h.is]) (fun h => ?_) (fun _ => .iteF hB (fun h => by rw [h.n]) (fun h => ?_) (fun _ => exp r r' _))))
 ·by_cases hd : d = 0
  ·rw [if_pos hd]; exact .bad
  ·rw [if_neg hd, if_neg hd]
   exact .tl hB (isS_pos h) (.iteF hB (fun h => by rw [h.k]) (fun _ => (exp _ _ _).mono (by omega)) (fun _ => .ok rfl))
 ·unfold loadS
  by_cases hb : b > 0
  ·rw [if_pos hb]; exact .bad
  ·rw [if_neg hb, if_neg hb]
   refine Sm.mono (m := (1 + (1 + (1 + (1 + (1 + 0))))) + 1) (.tl hB (isS_pos h) ?_) (by omega)
   exact .bind (fun _ => trivial) (mustS_m hB _) fun _ _ u u' _ => .bind (fun _ => ⟨rfl, rfl⟩) (takeS_m hB 3) fun t t' v v' ht => .bind (fun _ => trivial) (mustS_m hB _) fun _ _ w w' _ => .bind (fun _ => rfl) (namesS_m hB F F' [] w w' hF) fun ns ns' q q' hn => .bind (fun _ => trivial) (mustS_m hB _) fun _ _ o o' _ => by
    subst hn; rw [ht.1]; exact .ok rfl
 ·have hp := nameS_pos h
  have e1 := List.length_tail (l := r)
  have e2 := List.length_tail (l := r.tail)
  refine .hdw (x1 := (exprS F' 0 r'.tail.tail).bind fun x r' => .ok (.mk 3 (hdT r) [] x [] []) r') hB ?_ (fun h => by rw [h.t])
  refine Sm.mono (m := (1 + 0) + 1 + 1) ?_ (by omega)
  exact .tl hB (by omega) (.tl hB (by omega) (exp _ _ _))
structure AllN (z z' : List Tok) (F F' : Nat) : Prop where
 stmts : ∀ b d l r r', Sm z z' False 0 Eq 0 r r' (stmtsS F false b d l r) (stmtsS F' false b d l r')
 block : ∀ b d r r', Sm z z' True 0 Eq 1 r r' (blockS F b d r) (blockS F' b d r')
 stmt : ∀ b d r r', Sm z z' True 0 Eq 1 r r' (stmtS F b d r) (stmtS F' b d r')
theorem allN (hB : Ben z z' False) (hE : isS wElse z' = false) (F : Nat) : ∀ F', F ≤ F' → AllN z z' F F' := by
 induction F with
 | zero => intro _ _; exact ⟨fun _ _ _ _ _ => .out, fun _ _ _ _ => .out, fun _ _ _ _ => .out⟩
 | succ F ih =>
  intro F' hF
  obtain ⟨F', rfl⟩ : ∃ G, F' = G + 1 := ⟨F' - 1, by omega⟩
  have ih := ih F' (by omega)
  have hA := allM hB F F' (by omega) 0
  refine ⟨?_, ?_, ?_⟩
  ·intro b d l r r'
   rw [stmtsS, stmtsS]
   refine .iteF hB (fun h => by show (hdK r == 8) = true ↔ (hdK r' == 8) = true; rw [h.k]) (fun _ => .ok rfl) (fun _ => ?_)
   exact Sm.mono (m := 1 + 0) (.bind (fun _ => rfl) (ih.stmt b d r r').toF fun y y' u u' hy => by subst hy; exact ih.stmts b d _ u u') (by omega)
  ·intro b d r r'
   rw [blockS, blockS]
   refine Sm.mono (m := 1 + (1 + (1 + (0 + (0 + 1))))) ?_ (by omega)
   exact .bind (fun _ => trivial) (mustS_m hB _) fun _ _ u u' _ => .bind (fun _ => ⟨rfl, rfl⟩) (takeS_m hB _) fun _ _ v v' _ => .bind (fun _ => ⟨rfl, rfl⟩) (takeS_m hB _) fun _ _ w w' _ => .bindF (fun _ => rfl) (ih.stmts _ _ [] w w') fun y y' q q' hy =>
    Sm.mono (m := 1 + 0) (.bind (fun _ => ⟨rfl, rfl⟩) (takeS_m hB _) fun _ _ o o' _ => by subst hy; exact .ok rfl) (by omega)
  ·intro b d r r'
   rw [stmtS, stmtS]
   refine .ite hB (fun h => by rw [h.is]) (fun h => ?_) (fun _ => .ite hB (fun h => by rw [h.is]) (fun h => ?_) (fun _ => .ite hB (fun h => by rw [h.is]) (fun h => ?_) (fun _ => ?_)))
   ·by_cases hb : b > 0
    ·rw [if_pos hb]; exact .bad
    ·rw [if_neg hb, if_neg hb]
     refine Sm.mono (m := (1 + (1 + (0 + (1 + 1)))) + 1) (.tl hB (isS_pos h) ?_) (by omega)
     refine .bind (fun _ => ⟨rfl, rfl⟩) (takeS_m hB 1) fun t t' u u' ht => .bind (fun _ => trivial) (mustS_m hB _) fun _ _ v v' _ => .bindF (R := Eq) (fun _ => rfl) ?_ fun ns ns' w w' hn => Sm.mono (m := 1 + (1 + 0)) (.bind (fun _ => trivial) (mustS_m hB _) fun _ _ q q' _ => .bind (fun _ => rfl) (ih.block b (d + 1) q q') fun l l' o o' hl => by subst hn; subst hl; rw [ht.1]; exact .ok rfl) (by omega)
     exact .iteF hB (fun h => by rw [h.k]) (fun _ => (paramS_m hB F F' [] v v' (by omega)).mono (by omega)) (fun _ => .ok rfl)
   ·refine Sm.mono (m := (1 + (0 + 1)) + 1) (.tl hB (isS_pos h) ?_) (by omega)
    refine .bindF (fun _ => rfl) (hA.expr 0 _ _ (by omega)) fun x x' u u' hx => Sm.mono (m := 1 + 0) (.bind (fun _ => rfl) (ih.block b d u u') fun l l' v v' hl => ?_) (by omega)
    subst hx; subst hl
    refine .ite0 hB (fun h => by rw [h.is]) (fun _ h1 h2 => ?_) (fun h => ?_) (fun _ => .ok rfl)
    ·unfold isS at hE ⊢
     rw [h1, h2, hE]; exact Bool.false_ne_true
    ·exact Sm.mono (m := (1 + 0) + 1) (.tl hB (isS_pos h) (.bind (fun _ => rfl) (ih.block b d _ _) fun l l' w w' hl => by subst hl; exact .ok rfl)) (by omega)
   ·refine Sm.mono (m := (1 + (1 + (1 + (0 + 1)))) + 1) (.tl hB (isS_pos h) ?_) (by omega)
    refine .bind (fun _ => ⟨rfl, rfl⟩) (takeS_m hB 1) fun t t' u u' ht => .bind (fun _ => trivial) (mustS_m hB _) fun _ _ v v' _ => .bindF (fun _ => rfl) (hA.expr 0 _ _ (by omega)) fun x x' w w' hx => Sm.mono (m := 1 + 0) (.bind (fun _ => rfl) (ih.block b d w w') fun l l' q q' hl => ?_) (by omega)
    subst hx; subst hl; rw [ht.1]; exact .ok rfl
   ·refine Sm.mono (m := 1 + (0 + 1)) ?_ (by omega)
    exact .bindF (fun _ => rfl) (smallS_m hB F F' b d r r' (by omega)) fun s s' u u' hs => Sm.mono (m := 1 + 0) (.bind (fun _ => ⟨rfl, rfl⟩) (takeS_m hB _) fun _ _ v v' _ => by subst hs; exact .ok rfl) (by omega)
end
end Go.Proofs.YtonjhfeabphaaaaGreatDoor
end
section
set_option linter.unusedVariables false
set_option linter.unusedSimpArgs false
set_option maxRecDepth 20000
namespace Go.Proofs.YtonjhfeabphaaaaGreatDoor
open Go Go.Ab
structure Rd where
 r : List Tok
 f : Flt
def Rd.bad (q : Rd) : Bool := q.f.1 != 0
def Rd.next (q : Rd) : Rd := ⟨q.r.tail, q.f⟩
def failR (e k : Nat) (q : Rd) : Rd := if q.bad then q else ⟨q.r, (k, placeS e q.r)⟩
def lkK (q : Rd) : Nat := if q.bad then 0 else hdK q.r
def lkT (q : Rd) : List UInt8 := if q.bad then [] else hdT q.r
def lkK1 (q : Rd) : Nat := if q.bad then 0 else hdK q.r.tail
def lkT1 (q : Rd) : List UInt8 := if q.bad then [] else hdT q.r.tail
def isR (l : List (List UInt8)) (q : Rd) : Bool := (lkK q == 4 || lkK q == 5) && l.contains (lkT q)
def signR (e : Nat) (s : List UInt8) (q : Rd) : Rd := if isR [s] q then q.next else failR e 1 q
def kindR (e k : Nat) (q : Rd) : List UInt8 × Rd := if lkK q = k then (lkT q, q.next) else ([], failR e 1 q)
def inR (e n : Nat) (q : Rd) : Rd := if n = 30 then failR e 2 q else q
def nameR (q : Rd) : Bool := lkK q == 1 && lkK1 q == 4 && lkT1 q == [61]
def wd (q : Rd) : List UInt8 := if lkK q = 5 then lkT q else []
def atomW (t : List UInt8) : Nat := if t == wFalse then 3 else if t == wTrue then 2 else 1
mutual
def exprR (e : Nat) : Nat → Nat → Rd → Option (Ex × Rd)
 | 0, _, q => if q.bad then some (.zero, q) else none
 | F + 1, n, q => levR e F 0 (n + 1) (inR e n q)
 termination_by structural F _ _ => F
def levR (e : Nat) : Nat → Nat → Nat → Rd → Option (Ex × Rd)
 | 0, _, _, q => if q.bad then some (.zero, q) else none
 | F + 1, k, n, q => if q.bad then some (.zero, q) else match k with
  | 2 => if isR [wNot] q then (levR e F 2 (n + 1) (inR e n q.next)).bind fun x => some (.mk 12 0 [] [x.1] [], x.2)
   else (levR e F 3 n q).bind fun x => if isR (binS 2) x.2 then (levR e F 3 n x.2.next).bind fun y => some (binE (lkT x.2) x.1 y.1, y.2) else some x
  | 5 => if isR [[45]] q then (levR e F 5 (n + 1) (inR e n q.next)).bind fun x => some (.mk 13 0 [] [x.1] [], x.2)
   else postA e F n q
  | k => (levR e F (k + 1) n q).bind fun x => loopR e F k n x.1 x.2
 termination_by structural F _ _ _ => F
def loopR (e : Nat) : Nat → Nat → Nat → Ex → Rd → Option (Ex × Rd)
 | 0, _, _, x, q => if q.bad then some (x, q) else none
 | F + 1, k, n, x, q => if isR (binS k) q then (levR e F (k + 1) n q.next).bind fun y => loopR e F k n (binE (lkT q) x y.1) y.2 else some (x, q)
 termination_by structural F _ _ _ _ => F
def postA (e : Nat) : Nat → Nat → Rd → Option (Ex × Rd)
 | 0, _, _ => none
 | F + 1, n, q => (atomR e F n q).bind fun x => postR e F n x.1 x.2
 termination_by structural F _ _ => F
def postR (e : Nat) : Nat → Nat → Ex → Rd → Option (Ex × Rd)
 | 0, _, x, q => if q.bad then some (x, q) else none
 | F + 1, n, x, q => if q.bad then some (x, q)
  else if isR [[91]] q then (exprR e F n q.next).bind fun y => postR e F n (.mk 11 0 [] [x, y.1] []) (signR e [93] y.2)
  else if isR [[40]] q then (callR e F n [x] [] q.next).bind fun y => postR e F n y.1 y.2
  else some (x, q)
 termination_by structural F _ _ _ => F
def callR (e : Nat) : Nat → Nat → List Ex → List (List UInt8) → Rd → Option (Ex × Rd)
 | 0, _, ks, ns, q => if q.bad then some (.mk 10 0 [] ks ns, q) else none
 | F + 1, n, ks, ns, q => if q.bad then some (.mk 10 0 [] ks ns, q)
  else if isR [[41]] q then some (.mk 10 0 [] ks ns, q.next)
  else callG e F n ks ns (if ks.length > 1 then signR e [44] q else q)
 termination_by structural F _ _ _ _ => F
def callG (e : Nat) : Nat → Nat → List Ex → List (List UInt8) → Rd → Option (Ex × Rd)
 | 0, _, _, _, _ => none
 | F + 1, n, ks, ns, q => if nameR q then (exprR e F n (if ns.contains (lkT q) then failR e 6 q else q).next.next).bind fun y => callR e F n (ks ++ [y.1]) (ns ++ [lkT q]) y.2
  else (exprR e F n (if ns.length > 0 then failR e 1 q else q)).bind fun y => callR e F n (ks ++ [y.1]) ns y.2
 termination_by structural F _ _ _ _ => F
def atomR (e : Nat) : Nat → Nat → Rd → Option (Ex × Rd)
 | 0, _, _ => none
 | F + 1, n, q =>
  if lkK q = 1 then some (.mk 6 0 (lkT q) [] [], q.next)
  else if lkK q = 2 then some (.mk 4 ((q.r.head?.map Tok.num).getD 0) [] [] [], q.next)
  else if lkK q = 3 then some (.mk 5 0 (lkT q) [] [], q.next)
  else if isR [wNone, wTrue, wFalse] q then some (.mk (atomW (lkT q)) 0 [] [] [], q.next)
  else if isR [[40]] q then (exprR e F n q.next).bind fun x => some (x.1, signR e [41] x.2)
  else if isR [[91]] q then listR e F n 7 [] [] q.next
  else if isR [[123]] q then dictR e F n [] q.next
  else some (.zero, failR e 1 q)
 termination_by structural F _ _ => F
def listR (e : Nat) : Nat → Nat → Nat → List UInt8 → List Ex → Rd → Option (Ex × Rd)
 | 0, _, kd, tx, ks, q => if q.bad then some (.mk kd 0 tx ks [], q) else none
 | F + 1, n, kd, tx, ks, q => if q.bad then some (.mk kd 0 tx ks [], q)
  else if isR [[93]] q then some (.mk kd 0 tx ks [], signR e [93] q)
  else if ks.length = 1 ∧ isR [wFor] q = true then eachR e F n ks (kindR e 1 q.next).1 (signR e wIn (kindR e 1 q.next).2)
  else (exprR e F n (if ks.length > 0 then signR e [44] q else q)).bind fun y => listR e F n kd tx (ks ++ [y.1]) y.2
 termination_by structural F _ _ _ _ _ => F
def eachR (e : Nat) : Nat → Nat → List Ex → List UInt8 → Rd → Option (Ex × Rd)
 | 0, _, _, _, _ => none
 | F + 1, n, ks, t, q => (exprR e F n q).bind fun y => if isR [wIf] y.2 then (exprR e F n y.2.next).bind fun z => some (.mk 9 0 t (ks ++ [y.1] ++ [z.1]) [], signR e [93] z.2)
  else some (.mk 9 0 t (ks ++ [y.1]) [], signR e [93] y.2)
 termination_by structural F _ _ _ _ => F
def dictR (e : Nat) : Nat → Nat → List Ex → Rd → Option (Ex × Rd)
 | 0, _, ks, q => if q.bad then some (.mk 8 0 [] ks [], q) else none
 | F + 1, n, ks, q => if q.bad then some (.mk 8 0 [] ks [], q)
  else if isR [[125]] q then some (.mk 8 0 [] ks [], signR e [125] q)
  else (exprR e F n (if ks.length > 0 then signR e [44] q else q)).bind fun y => (exprR e F n (signR e [58] y.2)).bind fun z => dictR e F n (ks ++ [y.1] ++ [z.1]) z.2
 termination_by structural F _ _ _ => F
end
def paramR (e : Nat) : Nat → List (List UInt8) → Rd → Option (List (List UInt8) × Rd)
 | 0, ns, q => if q.bad then some (ns, q) else none
 | F + 1, ns, q => if q.bad then some (ns, q)
  else if ns.length = 0 ∧ lkK q ≠ 1 then some (ns, q)
  else let x := kindR e 1 (if lkK q = 1 ∧ ns.contains (lkT q) = true then failR e 6 q else q)
   if isR [[44]] x.2 then paramR e F (ns ++ [x.1]) x.2.next else some (ns ++ [x.1], x.2)
def namesR (e : Nat) : Nat → List (List UInt8) → Rd → Option (List (List UInt8) × Rd)
 | 0, ns, q => if q.bad then some (ns, q) else none
 | F + 1, ns, q => if q.bad then some (ns, q)
  else let x := kindR e 3 (if lkK q = 3 ∧ isNm (lkT q) = false then failR e 1 q else q)
   if isR [[44]] x.2 then namesR e F (ns ++ [x.1]) x.2.next else some (ns ++ [x.1], x.2)
def loadR (e F b : Nat) (q : Rd) : Option (St × Rd) :=
 let x := kindR e 3 (signR e [40] (signR e wLoad (if b > 0 then failR e 4 q else q)))
 (namesR e F [] (signR e [44] x.2)).bind fun y => some (.mk 4 x.1 y.1 .zero [] [], signR e [41] y.2)
def smallR (e F d : Nat) (b : Nat) (q : Rd) : Option (St × Rd) :=
 if wd q = wPass then some (.mk 1 [] [] .zero [] [], q.next)
 else if wd q = wReturn then
  let p := (if d = 0 then failR e 4 q else q).next
  if lkK p ≠ 6 then (exprR e F 0 p).bind fun x => some (.mk 2 [] [] x.1 [] [], x.2) else some (.mk 2 [] [] (.mk 1 0 [] [] []) [] [], p)
 else if wd q = wLoad then loadR e F b q
 else if nameR q then
  let x := kindR e 1 q
  (exprR e F 0 (signR e [61] x.2)).bind fun y => some (.mk 3 x.1 [] y.1 [] [], y.2)
 else (exprR e F 0 q).bind fun x => some (.mk 5 [] [] x.1 [] [], x.2)
mutual
def stmtsR (e : Nat) : Nat → Nat → Nat → List St → Rd → Option (List St × Rd)
 | 0, _, _, l, q => if lkK q = 0 ∨ lkK q = 8 then some (l, q) else none
 | F + 1, b, d, l, q => if lkK q = 0 ∨ lkK q = 8 then some (l, q) else (stmtR e F b d q).bind fun s => stmtsR e F b d (l ++ [s.1]) s.2
 termination_by structural F _ _ _ _ => F
def blockR (e : Nat) : Nat → Nat → Nat → Rd → Option (List St × Rd)
 | 0, _, _, q => if q.bad then some ([], q) else none
 | F + 1, b, d, q => (stmtsR e F (b + 1) d [] (kindR e 7 (kindR e 6 (signR e [58] q)).2).2).bind fun l => some (l.1, (kindR e 8 l.2).2)
 termination_by structural F _ _ _ => F
def defR (e : Nat) : Nat → Nat → Nat → Rd → Option (St × Rd)
 | 0, _, _, _ => none
 | F + 1, b, d, q =>
  let x := kindR e 1 (signR e wDef (if b > 0 then failR e 4 q else q))
  (paramR e F [] (signR e [40] x.2)).bind fun ns => (blockR e F b (d + 1) (signR e [41] ns.2)).bind fun l => some (.mk 6 x.1 ns.1 .zero l.1 [], l.2)
 termination_by structural F _ _ _ => F
def stmtR (e : Nat) : Nat → Nat → Nat → Rd → Option (St × Rd)
 | 0, _, _, _ => none
 | F + 1, b, d, q =>
  if wd q = wDef then defR e F b d q
  else if wd q = wIf then (exprR e F 0 q.next).bind fun x => (blockR e F b d x.2).bind fun l => if isR [wElse] l.2 then (blockR e F b d l.2.next).bind fun m => some (.mk 7 [] [] x.1 l.1 m.1, m.2) else some (.mk 7 [] [] x.1 l.1 [], l.2)
  else if wd q = wFor then
   let t := kindR e 1 q.next
   (exprR e F 0 (signR e wIn t.2)).bind fun x => (blockR e F b d x.2).bind fun l => some (.mk 8 t.1 [] x.1 l.1 [], l.2)
  else (smallR e F d b q).bind fun s => some (s.1, (kindR e 6 s.2).2)
 termination_by structural F _ _ _ => F
end
end Go.Proofs.YtonjhfeabphaaaaGreatDoor
end
section
set_option linter.unusedVariables false
set_option linter.unusedSimpArgs false
set_option maxRecDepth 20000
namespace Go.Proofs.YtonjhfeabphaaaaGreatDoor
open Go Go.Ab
theorem Rd.bad_of {r : List Tok} {k p : Nat} (h : k ≠ 0) : (⟨r, (k, p)⟩ : Rd).bad = true := bne_iff_ne.2 h
theorem failR_bad {e k : Nat} {q : Rd} (h : q.bad = true) : failR e k q = q := by unfold failR; rw [if_pos h]
theorem lkK_bad {q : Rd} (h : q.bad = true) : lkK q = 0 := by unfold lkK; rw [if_pos h]
theorem isR_bad {l : List (List UInt8)} {q : Rd} (h : q.bad = true) : isR l q = false := by unfold isR; rw [lkK_bad h]; rfl
theorem signR_bad {e : Nat} {s : List UInt8} {q : Rd} (h : q.bad = true) : signR e s q = q := by unfold signR; rw [isR_bad h, failR_bad h]; rfl
theorem kindR_bad {e k : Nat} {q : Rd} (h : q.bad = true) (hk : k ≠ 0) : kindR e k q = ([], q) := by unfold kindR; rw [lkK_bad h, if_neg (by omega), failR_bad h]
theorem inR_bad {e n : Nat} {q : Rd} (h : q.bad = true) : inR e n q = q := by unfold inR; rw [failR_bad h]; split <;> rfl
theorem nameR_bad {q : Rd} (h : q.bad = true) : nameR q = false := by unfold nameR; rw [lkK_bad h]; rfl
theorem levR_bad {e : Nat} : ∀ {F k n : Nat} {q : Rd}, q.bad = true → levR e F k n q = some (.zero, q)
 | 0, _, _, _, h => if_pos h
 | F + 1, _, _, _, h => by unfold levR; rw [if_pos h]
theorem exprR_bad {e : Nat} : ∀ {F n : Nat} {q : Rd}, q.bad = true → exprR e F n q = some (.zero, q)
 | 0, _, _, h => if_pos h
 | F + 1, n, q, h => by unfold exprR; rw [inR_bad h, levR_bad h]
theorem loopR_bad {e : Nat} : ∀ {F k n : Nat} {x : Ex} {q : Rd}, q.bad = true → loopR e F k n x q = some (x, q)
 | 0, _, _, _, _, h => if_pos h
 | F + 1, _, _, _, _, h => by unfold loopR; rw [isR_bad h]; rfl
theorem postR_bad {e : Nat} : ∀ {F n : Nat} {x : Ex} {q : Rd}, q.bad = true → postR e F n x q = some (x, q)
 | 0, _, _, _, h => if_pos h
 | F + 1, _, _, _, h => by unfold postR; rw [if_pos h]
theorem callR_bad {e : Nat} : ∀ {F n : Nat} {ks : List Ex} {ns : List (List UInt8)} {q : Rd}, q.bad = true → callR e F n ks ns q = some (.mk 10 0 [] ks ns, q)
 | 0, _, _, _, _, h => if_pos h
 | F + 1, _, _, _, _, h => by unfold callR; rw [if_pos h]
theorem callG_bad {e F n : Nat} {ks : List Ex} {ns : List (List UInt8)} {q : Rd} (h : q.bad = true) : callG e (F + 1) n ks ns q = some (.mk 10 0 [] (ks ++ [.zero]) ns, q) := by
 unfold callG
 rw [nameR_bad h, if_neg (by decide), failR_bad h, ite_self, exprR_bad h]
 exact callR_bad h
theorem listR_bad {e : Nat} : ∀ {F n kd : Nat} {tx : List UInt8} {ks : List Ex} {q : Rd}, q.bad = true → listR e F n kd tx ks q = some (.mk kd 0 tx ks [], q)
 | 0, _, _, _, _, _, h => if_pos h
 | F + 1, _, _, _, _, _, h => by unfold listR; rw [if_pos h]
theorem dictR_bad {e : Nat} : ∀ {F n : Nat} {ks : List Ex} {q : Rd}, q.bad = true → dictR e F n ks q = some (.mk 8 0 [] ks [], q)
 | 0, _, _, _, h => if_pos h
 | F + 1, _, _, _, h => by unfold dictR; rw [if_pos h]
theorem eachR_bad {e F n : Nat} {t : List UInt8} {ks : List Ex} {q : Rd} (h : q.bad = true) : eachR e (F + 1) n ks t q = some (.mk 9 0 t (ks ++ [.zero]) [], q) := by
 unfold eachR
 rw [exprR_bad h]
 show (if isR [wIf] q = true then _ else some (Ex.mk 9 0 t (ks ++ [.zero]) [], signR e [93] q)) = _
 rw [isR_bad h, signR_bad h]; rfl
def Ag {α : Type} (e : Nat) (x : Pr α) (y : Option (α × Rd)) : Prop := match x with
 | .out => True
 | .ok v u => y = some (v, ⟨u, (0, 0)⟩)
 | .bad k u => k ≠ 0 ∧ ∃ v w, y = some (v, ⟨w, (k, placeS e u)⟩)
def Bp {α β : Type} (g : α × Rd → Option (β × Rd)) : Prop := ∀ (v : α) (q : Rd), q.bad = true → ∃ z w, g (v, q) = some (z, ⟨w, q.f⟩)
theorem Ag.bind {α β : Type} {e : Nat} {x : Pr α} {y : Option (α × Rd)} {f : α → List Tok → Pr β} {g : α × Rd → Option (β × Rd)} (h : Ag e x y) (hf : ∀ v u, x = .ok v u → Ag e (f v u) (g (v, ⟨u, (0, 0)⟩))) (hg : Bp g) : Ag e (x.bind f) (y.bind g) := by
 cases x with
 | out => trivial
 | bad k u =>
  obtain ⟨hk, v, w, rfl⟩ := h
  obtain ⟨z, w', h'⟩ := hg v ⟨w, (k, placeS e u)⟩ (Rd.bad_of hk)
  exact ⟨hk, z, w', h'⟩
 | ok v u =>
  have h : y = _ := h
  subst h
  exact hf v u rfl
theorem Ag.step {α β : Type} {e : Nat} {x : Pr α} {v : α} {q : Rd} {f : α → List Tok → Pr β} {g : α → Rd → Option (β × Rd)} (h : Ag e x (some (v, q))) (hf : ∀ v u, x = .ok v u → Ag e (f v u) (g v ⟨u, (0, 0)⟩)) (hg : Bp fun x => g x.1 x.2) : Ag e (x.bind f) (g v q) :=
 Ag.bind (g := fun x => g x.1 x.2) h hf hg
theorem Ag.okv {α : Type} {e : Nat} {v : α} {u : List Tok} : Ag e (.ok v u) (some (v, ⟨u, (0, 0)⟩)) := rfl
theorem Ag.badv {α : Type} {e k : Nat} {v : α} {u w : List Tok} (hk : k ≠ 0) : Ag e (.bad k u : Pr α) (some (v, ⟨w, (k, placeS e u)⟩)) := ⟨hk, v, w, rfl⟩
theorem isR_one (s : List UInt8) (r : List Tok) : isR [s] ⟨r, (0, 0)⟩ = isS s r := by
 show ((hdK r == 4 || hdK r == 5) && [s].contains (hdT r)) = ((hdK r == 4 || hdK r == 5) && hdT r == s)
 congr 1
 rw [List.contains_cons]; simp
theorem isR_of (l : List (List UInt8)) (r : List Tok) : isR l ⟨r, (0, 0)⟩ = isOf l r := rfl
theorem mustS_a (e : Nat) (s : List UInt8) (r : List Tok) : Ag e (mustS s r) (some ((), signR e s ⟨r, (0, 0)⟩)) := by
 unfold mustS signR
 rw [isR_one]
 split
 ·exact .okv
 ·exact .badv (by decide)
theorem takeS_a (e k : Nat) (r : List Tok) (hk : k ≠ 0) : Ag e ((takeS k r).bind fun t r => .ok t.text r) (some ((kindR e k ⟨r, (0, 0)⟩).1, (kindR e k ⟨r, (0, 0)⟩).2)) := by
 unfold takeS kindR
 cases r with
 | nil =>
  rw [if_neg (show ¬ lkK ⟨[], (0, 0)⟩ = k from fun h => hk h.symm)]
  exact .badv (by decide)
 | cons t u =>
  by_cases h : t.kind = k
  ·rw [if_pos (show lkK ⟨t :: u, (0, 0)⟩ = k from h)]
   simp only [if_pos h]
   exact .okv
  ·rw [if_neg (show ¬ lkK ⟨t :: u, (0, 0)⟩ = k from h)]
   simp only [if_neg h]
   exact .badv (by decide)
theorem Ag.take {β : Type} {e k : Nat} {r : List Tok} {f : Tok → List Tok → Pr β} {g : List UInt8 × Rd → Option (β × Rd)} (hk : k ≠ 0) (hf : ∀ t u, takeS k r = .ok t u → Ag e (f t u) (g (t.text, ⟨u, (0, 0)⟩))) (hg : Bp g) : Ag e ((takeS k r).bind f) (g (kindR e k ⟨r, (0, 0)⟩)) := by
 have h := takeS_a e k r hk
 cases hx : takeS k r with
 | out => trivial
 | bad j u =>
  rw [hx] at h
  obtain ⟨hj, v, w, h⟩ := h
  have h : kindR e k ⟨r, (0, 0)⟩ = (v, ⟨w, (j, placeS e u)⟩) := by
   rw [Option.some.injEq] at h; exact h
  obtain ⟨z, w', h'⟩ := hg v ⟨w, (j, placeS e u)⟩ (Rd.bad_of hj)
  rw [h]
  exact ⟨hj, z, w', h'⟩
 | ok t u =>
  rw [hx] at h
  have h : kindR e k ⟨r, (0, 0)⟩ = (t.text, ⟨u, (0, 0)⟩) := by
   have h : some ((kindR e k ⟨r, (0, 0)⟩).1, (kindR e k ⟨r, (0, 0)⟩).2) = some (t.text, ⟨u, (0, 0)⟩) := h
   rw [Option.some.injEq] at h; exact h
  rw [h]
  exact hf t u hx
theorem bp_some {α β : Type} {z : α × Rd → β} {s : α × Rd → Rd} (h : ∀ v (q : Rd), q.bad = true → s (v, q) = q) : Bp fun x : α × Rd => some (z x, s x) := fun v q hq => ⟨z (v, q), q.r, by show some (z (v, q), s (v, q)) = _; rw [h v q hq]⟩
structure AllA (e F : Nat) : Prop where
 expr : ∀ G n r, 4 * F ≤ G → Ag e (exprS F n r) (exprR e G n ⟨r, (0, 0)⟩)
 lev : ∀ G k n r, 4 * F ≤ G → Ag e (levS F k n r) (levR e G k n ⟨r, (0, 0)⟩)
 loop : ∀ G k n x r, 4 * F ≤ G → Ag e (loopS F k n x r) (loopR e G k n x ⟨r, (0, 0)⟩)
 post : ∀ G n x r, 4 * F ≤ G → Ag e (postS F n x r) (postR e G n x ⟨r, (0, 0)⟩)
 call : ∀ G n ks ns r, 4 * F ≤ G → Ag e (callS F n ks ns r) (callR e G n ks ns ⟨r, (0, 0)⟩)
 atom : ∀ G n r, 4 * F ≤ G → Ag e (atomS F n r) (atomR e G n ⟨r, (0, 0)⟩)
 list : ∀ G n r, 4 * F ≤ G → Ag e (listS F n r) (listR e G n 7 [] [] ⟨r, (0, 0)⟩)
 item : ∀ G n ks r, 4 * F ≤ G → 1 ≤ ks.length → (ks.length = 1 → isS wFor r = false) → Ag e (itemS F n ks r) (listR e G n 7 [] ks ⟨r, (0, 0)⟩)
 dict : ∀ G n ks r, 4 * F ≤ G → Ag e (dictS F n ks r) (dictR e G n ks ⟨r, (0, 0)⟩)
theorem isOf_of0 {sg : List (List UInt8)} {s : List UInt8} {r : List Tok} (hs : s ∈ sg) (h : isS s r = true) : isOf sg r = true ∧ hdT r = s := by
 simp only [isS, Bool.and_eq_true, beq_iff_eq] at h
 refine ⟨?_, h.2⟩
 unfold isOf
 rw [h.1, h.2]
 simpa using hs
theorem isOf_no0 {sg : List (List UInt8)} {r : List Tok} (h : ∀ s ∈ sg, isS s r = false) : isOf sg r = false := by
 unfold isOf
 cases hk : (hdK r == 4 || hdK r == 5) with
 | false => rfl
 | true =>
  cases hc : sg.contains (hdT r) with
  | false => rfl
  | true =>
   have := h _ (by simpa using hc)
   simp [isS, hk] at this
theorem isS_ne {s t : List UInt8} {r : List Tok} (h : isS s r = true) (hne : s ≠ t) : isS t r = false := by
 simp only [isS, Bool.and_eq_true, beq_iff_eq] at h
 unfold isS
 rw [h.2, beq_false_of_ne hne]; simp
theorem Ag.ite {α : Type} {e : Nat} {x y : Pr α} {z : Option (α × Rd)} {c : Prop} [Decidable c] (h : c → Ag e x z) (h' : ¬ c → Ag e y z) : Ag e (if c then x else y) z := by
 split
 ·exact h ‹_›
 ·exact h' ‹_›
theorem inR_at {e n : Nat} {r : List Tok} (h : ¬ n = 30) : inR e n ⟨r, (0, 0)⟩ = ⟨r, (0, 0)⟩ := if_neg h
theorem inR_30 {e : Nat} {r : List Tok} : inR e 30 ⟨r, (0, 0)⟩ = ⟨r, (2, placeS e r)⟩ := rfl
theorem allA (e F : Nat) : AllA e F := by
 induction F with
 | zero => exact ⟨fun _ _ _ _ => trivial, fun _ _ _ _ _ => trivial, fun _ _ _ _ _ _ => trivial, fun _ _ _ _ _ => trivial, fun _ _ _ _ _ _ => trivial, fun _ _ _ _ => trivial, fun _ _ _ _ => trivial, fun _ _ _ _ _ _ _ => trivial, fun _ _ _ _ _ => trivial⟩
 | succ F ih =>
  refine ⟨?_, ?_, ?_, ?_, ?_, ?_, ?_, ?_, ?_⟩
  ·intro G n r hG
   obtain ⟨G, rfl⟩ : ∃ G', G = G' + 1 := ⟨G - 1, by omega⟩
   rw [exprS, exprR]
   refine .ite (fun h => ?_) (fun h => ?_)
   ·subst h
    rw [inR_30, levR_bad (Rd.bad_of (by decide))]
    exact .badv (by decide)
   ·rw [inR_at h]
    exact ih.lev G 0 _ r (by omega)
  ·intro G k n r hG
   obtain ⟨G, rfl⟩ : ∃ G', G = G' + 1 := ⟨G - 1, by omega⟩
   have bin : ∀ k, Ag e ((levS F (k + 1) n r).bind fun x r => loopS F k n x r) ((levR e G (k + 1) n ⟨r, (0, 0)⟩).bind fun x => loopR e G k n x.1 x.2) := fun k =>
    (ih.lev G (k + 1) n r (by omega)).bind (fun v u _ => ih.loop G k n v u (by omega)) (fun v q hq => ⟨_, q.r, loopR_bad hq⟩)
   match k with
   | 0 => exact bin 0
   | 1 => exact bin 1
   | 3 => exact bin 3
   | 4 => exact bin 4
   | k + 6 => exact bin (k + 6)
   | 2 =>
    rw [levS_2]
    show Ag e _ (if isR [wNot] ⟨r, (0, 0)⟩ then (levR e G 2 (n + 1) (inR e n ⟨r.tail, (0, 0)⟩)).bind fun x => some (.mk 12 0 [] [x.1] [], x.2)
     else (levR e G 3 n ⟨r, (0, 0)⟩).bind fun x => if isR (binS 2) x.2 then (levR e G 3 n x.2.next).bind fun y => some (binE (lkT x.2) x.1 y.1, y.2) else some x)
    rw [isR_one]
    refine .ite (fun h => ?_) (fun h => ?_)
    ·rw [if_pos h]
     refine .ite (fun h => ?_) (fun h => ?_)
     ·subst h
      rw [inR_30, levR_bad (Rd.bad_of (by decide))]
      exact .badv (by decide)
     ·rw [inR_at h]
      exact (ih.lev G 2 _ r.tail (by omega)).bind (fun v u _ => .okv) (bp_some (s := fun x => x.2) fun _ _ _ => rfl)
    ·rw [if_neg h]
     refine (ih.lev G 3 n r (by omega)).bind (fun v u _ => ?_) (fun v q hq => ⟨v, q.r, ?_⟩)
     ·show Ag e _ (if isR (binS 2) ⟨u, (0, 0)⟩ then (levR e G 3 n ⟨u.tail, (0, 0)⟩).bind fun y => some (binE (hdT u) v y.1, y.2) else some (v, ⟨u, (0, 0)⟩))
      rw [isR_of]
      refine .ite (fun h => ?_) (fun h => ?_)
      ·rw [if_pos h]
       exact (ih.lev G 3 n u.tail (by omega)).bind (fun v u _ => .okv) (bp_some (s := fun x => x.2) fun _ _ _ => rfl)
      ·rw [if_neg h]; exact .okv
     ·show (if isR (binS 2) q = true then _ else some (v, q)) = _
      rw [isR_bad hq]; rfl
   | 5 =>
    rw [levS_5]
    show Ag e _ (if isR [[45]] ⟨r, (0, 0)⟩ then (levR e G 5 (n + 1) (inR e n ⟨r.tail, (0, 0)⟩)).bind fun x => some (.mk 13 0 [] [x.1] [], x.2)
     else postA e G n ⟨r, (0, 0)⟩)
    rw [isR_one]
    refine .ite (fun h => ?_) (fun h => ?_)
    ·rw [if_pos h]
     refine .ite (fun h => ?_) (fun h => ?_)
     ·subst h
      rw [inR_30, levR_bad (Rd.bad_of (by decide))]
      exact .badv (by decide)
     ·rw [inR_at h]
      exact (ih.lev G 5 _ r.tail (by omega)).bind (fun v u _ => .okv) (bp_some (s := fun x => x.2) fun _ _ _ => rfl)
    ·rw [if_neg h]
     obtain ⟨G, rfl⟩ : ∃ G', G = G' + 1 := ⟨G - 1, by omega⟩
     rw [postA]
     exact (ih.atom G n r (by omega)).bind (fun v u _ => ih.post G n v u (by omega)) (fun v q hq => ⟨_, q.r, postR_bad hq⟩)
  ·intro G k n x r hG
   obtain ⟨G, rfl⟩ : ∃ G', G = G' + 1 := ⟨G - 1, by omega⟩
   rw [loopS, loopR, isR_of]
   refine .ite (fun h => ?_) (fun h => ?_)
   ·rw [if_pos h]
    exact (ih.lev G (k + 1) n r.tail (by omega)).bind (fun v u _ => ih.loop G k n _ u (by omega)) (fun v q hq => ⟨_, q.r, loopR_bad hq⟩)
   ·rw [if_neg h]; exact .okv
  ·intro G n x r hG
   obtain ⟨G, rfl⟩ : ∃ G', G = G' + 1 := ⟨G - 1, by omega⟩
   rw [postS]
   show Ag e _ (if isR [[91]] ⟨r, (0, 0)⟩ then (exprR e G n ⟨r.tail, (0, 0)⟩).bind fun y => postR e G n (.mk 11 0 [] [x, y.1] []) (signR e [93] y.2)
    else if isR [[40]] ⟨r, (0, 0)⟩ then (callR e G n [x] [] ⟨r.tail, (0, 0)⟩).bind fun y => postR e G n y.1 y.2 else some (x, ⟨r, (0, 0)⟩))
   rw [isR_one, isR_one]
   refine .ite (fun h => ?_) (fun h => ?_)
   ·rw [isS_ne h (by decide), if_neg (by decide), if_pos h]
    exact (ih.call G n _ _ r.tail (by omega)).bind (fun v u _ => ih.post G n _ u (by omega)) (fun v q hq => ⟨_, q.r, postR_bad hq⟩)
   ·rw [if_neg h]
    refine .ite (fun h => ?_) (fun h => ?_)
    ·rw [if_pos h]
     refine (ih.expr G n r.tail (by omega)).bind (fun v u _ => ?_) (fun v q hq => ⟨.mk 11 0 [] [x, v] [], q.r, ?_⟩)
     ·exact Ag.step (g := fun _ q => postR e G n (.mk 11 0 [] [x, v] []) q) (mustS_a e [93] u) (fun _ w _ => ih.post G n _ w (by omega)) (fun _ q hq => ⟨_, q.r, postR_bad hq⟩)
     ·show postR e G n (.mk 11 0 [] [x, v] []) (signR e [93] q) = _
      rw [signR_bad hq]; exact postR_bad hq
    ·rw [if_neg h]; exact .okv
  ·intro G n ks ns r hG
   obtain ⟨G, rfl⟩ : ∃ G', G = G' + 1 := ⟨G - 1, by omega⟩
   obtain ⟨G, rfl⟩ : ∃ G', G = G' + 1 := ⟨G - 1, by omega⟩
   rw [callS]
   show Ag e _ (if isR [[41]] ⟨r, (0, 0)⟩ then some (.mk 10 0 [] ks ns, ⟨r.tail, (0, 0)⟩)
    else callG e (G + 1) n ks ns (if ks.length > 1 then signR e [44] ⟨r, (0, 0)⟩ else ⟨r, (0, 0)⟩))
   rw [isR_one]
   refine .ite (fun h => ?_) (fun h => ?_)
   ·rw [if_pos h]; exact .okv
   rw [if_neg h]
   have hm : Ag e (if ks.length > 1 then mustS [44] r else .ok () r) (some ((), if ks.length > 1 then signR e [44] ⟨r, (0, 0)⟩ else ⟨r, (0, 0)⟩)) := by
    split
    ·exact mustS_a e _ r
    ·exact .okv
   refine Ag.step (g := fun _ q => callG e (G + 1) n ks ns q) hm (fun _ u _ => ?_) (fun _ q hq => ⟨_, q.r, callG_bad hq⟩)
   show Ag e _ (if nameS u then (exprR e G n (if ns.contains (hdT u) then failR e 6 ⟨u, (0, 0)⟩ else ⟨u, (0, 0)⟩).next.next).bind fun y => callR e G n (ks ++ [y.1]) (ns ++ [hdT u]) y.2
    else (exprR e G n (if ns.length > 0 then failR e 1 ⟨u, (0, 0)⟩ else ⟨u, (0, 0)⟩)).bind fun y => callR e G n (ks ++ [y.1]) ns y.2)
   refine .ite (fun h => ?_) (fun h => ?_)
   ·rw [if_pos h]
    refine .ite (fun h => ?_) (fun h => ?_)
    ·have hb : (failR e 6 ⟨u, (0, 0)⟩).next.next.bad = true := rfl
     rw [if_pos h, exprR_bad hb]
     exact ⟨by decide, _, _, callR_bad hb⟩
    ·rw [if_neg h]
     exact (ih.expr G n u.tail.tail (by omega)).bind (fun v w _ => ih.call G n _ _ w (by omega)) (fun v q hq => ⟨_, q.r, callR_bad hq⟩)
   ·rw [if_neg h]
    refine .ite (fun h => ?_) (fun h => ?_)
    ·have hb : (failR e 1 ⟨u, (0, 0)⟩).bad = true := rfl
     rw [if_pos h, exprR_bad hb]
     exact ⟨by decide, _, _, callR_bad hb⟩
    ·rw [if_neg h]
     exact (ih.expr G n u (by omega)).bind (fun v w _ => ih.call G n _ _ w (by omega)) (fun v q hq => ⟨_, q.r, callR_bad hq⟩)
  ·intro G n r hG
   obtain ⟨G, rfl⟩ : ∃ G', G = G' + 1 := ⟨G - 1, by omega⟩
   cases r with
   | nil => exact .badv (by decide)
   | cons t u =>
    show Ag e _ (if t.kind = 1 then some (.mk 6 0 t.text [] [], ⟨u, (0, 0)⟩)
     else if t.kind = 2 then some (.mk 4 t.num [] [] [], ⟨u, (0, 0)⟩)
     else if t.kind = 3 then some (.mk 5 0 t.text [] [], ⟨u, (0, 0)⟩)
     else if isR [wNone, wTrue, wFalse] ⟨t :: u, (0, 0)⟩ then some (.mk (atomW t.text) 0 [] [] [], ⟨u, (0, 0)⟩)
     else if isR [[40]] ⟨t :: u, (0, 0)⟩ then (exprR e G n ⟨u, (0, 0)⟩).bind fun x => some (x.1, signR e [41] x.2)
     else if isR [[91]] ⟨t :: u, (0, 0)⟩ then listR e G n 7 [] [] ⟨u, (0, 0)⟩
     else if isR [[123]] ⟨t :: u, (0, 0)⟩ then dictR e G n [] ⟨u, (0, 0)⟩
     else some (.zero, failR e 1 ⟨t :: u, (0, 0)⟩))
    rw [isR_one, isR_one, isR_one, isR_of, atomS]
    refine .ite (fun h => ?_) (fun h => ?_)
    ·rw [if_pos h]; exact .okv
    rw [if_neg h]
    refine .ite (fun h => ?_) (fun h => ?_)
    ·rw [if_pos h]; exact .okv
    rw [if_neg h]
    refine .ite (fun h => ?_) (fun h => ?_)
    ·rw [if_pos h]; exact .okv
    rw [if_neg h]
    refine .ite (fun h => ?_) (fun h1 => ?_)
    ·have := isOf_of0 (sg := [wNone, wTrue, wFalse]) (s := wNone) (by decide) h
     rw [if_pos this.1, show t.text = wNone from this.2]; exact .okv
    refine .ite (fun h => ?_) (fun h2 => ?_)
    ·have := isOf_of0 (sg := [wNone, wTrue, wFalse]) (s := wTrue) (by decide) h
     rw [if_pos this.1, show t.text = wTrue from this.2]; exact .okv
    refine .ite (fun h => ?_) (fun h3 => ?_)
    ·have := isOf_of0 (sg := [wNone, wTrue, wFalse]) (s := wFalse) (by decide) h
     rw [if_pos this.1, show t.text = wFalse from this.2]; exact .okv
    rw [isOf_no0 (sg := [wNone, wTrue, wFalse]) (by
     intro s hs
     simp only [List.mem_cons, List.not_mem_nil, or_false] at hs
     rcases hs with rfl | rfl | rfl
     ·exact (Bool.not_eq_true _).mp h1
     ·exact (Bool.not_eq_true _).mp h2
     ·exact (Bool.not_eq_true _).mp h3), if_neg (show ¬ (false = true) from nofun)]
    refine .ite (fun h => ?_) (fun h => ?_)
    ·rw [if_pos h]
     refine (ih.expr G n u (by omega)).bind (fun v w _ => ?_) (fun v q hq => ⟨v, q.r, ?_⟩)
     ·exact Ag.step (g := fun _ q => some (v, q)) (mustS_a e [41] w) (fun _ _ _ => .okv) (bp_some (s := fun x => x.2) fun _ _ _ => rfl)
     ·show some (v, signR e [41] q) = _
      rw [signR_bad hq]
    rw [if_neg h]
    refine .ite (fun h => ?_) (fun h => ?_)
    ·rw [if_pos h]; exact ih.list G n u (by omega)
    rw [if_neg h]
    refine .ite (fun h => ?_) (fun h => ?_)
    ·rw [if_pos h]; exact ih.dict G n [] u (by omega)
    rw [if_neg h]; exact .badv (by decide)
  ·intro G n r hG
   obtain ⟨G, rfl⟩ : ∃ G', G = G' + 1 := ⟨G - 1, by omega⟩
   rw [listS]
   show Ag e _ (if isR [[93]] ⟨r, (0, 0)⟩ then some (.mk 7 0 [] [] [], signR e [93] ⟨r, (0, 0)⟩)
    else if ([] : List Ex).length = 1 ∧ isR [wFor] ⟨r, (0, 0)⟩ = true then _
    else (exprR e G n ⟨r, (0, 0)⟩).bind fun y => listR e G n 7 [] [y.1] y.2)
   rw [if_neg (fun h : ([] : List Ex).length = 1 ∧ _ => by cases h.1)]
   unfold signR
   rw [isR_one]
   refine .ite (fun h => ?_) (fun h => ?_)
   ·rw [if_pos h, if_pos h]; exact .okv
   rw [if_neg h]
   refine (ih.expr G n r (by omega)).bind (fun v u _ => ?_) (fun v q hq => ⟨_, q.r, listR_bad hq⟩)
   refine .ite (fun h => ?_) (fun h => ih.item G n [v] u (by omega) (by simp) (fun _ => (Bool.not_eq_true _).mp h))
   obtain ⟨G, rfl⟩ : ∃ G', G = G' + 1 := ⟨G - 1, by omega⟩
   show Ag e _ (if isR [[93]] ⟨u, (0, 0)⟩ then _
    else if ([v] : List Ex).length = 1 ∧ isR [wFor] ⟨u, (0, 0)⟩ = true then eachR e G n [v] (kindR e 1 ⟨u.tail, (0, 0)⟩).1 (signR e wIn (kindR e 1 ⟨u.tail, (0, 0)⟩).2)
    else _)
   rw [isR_one, isR_one, isS_ne h (by decide), if_neg (by decide), if_pos ⟨rfl, h⟩]
   obtain ⟨G, rfl⟩ : ∃ G', G = G' + 1 := ⟨G - 1, by omega⟩
   refine Ag.take (g := fun x => eachR e (G + 1) n [v] x.1 (signR e wIn x.2)) (by decide) (fun t w _ => ?_) (fun v q hq => ⟨_, q.r, by show eachR e (G + 1) n _ _ (signR e wIn q) = _; rw [signR_bad hq]; exact eachR_bad hq⟩)
   refine Ag.step (g := fun _ q => eachR e (G + 1) n [v] t.text q) (mustS_a e wIn w) (fun _ w _ => ?_) (fun _ q hq => ⟨_, q.r, eachR_bad hq⟩)
   rw [eachR]
   refine (ih.expr G n w (by omega)).bind (fun y u _ => ?_) (fun v q hq => ?_)
   ·show Ag e _ (if isR [wIf] ⟨u, (0, 0)⟩ then (exprR e G n ⟨u.tail, (0, 0)⟩).bind fun z => some (Ex.mk 9 0 t.text [v, y, z.1] [], signR e [93] z.2) else some (Ex.mk 9 0 t.text [v, y] [], signR e [93] ⟨u, (0, 0)⟩))
    rw [isR_one]
    refine .ite (fun h => ?_) (fun h => ?_)
    ·rw [if_pos h]
     refine (ih.expr G n u.tail (by omega)).bind (fun z w _ => ?_) (bp_some (s := fun x => signR e [93] x.2) fun _ q hq => signR_bad hq)
     exact Ag.step (g := fun _ q => some (_, q)) (mustS_a e [93] w) (fun _ _ _ => .okv) (bp_some (s := fun x => x.2) fun _ _ _ => rfl)
    ·rw [if_neg h]
     exact Ag.step (g := fun _ q => some (_, q)) (mustS_a e [93] u) (fun _ _ _ => .okv) (bp_some (s := fun x => x.2) fun _ _ _ => rfl)
   ·show ∃ z w, (if isR [wIf] q = true then _ else some (Ex.mk 9 0 t.text _ [], signR e [93] q)) = some (z, ⟨w, q.f⟩)
    rw [isR_bad hq, signR_bad hq]
    exact ⟨_, q.r, rfl⟩
  ·intro G n ks r hG h1 h2
   obtain ⟨G, rfl⟩ : ∃ G', G = G' + 1 := ⟨G - 1, by omega⟩
   rw [itemS]
   show Ag e _ (if isR [[93]] ⟨r, (0, 0)⟩ then some (.mk 7 0 [] ks [], signR e [93] ⟨r, (0, 0)⟩)
    else if ks.length = 1 ∧ isR [wFor] ⟨r, (0, 0)⟩ = true then _
    else (exprR e G n (if ks.length > 0 then signR e [44] ⟨r, (0, 0)⟩ else ⟨r, (0, 0)⟩)).bind fun y => listR e G n 7 [] (ks ++ [y.1]) y.2)
   rw [isR_one, isR_one, if_pos (show ks.length > 0 by omega), if_neg (fun h : ks.length = 1 ∧ _ => by rw [h2 h.1] at h; cases h.2)]
   refine .ite (fun h => ?_) (fun h => ?_)
   ·rw [if_pos h]
    unfold signR
    rw [isR_one, if_pos h]; exact .okv
   rw [if_neg h]
   refine Ag.step (g := fun _ q => (exprR e G n q).bind fun y => listR e G n 7 [] (ks ++ [y.1]) y.2) (mustS_a e [44] r) (fun _ u _ => ?_) (fun _ q hq => ⟨_, q.r, by show (exprR e G n q).bind _ = _; rw [exprR_bad hq]; exact listR_bad hq⟩)
   exact (ih.expr G n u (by omega)).bind (fun v w _ => ih.item G n _ w (by omega) (by simp) (fun h => by simp at h; rw [h] at h1; simp at h1)) (fun v q hq => ⟨_, q.r, listR_bad hq⟩)
  ·intro G n ks r hG
   obtain ⟨G, rfl⟩ : ∃ G', G = G' + 1 := ⟨G - 1, by omega⟩
   rw [dictS]
   show Ag e _ (if isR [[125]] ⟨r, (0, 0)⟩ then some (.mk 8 0 [] ks [], signR e [125] ⟨r, (0, 0)⟩)
    else (exprR e G n (if ks.length > 0 then signR e [44] ⟨r, (0, 0)⟩ else ⟨r, (0, 0)⟩)).bind fun y => (exprR e G n (signR e [58] y.2)).bind fun z => dictR e G n (ks ++ [y.1] ++ [z.1]) z.2)
   rw [isR_one]
   refine .ite (fun h => ?_) (fun h => ?_)
   ·rw [if_pos h]
    unfold signR
    rw [isR_one, if_pos h]; exact .okv
   rw [if_neg h]
   have hm : Ag e (if ks.length > 0 then mustS [44] r else .ok () r) (some ((), if ks.length > 0 then signR e [44] ⟨r, (0, 0)⟩ else ⟨r, (0, 0)⟩)) := by
    split
    ·exact mustS_a e _ r
    ·exact .okv
   have b2 : ∀ (y : Ex) (q : Rd), q.bad = true → (exprR e G n q).bind (fun z => dictR e G n (ks ++ [y] ++ [z.1]) z.2) = some (Ex.mk 8 0 [] (ks ++ [y] ++ [Ex.zero]) [], q) := fun y q hq => by
    rw [exprR_bad hq]; exact dictR_bad hq
   have b1 : ∀ q : Rd, q.bad = true → (exprR e G n q).bind (fun y => (exprR e G n (signR e [58] y.2)).bind fun z => dictR e G n (ks ++ [y.1] ++ [z.1]) z.2) = some (Ex.mk 8 0 [] (ks ++ [Ex.zero] ++ [Ex.zero]) [], q) := fun q hq => by
    rw [exprR_bad hq]
    show (exprR e G n (signR e [58] q)).bind _ = _
    rw [signR_bad hq]; exact b2 _ q hq
   refine Ag.step (g := fun _ q => (exprR e G n q).bind fun y => (exprR e G n (signR e [58] y.2)).bind fun z => dictR e G n (ks ++ [y.1] ++ [z.1]) z.2) hm (fun _ u _ => ?_) (fun _ q hq => ⟨_, q.r, b1 q hq⟩)
   refine (ih.expr G n u (by omega)).bind (fun y w _ => ?_) (fun y q hq => ⟨_, q.r, by show (exprR e G n (signR e [58] q)).bind _ = _; rw [signR_bad hq]; exact b2 y q hq⟩)
   refine Ag.step (g := fun _ q => (exprR e G n q).bind fun z => dictR e G n (ks ++ [y] ++ [z.1]) z.2) (mustS_a e [58] w) (fun _ u _ => ?_) (fun _ q hq => ⟨_, q.r, b2 y q hq⟩)
   exact (ih.expr G n u (by omega)).bind (fun z w _ => ih.dict G n _ w (by omega)) (fun v q hq => ⟨_, q.r, dictR_bad hq⟩)
end Go.Proofs.YtonjhfeabphaaaaGreatDoor
end
section
set_option linter.unusedVariables false
set_option linter.unusedSimpArgs false
set_option maxRecDepth 20000
namespace Go.Proofs.YtonjhfeabphaaaaGreatDoor
open Go Go.Ab
def TokK (t : Tok) : Prop := 1 ≤ t.kind ∧ (t.kind = 4 → t.text ∈ signs18)
theorem hdK_nil {r : List Tok} (hr : ∀ t ∈ r, TokK t) (h : hdK r = 0) : r = [] := by
 cases r with
 | nil => rfl
 | cons t u =>
  have h : t.kind = 0 := h
  have := (hr t (List.mem_cons_self ..)).1
  omega
def kWords : List (List UInt8) := [wDef, wIf, wFor, wPass, wReturn, wLoad]
theorem wd_is {r : List Tok} {w : List UInt8} (hr : ∀ t ∈ r, TokK t) (hw : w ∈ kWords) : wd ⟨r, (0, 0)⟩ = w ↔ isS w r = true := by
 have hne : w ≠ [] := by rintro rfl; revert hw; decide
 have hns : w ∉ signs18 := by
  have : ∀ w ∈ kWords, w ∉ signs18 := by decide
  exact this w hw
 show (if hdK r = 5 then hdT r else []) = w ↔ _
 unfold isS
 constructor
 ·intro h
  split at h
  ·rename_i h5; rw [h5, h]; simp
  ·exact absurd h.symm hne
 ·intro h
  simp only [Bool.and_eq_true, Bool.or_eq_true, beq_iff_eq] at h
  obtain ⟨h4 | h5, ht⟩ := h
  ·exfalso
   cases r with
   | nil => cases h4
   | cons t u =>
    have := (hr t (List.mem_cons_self ..)).2 h4
    have ht : t.text = w := ht
    rw [ht] at this
    exact hns this
  ·rw [if_pos h5]; exact ht
theorem isS_wd {r : List Tok} {w : List UInt8} (hr : ∀ t ∈ r, TokK t) (hw : w ∈ kWords) {α : Type} {a b : α} : (if wd ⟨r, (0, 0)⟩ = w then a else b) = if isS w r then a else b := by
 by_cases h : isS w r = true
 ·rw [if_pos h, if_pos ((wd_is hr hw).2 h)]
 ·rw [if_neg h, if_neg (fun h' => h ((wd_is hr hw).1 h'))]
structure Dead (r : List Tok) : Prop where
 is : ∀ s, isS s r = false
 kind : hdK r ≠ 1 ∧ hdK r ≠ 2 ∧ hdK r ≠ 3
theorem dead_of {r : List Tok} (h : hdK r = 0 ∨ hdK r = 8) : Dead r := by
 refine ⟨fun s => ?_, by omega⟩
 unfold isS
 rcases h with h | h <;> rw [h] <;> rfl
def DeadP {α : Type} (r : List Tok) (x : Pr α) : Prop := x = .out ∨ x = .bad 1 r
theorem DeadP.bind {α β : Type} {r : List Tok} {x : Pr α} {f : α → List Tok → Pr β} (h : DeadP r x) : DeadP r (x.bind f) := by
 rcases h with rfl | rfl
 ·exact .inl rfl
 ·exact .inr rfl
theorem atom_dead {r : List Tok} (h : Dead r) (n : Nat) : ∀ F, DeadP r (atomS F n r)
 | 0 => .inl rfl
 | F + 1 => by
  cases r with
  | nil => exact .inr rfl
  | cons t u =>
   have hk := h.kind
   refine .inr ?_
   rw [atomS]
   rw [if_neg (show ¬ t.kind = 1 from hk.1), if_neg (show ¬ t.kind = 2 from hk.2.1), if_neg (show ¬ t.kind = 3 from hk.2.2), h.is, h.is, h.is, h.is, h.is, h.is]
   rfl
theorem lev_dead {r : List Tok} (h : Dead r) (n : Nat) : ∀ F k, DeadP r (levS F k n r)
 | 0, _ => .inl rfl
 | F + 1, k => by
  match k with
  | 2 => rw [levS_2, h.is, if_neg (by decide)]; exact (lev_dead h n F 3).bind
  | 5 => rw [levS_5, h.is, if_neg (by decide)]; exact (atom_dead h n F).bind
  | 0 => exact (lev_dead h n F 1).bind
  | 1 => exact (lev_dead h n F 2).bind
  | 3 => exact (lev_dead h n F 4).bind
  | 4 => exact (lev_dead h n F 5).bind
  | k + 6 => exact (lev_dead h n F (k + 7)).bind
theorem expr_dead {r : List Tok} (h : Dead r) : ∀ F, DeadP r (exprS F 0 r)
 | 0 => .inl rfl
 | F + 1 => by rw [exprS, if_neg (by decide)]; exact lev_dead h 1 F 0
theorem stmt_dead {r : List Tok} (h : Dead r) (b d : Nat) : ∀ F, DeadP r (stmtS F b d r)
 | 0 => .inl rfl
 | F + 1 => by
  rw [stmtS, h.is, h.is, h.is, if_neg (by decide), if_neg (by decide), if_neg (by decide)]
  unfold smallS
  have hn : nameS r = false := by
   unfold nameS
   rw [beq_false_of_ne h.kind.1]; rfl
  rw [h.is, h.is, h.is, hn, if_neg (by decide), if_neg (by decide), if_neg (by decide), if_neg (by decide)]
  exact ((expr_dead h F).bind).bind
def Ax (e : Nat) (top : Bool) (x : Pr (List St)) (y : Option (List St × Rd)) : Prop := match x with
 | .out => True
 | .ok v u => y = some (v, ⟨u, (0, 0)⟩)
 | .bad k u => k ≠ 0 ∧ ((∃ v w, y = some (v, ⟨w, (k, placeS e u)⟩)) ∨ (k = 1 ∧ (if top then hdK u = 8 else u = []) ∧ ∃ v, y = some (v, ⟨u, (0, 0)⟩)))
theorem param_a (e : Nat) : ∀ (F G : Nat) (ns : List (List UInt8)) (r : List Tok), F ≤ G → (ns.length = 0 → hdK r = 1) → Ag e (paramS F ns r) (paramR e G ns ⟨r, (0, 0)⟩)
 | 0, _, _, _, _, _ => trivial
 | F + 1, 0, _, _, h, _ => absurd h (by omega)
 | F + 1, G + 1, ns, r, h, hn => by
  rw [paramS]
  show Ag e _ (if ns.length = 0 ∧ hdK r ≠ 1 then some (ns, ⟨r, (0, 0)⟩)
   else (fun x : List UInt8 × Rd => if isR [[44]] x.2 then paramR e G (ns ++ [x.1]) x.2.next else some (ns ++ [x.1], x.2)) (kindR e 1 (if hdK r = 1 ∧ ns.contains (hdT r) = true then failR e 6 ⟨r, (0, 0)⟩ else ⟨r, (0, 0)⟩)))
  rw [if_neg (show ¬ (ns.length = 0 ∧ hdK r ≠ 1) from fun h => h.2 (hn h.1))]
  have bp : Bp fun x : List UInt8 × Rd => if isR [[44]] x.2 then paramR e G (ns ++ [x.1]) x.2.next else some (ns ++ [x.1], x.2) := fun v q hq => ⟨ns ++ [v], q.r, by
   show (if isR [[44]] q = true then _ else _) = _
   rw [isR_bad hq, if_neg (by decide)]⟩
  by_cases c : (hdK r == 1 && ns.contains (hdT r)) = true
  ·rw [if_pos c, if_pos (by simpa using c)]
   obtain ⟨z, w, hz⟩ := bp [] (failR e 6 ⟨r, (0, 0)⟩) rfl
   refine ⟨by decide, z, w, ?_⟩
   rw [kindR_bad (show (failR e 6 ⟨r, (0, 0)⟩).bad = true from rfl) (by decide)]
   exact hz
  ·rw [if_neg c, if_neg (by simpa using c)]
   refine Ag.take (by decide) (fun t u _ => ?_) bp
   show Ag e _ (if isR [[44]] ⟨u, (0, 0)⟩ then paramR e G (ns ++ [t.text]) ⟨u.tail, (0, 0)⟩ else some (ns ++ [t.text], ⟨u, (0, 0)⟩))
   rw [isR_one]
   refine .ite (fun h1 => ?_) (fun h1 => ?_)
   ·rw [if_pos h1]; exact param_a e F G _ _ (by omega) (fun h => by simp at h)
   ·rw [if_neg h1]; exact .okv
theorem names_a (e : Nat) : ∀ (F G : Nat) (ns : List (List UInt8)) (r : List Tok), F ≤ G → Ag e (namesS F ns r) (namesR e G ns ⟨r, (0, 0)⟩)
 | 0, _, _, _, _ => trivial
 | F + 1, 0, _, _, h => absurd h (by omega)
 | F + 1, G + 1, ns, r, h => by
  rw [namesS]
  show Ag e _ ((fun x : List UInt8 × Rd => if isR [[44]] x.2 then namesR e G (ns ++ [x.1]) x.2.next else some (ns ++ [x.1], x.2)) (kindR e 3 (if hdK r = 3 ∧ isNm (hdT r) = false then failR e 1 ⟨r, (0, 0)⟩ else ⟨r, (0, 0)⟩)))
  have bp : Bp fun x : List UInt8 × Rd => if isR [[44]] x.2 then namesR e G (ns ++ [x.1]) x.2.next else some (ns ++ [x.1], x.2) := fun v q hq => ⟨ns ++ [v], q.r, by
   show (if isR [[44]] q = true then _ else _) = _
   rw [isR_bad hq, if_neg (by decide)]⟩
  by_cases c : (hdK r == 3 && !isNm (hdT r)) = true
  ·rw [if_pos c, if_pos (by simpa using c)]
   obtain ⟨z, w, hz⟩ := bp [] (failR e 1 ⟨r, (0, 0)⟩) rfl
   refine ⟨by decide, z, w, ?_⟩
   rw [kindR_bad (show (failR e 1 ⟨r, (0, 0)⟩).bad = true from rfl) (by decide)]
   exact hz
  ·rw [if_neg c, if_neg (by simpa using c)]
   refine Ag.take (by decide) (fun t u _ => ?_) bp
   show Ag e _ (if isR [[44]] ⟨u, (0, 0)⟩ then namesR e G (ns ++ [t.text]) ⟨u.tail, (0, 0)⟩ else some (ns ++ [t.text], ⟨u, (0, 0)⟩))
   rw [isR_one]
   refine .ite (fun h1 => ?_) (fun h1 => ?_)
   ·rw [if_pos h1]; exact names_a e F G _ _ (by omega)
   ·rw [if_neg h1]; exact .okv
theorem namesR_bad' {e : Nat} : ∀ {F : Nat} {ns : List (List UInt8)} {q : Rd}, q.bad = true → namesR e F ns q = some (ns, q)
 | 0, _, _, h => if_pos h
 | F + 1, _, _, h => by unfold namesR; rw [if_pos h]
theorem paramR_bad' {e : Nat} : ∀ {F : Nat} {ns : List (List UInt8)} {q : Rd}, q.bad = true → paramR e F ns q = some (ns, q)
 | 0, _, _, h => if_pos h
 | F + 1, _, _, h => by unfold paramR; rw [if_pos h]
theorem signR_is {e : Nat} {s : List UInt8} {r : List Tok} (h : isS s r = true) : signR e s ⟨r, (0, 0)⟩ = ⟨r.tail, (0, 0)⟩ := by
 unfold signR; rw [isR_one, if_pos h]; rfl
theorem load_a (e F G b : Nat) (r : List Tok) (h : F ≤ G) (hw : isS wLoad r = true) : Ag e (loadS F b r) (loadR e G b ⟨r, (0, 0)⟩) := by
 unfold loadS loadR
 have bp2 : ∀ tx, Bp fun y : List (List UInt8) × Rd => some (St.mk 4 tx y.1 .zero [] [], signR e [41] y.2) := fun tx => bp_some (s := fun x => signR e [41] x.2) fun v q hq => signR_bad hq
 have bp1 : ∀ tx (q : Rd), q.bad = true → (namesR e G [] q).bind (fun y => some (St.mk 4 tx y.1 .zero [] [], signR e [41] y.2)) = some (.mk 4 tx [] .zero [] [], q) := fun tx q hq => by
  rw [namesR_bad' hq]
  show some (St.mk 4 tx [] .zero [] [], signR e [41] q) = _
  rw [signR_bad hq]
 refine .ite (fun hb => ?_) (fun hb => ?_)
 ·rw [if_pos hb]
  have hq : (failR e 4 ⟨r, (0, 0)⟩).bad = true := rfl
  rw [signR_bad hq, signR_bad hq, kindR_bad hq (by decide)]
  show Ag e _ ((namesR e G [] (signR e [44] (failR e 4 ⟨r, (0, 0)⟩))).bind fun y => some (St.mk 4 [] y.1 .zero [] [], signR e [41] y.2))
  rw [signR_bad hq, bp1 _ _ hq]
  exact .badv (by decide)
 ·rw [if_neg hb, signR_is hw]
  refine Ag.step (g := fun _ q => (namesR e G [] (signR e [44] (kindR e 3 q).2)).bind fun y => some (St.mk 4 (kindR e 3 q).1 y.1 .zero [] [], signR e [41] y.2)) (mustS_a e [40] _) (fun _ u _ => ?_) (fun _ q hq => ⟨_, q.r, by
   show (namesR e G [] (signR e [44] (kindR e 3 q).2)).bind _ = _
   rw [kindR_bad hq (by decide)]
   show (namesR e G [] (signR e [44] q)).bind _ = _
   rw [signR_bad hq]
   exact bp1 _ q hq⟩)
  refine Ag.take (g := fun x => (namesR e G [] (signR e [44] x.2)).bind fun y => some (St.mk 4 x.1 y.1 .zero [] [], signR e [41] y.2)) (by decide) (fun t u _ => ?_) (fun v q hq => ⟨_, q.r, by
   show (namesR e G [] (signR e [44] q)).bind _ = _
   rw [signR_bad hq]
   exact bp1 _ q hq⟩)
  refine Ag.step (g := fun _ q => (namesR e G [] q).bind fun y => some (St.mk 4 t.text y.1 .zero [] [], signR e [41] y.2)) (mustS_a e [44] _) (fun _ u _ => ?_) (fun _ q hq => ⟨_, q.r, bp1 _ q hq⟩)
  refine (names_a e F G [] u h).bind (fun ns u _ => ?_) (bp2 _)
  exact Ag.step (g := fun _ q => some (_, q)) (mustS_a e [41] u) (fun _ _ _ => .okv) (bp_some (s := fun x => x.2) fun _ _ _ => rfl)
theorem small_a (e F G b d : Nat) (r : List Tok) (hG : 4 * F ≤ G) (hr : ∀ t ∈ r, TokK t) : Ag e (smallS F b d r) (smallR e G d b ⟨r, (0, 0)⟩) := by
 unfold smallS smallR
 rw [isS_wd hr (by decide), isS_wd hr (by decide), isS_wd hr (by decide)]
 refine .ite (fun h => ?_) (fun h => ?_)
 ·rw [if_pos h]; exact .okv
 rw [if_neg h]
 refine .ite (fun h => ?_) (fun h => ?_)
 ·rw [if_pos h]
  refine .ite (fun h => ?_) (fun h => ?_)
  ·rw [if_pos h]
   have hq : (failR e 4 ⟨r, (0, 0)⟩).next.bad = true := rfl
   simp only
   rw [lkK_bad hq, if_pos (by decide), exprR_bad hq]
   exact ⟨by decide, _, _, rfl⟩
  ·rw [if_neg h]
   show Ag e _ (if hdK r.tail ≠ 6 then (exprR e G 0 ⟨r.tail, (0, 0)⟩).bind fun x => some (St.mk 2 [] [] x.1 [] [], x.2) else some (St.mk 2 [] [] (.mk 1 0 [] [] []) [] [], ⟨r.tail, (0, 0)⟩))
   refine .ite (fun h => ?_) (fun h => ?_)
   ·rw [if_pos h]
    exact ((allA e F).expr G 0 r.tail hG).bind (fun v u _ => .okv) (bp_some (s := fun x => x.2) fun _ _ _ => rfl)
   ·rw [if_neg h]; exact .okv
 rw [if_neg h]
 refine .ite (fun h => ?_) (fun h => ?_)
 ·rw [if_pos h]; exact load_a e F G b r (by omega) h
 rw [if_neg h]
 show Ag e _ (if nameS r then _ else _)
 refine .ite (fun h => ?_) (fun h => ?_)
 ·rw [if_pos h]
  have hc := h
  unfold nameS at hc
  simp only [Bool.and_eq_true, beq_iff_eq] at hc
  obtain ⟨⟨z1, z4⟩, z5⟩ := hc
  have hk : kindR e 1 ⟨r, (0, 0)⟩ = (hdT r, ⟨r.tail, (0, 0)⟩) := by
   unfold kindR
   rw [if_pos (show lkK ⟨r, (0, 0)⟩ = 1 from z1)]; rfl
  rw [hk]
  show Ag e _ ((exprR e G 0 (signR e [61] ⟨r.tail, (0, 0)⟩)).bind fun y => some (St.mk 3 (hdT r) [] y.1 [] [], y.2))
  rw [signR_is (by unfold isS; rw [z4, z5]; decide)]
  exact ((allA e F).expr G 0 r.tail.tail hG).bind (fun v u _ => .okv) (bp_some (s := fun x => x.2) fun _ _ _ => rfl)
 ·rw [if_neg h]
  exact ((allA e F).expr G 0 r hG).bind (fun v u _ => .okv) (bp_some (s := fun x => x.2) fun _ _ _ => rfl)
theorem stmtsR_bad {e F b d : Nat} {l : List St} {q : Rd} (h : q.bad = true) : stmtsR e F b d l q = some (l, q) := by
 cases F with
 | zero => unfold stmtsR; rw [lkK_bad h, if_pos (.inl rfl)]
 | succ G => rw [stmtsR, lkK_bad h, if_pos (.inl rfl)]
theorem blockR_bad {e F b d : Nat} {q : Rd} (h : q.bad = true) : blockR e F b d q = some ([], q) := by
 cases F with
 | zero => unfold blockR; rw [if_pos h]
 | succ G =>
  rw [blockR, signR_bad h, kindR_bad h (by decide)]
  show (stmtsR e G (b + 1) d [] (kindR e 7 q).2).bind _ = _
  rw [kindR_bad h (by decide)]
  show (stmtsR e G (b + 1) d [] q).bind _ = _
  rw [stmtsR_bad h]
  show some (([] : List St), (kindR e 8 q).2) = _
  rw [kindR_bad h (by decide)]
structure AllA2 (e F : Nat) : Prop where
 stmts : ∀ G top b d l r, 4 * F ≤ G → (∀ t ∈ r, TokK t) → Ax e top (stmtsS F top b d l r) (stmtsR e G b d l ⟨r, (0, 0)⟩)
 block : ∀ G b d r, 4 * F ≤ G → (∀ t ∈ r, TokK t) → Ag e (blockS F b d r) (blockR e G b d ⟨r, (0, 0)⟩)
 stmt : ∀ G b d r, 4 * F ≤ G → (∀ t ∈ r, TokK t) → Ag e (stmtS F b d r) (stmtR e G b d ⟨r, (0, 0)⟩)
theorem TokK.suf {u r : List Tok} (hr : ∀ t ∈ r, TokK t) (h : u <:+ r) : ∀ t ∈ u, TokK t := fun t ht => hr t (h.subset ht)
theorem allA2 (e F : Nat) : AllA2 e F := by
 induction F with
 | zero => exact ⟨fun _ _ _ _ _ _ _ _ => trivial, fun _ _ _ _ _ _ => trivial, fun _ _ _ _ _ _ => trivial⟩
 | succ F ih =>
  refine ⟨?_, ?_, ?_⟩
  ·intro G top b d l r hG hr
   obtain ⟨G, rfl⟩ : ∃ G', G = G' + 1 := ⟨G - 1, by omega⟩
   rw [stmtsS]
   show Ax e top _ (if hdK r = 0 ∨ hdK r = 8 then some (l, ⟨r, (0, 0)⟩) else (stmtR e G b d ⟨r, (0, 0)⟩).bind fun s => stmtsR e G b d (l ++ [s.1]) s.2)
   by_cases c : hdK r = 0 ∨ hdK r = 8
   ·rw [if_pos c]
    by_cases en : (if top then r.isEmpty else hdK r == 8) = true
    ·rw [if_pos en]; rfl
    ·rw [if_neg en]
     have hd := stmt_dead (dead_of c) b d F
     rcases hd with h | h
     ·rw [h]; trivial
     ·rw [h]
      refine ⟨by decide, .inr ⟨rfl, ?_, l, rfl⟩⟩
      cases top with
      | true =>
       rcases c with c | c
       ·have := hdK_nil hr c
        subst this
        exact absurd rfl en
       ·exact c
      | false =>
       rcases c with c | c
       ·exact hdK_nil hr c
       ·exact absurd (by show (hdK r == 8) = true; rw [c]; rfl) en
   ·rw [if_neg c]
    have en : ¬ (if top then r.isEmpty else hdK r == 8) = true := by
     intro h
     cases top with
     | true =>
      have : r = [] := by simpa using h
      subst this
      exact c (.inl rfl)
     | false => exact c (.inr (by simpa using h))
    rw [if_neg en]
    have hs := ih.stmt G b d r (by omega) hr
    cases hx : stmtS F b d r with
    | out => trivial
    | bad k u =>
     rw [hx] at hs
     obtain ⟨hk, v, w, hv⟩ := hs
     rw [hv]
     refine ⟨hk, .inl ⟨l ++ [v], w, ?_⟩⟩
     exact stmtsR_bad (Rd.bad_of hk)
    | ok v u =>
     rw [hx] at hs
     have hs : stmtR e G b d ⟨r, (0, 0)⟩ = some (v, ⟨u, (0, 0)⟩) := hs
     rw [hs]
     exact ih.stmts G top b d _ u (by omega) (TokK.suf hr ((allW F).stmt b d r v u hx))
  ·intro G b d r hG hr
   obtain ⟨G, rfl⟩ : ∃ G', G = G' + 1 := ⟨G - 1, by omega⟩
   rw [blockS, blockR]
   have bp3 : ∀ q : Rd, q.bad = true → (stmtsR e G (b + 1) d [] q).bind (fun l => some (l.1, (kindR e 8 l.2).2)) = some ([], q) := fun q hq => by
    rw [stmtsR_bad hq]
    show some (([] : List St), (kindR e 8 q).2) = _
    rw [kindR_bad hq (by decide)]
   refine Ag.step (g := fun _ q => (stmtsR e G (b + 1) d [] (kindR e 7 (kindR e 6 q).2).2).bind fun l => some (l.1, (kindR e 8 l.2).2)) (mustS_a e [58] r) (fun _ u hu => ?_) (fun _ q hq => ⟨_, q.r, by
    show (stmtsR e G (b + 1) d [] (kindR e 7 (kindR e 6 q).2).2).bind _ = _
    rw [kindR_bad hq (by decide)]
    show (stmtsR e G (b + 1) d [] (kindR e 7 q).2).bind _ = _
    rw [kindR_bad hq (by decide)]
    exact bp3 q hq⟩)
   have hu := TokK.suf hr (mustS_s _ _ _ _ hu)
   refine Ag.take (g := fun x => (stmtsR e G (b + 1) d [] (kindR e 7 x.2).2).bind fun l => some (l.1, (kindR e 8 l.2).2)) (by decide) (fun _ u2 h2 => ?_) (fun _ q hq => ⟨_, q.r, by
    show (stmtsR e G (b + 1) d [] (kindR e 7 q).2).bind _ = _
    rw [kindR_bad hq (by decide)]
    exact bp3 q hq⟩)
   have hu2 := TokK.suf hu (takeS_s _ _ _ _ h2)
   refine Ag.take (g := fun x => (stmtsR e G (b + 1) d [] x.2).bind fun l => some (l.1, (kindR e 8 l.2).2)) (by decide) (fun _ u3 h3 => ?_) (fun _ q hq => ⟨_, q.r, bp3 q hq⟩)
   have hu3 := TokK.suf hu2 (takeS_s _ _ _ _ h3)
   have hs := ih.stmts G false (b + 1) d [] u3 (by omega) hu3
   show Ag e _ ((stmtsR e G (b + 1) d [] ⟨u3, (0, 0)⟩).bind fun l => some (l.1, (kindR e 8 l.2).2))
   cases hx : stmtsS F false (b + 1) d [] u3 with
   | out => trivial
   | bad k u =>
    rw [hx] at hs
    obtain ⟨hk, ⟨v, w, hv⟩ | ⟨hk1, hu0, v, hv⟩⟩ := hs
    ·rw [hv]
     refine ⟨hk, v, w, ?_⟩
     show some (v, (kindR e 8 _).2) = _
     rw [kindR_bad (Rd.bad_of hk) (by decide)]
    ·have hu0 : u = [] := hu0
     subst hu0; subst hk1
     rw [hv]
     exact ⟨by decide, v, [], rfl⟩
   | ok v u =>
    rw [hx] at hs
    have hs : stmtsR e G (b + 1) d [] ⟨u3, (0, 0)⟩ = some (v, ⟨u, (0, 0)⟩) := hs
    rw [hs]
    exact Ag.take (g := fun x => some (v, x.2)) (by decide) (fun _ _ _ => .okv) (bp_some (s := fun x => x.2) fun _ _ _ => rfl)
  ·intro G b d r hG hr
   obtain ⟨G, rfl⟩ : ∃ G', G = G' + 1 := ⟨G - 1, by omega⟩
   rw [stmtS, stmtR, isS_wd hr (by decide), isS_wd hr (by decide), isS_wd hr (by decide)]
   refine .ite (fun h => ?_) (fun h => ?_)
   ·rw [if_pos h]
    obtain ⟨G, rfl⟩ : ∃ G', G = G' + 1 := ⟨G - 1, by omega⟩
    rw [defR]
    have bp2 : ∀ tx ns (q : Rd), q.bad = true → (blockR e G b (d + 1) q).bind (fun l => some (St.mk 6 tx ns .zero l.1 [], l.2)) = some (.mk 6 tx ns .zero [] [], q) := fun tx ns q hq => by rw [blockR_bad hq]; rfl
    have bp1 : ∀ tx (q : Rd), q.bad = true → (paramR e G [] q).bind (fun ns => (blockR e G b (d + 1) (signR e [41] ns.2)).bind fun l => some (St.mk 6 tx ns.1 .zero l.1 [], l.2)) = some (.mk 6 tx [] .zero [] [], q) := fun tx q hq => by
     rw [paramR_bad' hq]
     show (blockR e G b (d + 1) (signR e [41] q)).bind _ = _
     rw [signR_bad hq]; exact bp2 _ _ q hq
    refine .ite (fun hb => ?_) (fun hb => ?_)
    ·rw [if_pos hb]
     have hq : (failR e 4 ⟨r, (0, 0)⟩).bad = true := rfl
     rw [signR_bad hq, kindR_bad hq (by decide)]
     show Ag e _ ((paramR e G [] (signR e [40] (failR e 4 ⟨r, (0, 0)⟩))).bind _)
     rw [signR_bad hq, bp1 _ _ hq]
     exact .badv (by decide)
    rw [if_neg hb, signR_is h]
    refine Ag.take (g := fun x => (paramR e G [] (signR e [40] x.2)).bind fun ns => (blockR e G b (d + 1) (signR e [41] ns.2)).bind fun l => some (St.mk 6 x.1 ns.1 .zero l.1 [], l.2)) (by decide) (fun t u hu => ?_) (fun v q hq => ⟨_, q.r, by
     show (paramR e G [] (signR e [40] q)).bind _ = _
     rw [signR_bad hq]; exact bp1 _ q hq⟩)
    have hu := TokK.suf (TokK.suf hr (suf_tl r)) (takeS_s _ _ _ _ hu)
    refine Ag.step (g := fun _ q => (paramR e G [] q).bind fun ns => (blockR e G b (d + 1) (signR e [41] ns.2)).bind fun l => some (St.mk 6 t.text ns.1 .zero l.1 [], l.2)) (mustS_a e [40] u) (fun _ u2 h2 => ?_) (fun _ q hq => ⟨_, q.r, bp1 _ q hq⟩)
    have hu2 := TokK.suf hu (mustS_s _ _ _ _ h2)
    have hp : Ag e (if hdK u2 = 1 then paramS F [] u2 else .ok [] u2) (paramR e G [] ⟨u2, (0, 0)⟩) := by
     refine .ite (fun h1 => param_a e F G [] u2 (by omega) (fun _ => h1)) (fun h1 => ?_)
     cases G with
     | zero => exact absurd hG (by omega)
     | succ G =>
      rw [paramR, if_neg (show ¬ (⟨u2, (0, 0)⟩ : Rd).bad = true from by intro h; cases h), if_pos ⟨rfl, h1⟩]; exact .okv
    refine hp.bind (fun ns u3 h3 => ?_) (fun v q hq => ⟨_, q.r, by
     show (blockR e G b (d + 1) (signR e [41] q)).bind _ = _
     rw [signR_bad hq]; exact bp2 _ _ q hq⟩)
    have hu3 : ∀ t ∈ u3, TokK t := by
     split at h3
     ·exact TokK.suf hu2 (paramS_s F _ _ _ _ h3)
     ·cases h3; exact hu2
    refine Ag.step (g := fun _ q => (blockR e G b (d + 1) q).bind fun l => some (St.mk 6 t.text ns .zero l.1 [], l.2)) (mustS_a e [41] u3) (fun _ u4 h4 => ?_) (fun _ q hq => ⟨_, q.r, bp2 _ _ q hq⟩)
    have hu4 := TokK.suf hu3 (mustS_s _ _ _ _ h4)
    exact (ih.block G b (d + 1) u4 (by omega) hu4).bind (fun l u _ => .okv) (bp_some (s := fun x => x.2) fun _ _ _ => rfl)
   rw [if_neg h]
   refine .ite (fun h => ?_) (fun h => ?_)
   ·rw [if_pos h]
    show Ag e _ ((exprR e G 0 ⟨r.tail, (0, 0)⟩).bind fun x => (blockR e G b d x.2).bind fun l => if isR [wElse] l.2 then (blockR e G b d l.2.next).bind fun m => some (St.mk 7 [] [] x.1 l.1 m.1, m.2) else some (St.mk 7 [] [] x.1 l.1 [], l.2))
    have bp : ∀ x (q : Rd), q.bad = true → (blockR e G b d q).bind (fun l => if isR [wElse] l.2 then (blockR e G b d l.2.next).bind fun m => some (St.mk 7 [] [] x l.1 m.1, m.2) else some (St.mk 7 [] [] x l.1 [], l.2)) = some (.mk 7 [] [] x [] [], q) := fun x q hq => by
     rw [blockR_bad hq]
     show (if isR [wElse] q = true then _ else some (St.mk 7 [] [] x [] [], q)) = _
     rw [isR_bad hq]; rfl
    refine ((allA e F).expr G 0 r.tail (by omega)).bind (fun x u hu => ?_) (fun x q hq => ⟨_, q.r, bp x q hq⟩)
    have hu := TokK.suf (TokK.suf hr (suf_tl r)) ((allS F).expr _ _ _ _ hu)
    refine (ih.block G b d u (by omega) hu).bind (fun l u2 h2 => ?_) (fun l q hq => ⟨_, q.r, by
     show (if isR [wElse] q = true then _ else some (St.mk 7 [] [] x l [], q)) = _
     rw [isR_bad hq]; rfl⟩)
    have hu2 := TokK.suf hu ((allW F).block _ _ _ _ _ h2)
    show Ag e _ (if isR [wElse] ⟨u2, (0, 0)⟩ then (blockR e G b d ⟨u2.tail, (0, 0)⟩).bind fun m => some (St.mk 7 [] [] x l m.1, m.2) else some (St.mk 7 [] [] x l [], ⟨u2, (0, 0)⟩))
    rw [isR_one]
    refine .ite (fun h => ?_) (fun h => ?_)
    ·rw [if_pos h]
     exact (ih.block G b d u2.tail (by omega) (TokK.suf hu2 (suf_tl u2))).bind (fun l u _ => .okv) (bp_some (s := fun x => x.2) fun _ _ _ => rfl)
    ·rw [if_neg h]; exact .okv
   rw [if_neg h]
   refine .ite (fun h => ?_) (fun h => ?_)
   ·rw [if_pos h]
    have bp : ∀ t x (q : Rd), q.bad = true → (blockR e G b d q).bind (fun l => some (St.mk 8 t [] x l.1 [], l.2)) = some (.mk 8 t [] x [] [], q) := fun t x q hq => by rw [blockR_bad hq]; rfl
    have bp1 : ∀ t (q : Rd), q.bad = true → (exprR e G 0 q).bind (fun x => (blockR e G b d x.2).bind fun l => some (St.mk 8 t [] x.1 l.1 [], l.2)) = some (.mk 8 t [] .zero [] [], q) := fun t q hq => by
     rw [exprR_bad hq]; exact bp t _ q hq
    refine Ag.take (g := fun x => (exprR e G 0 (signR e wIn x.2)).bind fun y => (blockR e G b d y.2).bind fun l => some (St.mk 8 x.1 [] y.1 l.1 [], l.2)) (by decide) (fun t u hu => ?_) (fun v q hq => ⟨_, q.r, by
     show (exprR e G 0 (signR e wIn q)).bind _ = _
     rw [signR_bad hq]; exact bp1 _ q hq⟩)
    have hu := TokK.suf (TokK.suf hr (suf_tl r)) (takeS_s _ _ _ _ hu)
    refine Ag.step (g := fun _ q => (exprR e G 0 q).bind fun y => (blockR e G b d y.2).bind fun l => some (St.mk 8 t.text [] y.1 l.1 [], l.2)) (mustS_a e wIn u) (fun _ u2 h2 => ?_) (fun _ q hq => ⟨_, q.r, bp1 _ q hq⟩)
    have hu2 := TokK.suf hu (mustS_s _ _ _ _ h2)
    refine ((allA e F).expr G 0 u2 (by omega)).bind (fun x u3 h3 => ?_) (fun x q hq => ⟨_, q.r, bp _ x q hq⟩)
    have hu3 := TokK.suf hu2 ((allS F).expr _ _ _ _ h3)
    exact (ih.block G b d u3 (by omega) hu3).bind (fun l u _ => .okv) (bp_some (s := fun x => x.2) fun _ _ _ => rfl)
   rw [if_neg h]
   refine (small_a e F G b d r (by omega) hr).bind (fun s u hu => ?_) (bp_some (s := fun x => (kindR e 6 x.2).2) fun v q hq => by rw [kindR_bad hq (by decide)])
   exact Ag.take (g := fun x => some (s, x.2)) (by decide) (fun _ _ _ => .okv) (bp_some (s := fun x => x.2) fun _ _ _ => rfl)
end Go.Proofs.YtonjhfeabphaaaaGreatDoor
end
section
set_option linter.unusedVariables false
set_option linter.unusedSimpArgs false
set_option maxRecDepth 20000
namespace Go.Proofs.YtonjhfeabphaaaaGreatDoor
open Go Go.Ab
structure NoB (r : List Tok) : Prop where
 k1 : hdK r ≠ 1
 k2 : hdK r ≠ 2
 k3 : hdK r ≠ 3
 s : ∀ s ∈ [wNot, [45], wNone, wTrue, wFalse, [40], [91], [123], wPass, wReturn, wLoad, wDef, wIf, wFor], isS s r = false
theorem NoB.atom {r : List Tok} (h : NoB r) (F n : Nat) {y : Ex} {u : List Tok} : atomS F n r ≠ .ok y u := by
 cases F with
 | zero => nofun
 | succ F =>
  rw [atomS_eq, if_neg h.k1, if_neg h.k2, if_neg h.k3, h.s _ (by decide), h.s _ (by decide), h.s _ (by decide), h.s _ (by decide), h.s _ (by decide), h.s _ (by decide)]
  nofun
theorem bind_no {α β : Type} {x : Pr α} {f : α → List Tok → Pr β} (h : ∀ y u, x ≠ .ok y u) (y : β) (u : List Tok) : x.bind f ≠ .ok y u := by
 cases x with
 | out => nofun
 | bad => nofun
 | ok y v => exact absurd rfl (h y v)
theorem NoB.lev {r : List Tok} (h : NoB r) : ∀ (F k n : Nat) (y : Ex) (u : List Tok), levS F k n r ≠ .ok y u
 | 0, _, _, _, _ => nofun
 | F + 1, k, n, y, u => by
  by_cases h2 : k = 2
  ·subst h2
   rw [levS_2, h.s _ (by decide), if_neg (by decide)]
   exact bind_no (fun y u => h.lev F 3 n y u) y u
  ·by_cases h5 : k = 5
   ·subst h5
    rw [levS_5, h.s _ (by decide), if_neg (by decide)]
    exact bind_no (fun y u => h.atom F n) y u
   ·rw [levS_d k h2 h5]
    exact bind_no (fun y u => h.lev F (k + 1) n y u) y u
theorem NoB.expr {r : List Tok} (h : NoB r) (F n : Nat) (y : Ex) (u : List Tok) : exprS F n r ≠ .ok y u := by
 cases F with
 | zero => nofun
 | succ F =>
  rw [exprS]
  split
  ·nofun
  ·exact h.lev F 0 _ y u
theorem NoB.stmt {r : List Tok} (h : NoB r) (F b d : Nat) (y : St) (u : List Tok) : stmtS F b d r ≠ .ok y u := by
 cases F with
 | zero => nofun
 | succ F =>
  rw [stmtS, h.s wDef (by decide), h.s wIf (by decide), h.s wFor (by decide), if_neg (by decide), if_neg (by decide), if_neg (by decide)]
  refine bind_no (fun y u => ?_) y u
  have hn : nameS r = false := by unfold nameS; rw [beq_false_of_ne h.k1]; rfl
  unfold smallS
  rw [h.s wPass (by decide), h.s wReturn (by decide), h.s wLoad (by decide), hn, if_neg (by decide), if_neg (by decide), if_neg (by decide), if_neg (by decide)]
  exact bind_no (fun y u => h.expr F 0 y u) y u
theorem NoB.top {r : List Tok} (h : NoB r) (hr : r ≠ []) (F : Nat) (ls : List St) (y : List St) (u : List Tok) : stmtsS F true 0 0 ls r ≠ .ok y u := by
 cases F with
 | zero => nofun
 | succ F =>
  rw [stmtsS, if_neg (by simpa using hr)]
  exact bind_no (fun y u => h.stmt F 0 0 y u) y u
theorem noB_sign {r : List Tok} (s : List UInt8) (h : isS s r = true) (hs : s ∉ [wNot, [45], wNone, wTrue, wFalse, [40], [91], [123], wPass, wReturn, wLoad, wDef, wIf, wFor]) : NoB r := by
 unfold isS at h
 simp only [Bool.and_eq_true, Bool.or_eq_true, beq_iff_eq] at h
 refine ⟨by omega, by omega, by omega, fun q hq => ?_⟩
 unfold isS
 have hne : s ≠ q := fun e => hs (by rw [e]; exact hq)
 rw [h.2, beq_false_of_ne hne, Bool.and_false]
theorem noB_kind {r : List Tok} (h : 6 ≤ hdK r) : NoB r := by
 refine ⟨by omega, by omega, by omega, fun q hq => ?_⟩
 unfold isS
 rw [beq_false_of_ne (show hdK r ≠ 4 by omega), beq_false_of_ne (show hdK r ≠ 5 by omega)]; rfl
theorem top_nil : ∀ (F : Nat) (l0 : List St) (r : List Tok) (v : List St) (u : List Tok), stmtsS F true 0 0 l0 r = .ok v u → u = []
 | 0, _, _, _, _, h => by cases h
 | F + 1, l0, r, v, u, h => by
  rw [stmtsS] at h
  have h : (if r.isEmpty = true then .ok l0 r else (stmtS F 0 0 r).bind fun s r => stmtsS F true 0 0 (l0 ++ [s]) r) = Pr.ok v u := h
  by_cases h1 : r.isEmpty = true
  ·rw [if_pos h1] at h; cases h; simpa using h1
  ·rw [if_neg h1] at h
   cases hy : stmtS F 0 0 r with
   | out => rw [hy] at h; cases h
   | bad k w => rw [hy] at h; cases h
   | ok s w => rw [hy] at h; exact top_nil _ _ _ _ _ h
theorem top_pre (p : List St) : ∀ (F : Nat) (l : List St) (r : List Tok) (v : List St) (u : List Tok), stmtsS F true 0 0 l r = .ok v u → stmtsS F true 0 0 (p ++ l) r = .ok (p ++ v) u
 | 0, _, _, _, _, h => by cases h
 | F + 1, l0, r, v, u, h => by
  rw [stmtsS] at h ⊢
  have h : (if r.isEmpty = true then .ok l0 r else (stmtS F 0 0 r).bind fun s r => stmtsS F true 0 0 (l0 ++ [s]) r) = Pr.ok v u := h
  show (if r.isEmpty = true then .ok (p ++ l0) r else (stmtS F 0 0 r).bind fun s r => stmtsS F true 0 0 (p ++ l0 ++ [s]) r) = Pr.ok (p ++ v) u
  by_cases h1 : r.isEmpty = true
  ·rw [if_pos h1] at h ⊢; cases h; rfl
  ·rw [if_neg h1] at h ⊢
   cases hy : stmtS F 0 0 r with
   | out => rw [hy] at h; cases h
   | bad k w => rw [hy] at h; cases h
   | ok s w =>
    rw [hy] at h
    show stmtsS F true 0 0 (p ++ l0 ++ [s]) w = _
    rw [List.append_assoc]
    exact top_pre p F _ _ _ _ h
theorem topM {t : List Tok} (hB : Ben [] t False) (hE : isS wElse t = false) : ∀ (F F' : Nat) (ls : List St) (r r' : List Tok) (x : List St) (u : List Tok), F ≤ F' → stmtsS F true 0 0 ls r = .ok x u → bareL r' = bareL (r ++ t) →
  ∃ k t', k ≤ r.length ∧ k ≤ F ∧ bareL t' = bareL t ∧ stmtsS F' true 0 0 ls r' = stmtsS (F' - k) true 0 0 x t'
 | 0, _, _, _, _, _, _, _, h, _ => by cases h
 | F + 1, F', ls, r, r', x, u, hF, h, hb => by
  obtain ⟨F', rfl⟩ : ∃ G, F' = G + 1 := ⟨F' - 1, by omega⟩
  rw [stmtsS] at h
  have h : (if r.isEmpty = true then .ok ls r else (stmtS F 0 0 r).bind fun s r => stmtsS F true 0 0 (ls ++ [s]) r) = Pr.ok x u := h
  by_cases h1 : r.isEmpty = true
  ·rw [if_pos h1] at h
   cases h
   have : r = [] := by simpa using h1
   subst this
   exact ⟨0, r', Nat.zero_le _, Nat.zero_le _, hb, rfl⟩
  ·rw [if_neg h1] at h
   cases hy : stmtS F 0 0 r with
   | out => rw [hy] at h; cases h
   | bad k w => rw [hy] at h; cases h
   | ok s w =>
    rw [hy] at h
    have h : stmtsS F true 0 0 (ls ++ [s]) w = .ok x u := h
    have hS := (allN hB hE F F' (by omega)).stmt 0 0 r r'
    have hlen := hS.1 s w hy
    rcases hS.2 ⟨r, by simp, hb⟩ s w hy ⟨w, by simp, fun _ => trivial⟩ with ⟨s', w', hx', hs, hL⟩ | ⟨he, _⟩
    ·subst hs
     obtain ⟨a, ha, hwb⟩ := hL
     rw [List.append_nil] at ha
     subst ha
     obtain ⟨k, t', hk1, hk2, ht', hk⟩ := topM hB hE F F' (ls ++ [s]) w w' x u (by omega) h hwb
     refine ⟨k + 1, t', by omega, by omega, ht', ?_⟩
     have hne : r'.isEmpty = false := by
      cases r' with
      | nil =>
       cases r with
       | nil => exact absurd rfl h1
       | cons a r => cases hb
      | cons => rfl
     rw [stmtsS]
     show (if r'.isEmpty = true then .ok ls r' else (stmtS F' 0 0 r').bind fun s r => stmtsS F' true 0 0 (ls ++ [s]) r) = _
     rw [hne, if_neg (by decide), hx']
     show stmtsS F' true 0 0 (ls ++ [s]) w' = _
     rw [hk, show F' + 1 - (k + 1) = F' - k by omega]
    ·exact absurd he (Nat.lt_irrefl 0)
theorem ben_nil : Ben [] [] False := ⟨rfl, rfl, False.elim, False.elim, False.elim⟩
theorem parse_okE {s : List UInt8} {A : List Tok} {f : Flt} (hA : splitS s = (A, f)) (h : (parseS s).2.1 = 0) : f.1 = 0 ∧ stmtsS (fuelS A) true 0 0 [] A = .ok (parseS s).1 [] := by
 have hne := ((allU (fuelS A)).stmts true 0 0 [] A (by unfold fuelS; omega)).1
 have hk : ∀ t ∈ A, TokK t := fun t ht => by
  have := splitS_good s t (by rw [hA]; exact ht)
  exact ⟨this.kind.1, this.sign⟩
 have hX := (allA2 s.length (fuelS A)).stmts (4 * fuelS A) true 0 0 [] A (by omega) hk
 unfold parseS at h ⊢
 rw [hA] at h ⊢
 simp only at h ⊢
 by_cases hf : f.1 ≠ 0
 ·rw [if_pos hf] at h; exact absurd h hf
 ·rw [if_neg hf] at h ⊢
  refine ⟨by omega, ?_⟩
  cases hx : stmtsS (fuelS A) true 0 0 [] A with
  | out => exact absurd hx hne
  | bad k u => rw [hx] at hX h; exact absurd h hX.1
  | ok x u =>
   have := top_nil _ _ _ _ _ hx
   subst this
   rfl
theorem parse_join {s t both : List UInt8} {A T L : List Tok} {f g : Flt} (hA : splitS s = (A, f)) (hT : splitS t = (T, g)) (hL : splitS both = (L, (0, 0))) (hb : bareL L = bareL (A ++ T)) (hs : (parseS s).2.1 = 0) (ht : (parseS t).2.1 = 0) :
  parseS both = ((parseS s).1 ++ (parseS t).1, (0, 0)) := by
 obtain ⟨_, h1⟩ := parse_okE hA hs
 obtain ⟨_, h2⟩ := parse_okE hT ht
 have hlen : L.length = A.length + T.length := by
  have := congrArg List.length hb
  simpa [bareL] using this
 have hE : isS wElse T = false := by
  cases h : isS wElse T with
  | false => rfl
  | true =>
   exfalso
   cases T with
   | nil => cases h
   | cons a T => exact (noB_sign wElse h (by decide)).top (by simp) _ _ _ _ h2
 have hq : (hdK T == 4 && hdT T == [61]) = false := by
  cases h : (hdK T == 4 && hdT T == [61]) with
  | false => rfl
  | true =>
   exfalso
   have h' : isS [61] T = true := by
    unfold isS
    simp only [Bool.and_eq_true] at h
    rw [h.1, h.2]; rfl
   cases T with
   | nil => cases h'
   | cons a T => exact (noB_sign [61] h' (by decide)).top (by simp) _ _ _ _ h2
 obtain ⟨k, t', hk1, hk2, ht', hk⟩ := topM ⟨rfl, hq, False.elim, False.elim, False.elim⟩ hE (fuelS A) (fuelS L) [] A L _ _ (by unfold fuelS; omega) h1 hb
 have h3 := top_pre (parseS s).1 _ _ _ _ _ h2
 rw [List.append_nil] at h3
 obtain ⟨k2, t2, _, _, ht2, hk2'⟩ := topM ben_nil rfl (fuelS T) (fuelS L - k) (parseS s).1 T t' _ _ (by unfold fuelS; omega) h3 (by rw [List.append_nil]; exact ht')
 have ht2 : t2 = [] := by cases t2 with | nil => rfl | cons => cases ht2
 have hfin : stmtsS (fuelS L - k - k2) true 0 0 ((parseS s).1 ++ (parseS t).1) [] = .ok ((parseS s).1 ++ (parseS t).1) [] := by
  obtain ⟨m, hm⟩ : ∃ m, fuelS L - k - k2 = m + 1 := ⟨fuelS L - k - k2 - 1, by unfold fuelS at *; omega⟩
  rw [hm]; rfl
 conv => lhs; unfold parseS
 rw [hL]
 simp only
 rw [if_neg (by decide), hk, hk2', ht2, hfin]
end Go.Proofs.YtonjhfeabphaaaaGreatDoor
end
section
set_option linter.unusedVariables false
set_option linter.unusedSimpArgs false
set_option maxRecDepth 20000
namespace Go.Proofs.YtonjhfeabphaaaaGreatDoor
open Go Go.Ab
def shF (P : Nat) (e : Flt) : Flt := (e.1, P + e.2)
def shT (P : Nat) (t : Tok) : Tok := ⟨t.kind, t.text, t.num, P + t.place⟩
section
variable {pre s : List UInt8} {P : Nat} (hP : pre.length = P)
include hP
theorem drop_sh (i : Nat) : (pre ++ s).drop (P + i) = s.drop i := by
 rw [← hP, List.drop_append, List.drop_eq_nil_of_le (by omega), Nat.add_sub_cancel_left, List.nil_append]
theorem get_sh (i : Nat) : (pre ++ s)[P + i]? = s[i]? := by
 rw [List.getElem?_append_right (by omega)]; congr 1; omega
theorem getD_sh (i : Nat) : (pre ++ s).getD (P + i) 0 = s.getD i 0 := by
 rw [List.getD, List.getD, get_sh hP]
theorem stopAt_sh (p : UInt8 → Bool) (i : Nat) : stopAt p (pre ++ s) (P + i) = P + stopAt p s i := by
 rw [stopAt, stopAt, drop_sh hP, Nat.add_assoc]
theorem gapE_sh (i : Nat) : gapE (pre ++ s) (P + i) = P + gapE s i := stopAt_sh hP _ i
theorem gapC_sh (i : Nat) : gapC (pre ++ s) (P + i) = P + gapC s i := by
 rw [gapC, gapC, gapE_sh hP, get_sh hP, stopAt_sh hP]
 split <;> rfl
theorem cutT_sh (i j : Nat) : cutT (pre ++ s) (P + i) (P + j) = cutT s i j := by
 have : (pre ++ s).take (P + j) = pre ++ s.take j := by
  rw [List.take_append, List.take_of_length_le (by omega)]; congr 2; omega
 rw [cutT, this, drop_sh hP, cutT]
theorem signAt_sh (i : Nat) : signAt (pre ++ s) (P + i) = signAt s i := by
 rw [signAt, signAt, drop_sh hP]
end
theorem quoteS_sh (P : Nat) : ∀ (n : Nat) (l : List UInt8), l.length ≤ n → ∀ (i : Nat) (b : List UInt8), quoteS l (P + i) b = match quoteS l i b with | .inl p => .inl (P + p) | .inr (b', j) => .inr (b', P + j)
 | 0, l, hn, i, b => by
  have : l = [] := List.length_eq_zero_iff.1 (by omega)
  subst this; simp [quoteS]
 | n + 1, [], hn, i, b => by simp [quoteS]
 | n + 1, c :: r, hn, i, b => by
  simp only [List.length_cons] at hn
  rw [quoteS.eq_def, quoteS.eq_def (c :: r) i b]
  simp only
  split
  ·rfl
  ·split
   ·rfl
   ·split
    ·exact quoteS_sh P n r (by omega) (i + 1) (b ++ [c])
    ·split
     ·rfl
     ·rename_i d r
      simp only [List.length_cons] at hn
      split
      ·rfl
      ·exact quoteS_sh P n r (by omega) (i + 2) _
def shO (P : Nat) (x : Flt ⊕ (Tok × Nat × Nat)) : Flt ⊕ (Tok × Nat × Nat) := match x with
 | .inl e => .inl (shF P e)
 | .inr (t, j, o) => .inr (shT P t, P + j, o)
theorem oneS_sh {pre s : List UInt8} {P : Nat} (hP : pre.length = P) (i o : Nat) : oneS (pre ++ s) (P + i) o = shO P (oneS s i o) := by
 unfold oneS
 rw [getD_sh hP, stopAt_sh hP, stopAt_sh hP, cutT_sh hP, cutT_sh hP, signAt_sh hP, show P + i + 1 = P + (i + 1) by omega, drop_sh hP, quoteS_sh P _ _ (Nat.le_refl _)]
 split
 ·rfl
 ·split
  ·have : (P + (i + 1) < P + stopAt isDg s i) ↔ (i + 1 < stopAt isDg s i) := by omega
   simp only [this]
   split <;> rfl
  ·split
   ·cases quoteS (s.drop (i + 1)) (i + 1) [] with
    | inl p => rfl
    | inr q => rfl
   ·cases signAt s i with
    | none => rfl
    | some t =>
     simp only [Nat.add_assoc]
     split
     ·split <;> rfl
     ·split
      ·split <;> rfl
      ·rfl
def shL (P : Nat) (x : Flt ⊕ (Nat × List Tok)) : Flt ⊕ (Nat × List Tok) := match x with
 | .inl e => .inl (shF P e)
 | .inr (k, l) => .inr (P + k, l.map (shT P))
theorem lineF_sh {pre s : List UInt8} {P : Nat} (hP : pre.length = P) : ∀ (f f' : Nat) (i o : Nat) (out : List Tok), i ≤ s.length → s.length - i < f → s.length - i < f' → lineF f (pre ++ s) (P + i) o (out.map (shT P)) = shL P (lineF f' s i o out)
 | 0, f', i, o, out, hi, h, h' => by omega
 | f + 1, 0, i, o, out, hi, h, h' => by omega
 | f + 1, f' + 1, i, o, out, hi, h, h' => by
  rw [lineF, lineF, get_sh hP]
  have hl : (P + i < (pre ++ s).length) ↔ i < s.length := by rw [List.length_append, hP]; omega
  simp only [hl]
  split
  ·rename_i hc
   split
   ·rw [show P + i + 1 = P + (i + 1) by omega, gapC_sh hP]
    have hg := gapC_le (s := s) (i := i + 1) (by omega)
    exact lineF_sh hP f f' (gapC s (i + 1)) o out hg.2 (by omega) (by omega)
   ·rw [oneS_sh hP]
    cases hx : oneS s i o with
    | inl e => rfl
    | inr q =>
     obtain ⟨t, j, o'⟩ := q
     have hb := oneS_le hc.1 hx
     have hg := gapC_le (s := s) (i := j) (by omega)
     show lineF f (pre ++ s) (gapC (pre ++ s) (P + j)) o' (out.map (shT P) ++ [shT P t]) = shL P (lineF f' s (gapC s j) o' (out ++ [t]))
     rw [gapC_sh hP, ← lineF_sh hP f f' (gapC s j) o' (out ++ [t]) hg.2 (by omega) (by omega), List.map_append]; rfl
  ·split
   ·rfl
   ·show Sum.inr (_, _) = shL P (.inr (_, _))
    unfold shL
    simp only [List.map_append]
    congr 2
    split <;> omega
def shG (P : Nat) (x : Flt ⊕ (List Nat × List Tok)) : Flt ⊕ (List Nat × List Tok) := match x with
 | .inl e => .inl (shF P e)
 | .inr (k, l) => .inr (k, l.map (shT P))
theorem furS_sh (P n i : Nat) (ins : List Nat) : furS n (P + i) ins = shG P (furS n i ins) := by
 unfold furS
 split
 ·split <;> rfl
 ·split
  ·unfold shG; simp only [List.map_replicate]; rfl
  ·rfl
def shA (P : Nat) (x : Flt ⊕ List Tok) : Flt ⊕ List Tok := match x with
 | .inl e => .inl (shF P e)
 | .inr l => .inr (l.map (shT P))
theorem allF_sh {pre s : List UInt8} {P : Nat} (hP : pre.length = P) : ∀ (f f' : Nat) (i : Nat) (ins : List Nat) (out : List Tok), i ≤ s.length → s.length - i < f → s.length - i < f' → allF f (pre ++ s) (P + i) ins (out.map (shT P)) = shA P (allF f' s i ins out)
 | 0, f', i, ins, out, hi, h, h' => by omega
 | f + 1, 0, i, ins, out, hi, h, h' => by omega
 | f + 1, f' + 1, i, ins, out, hi, h, h' => by
  rw [allF, allF, gapC_sh hP, get_sh hP, gapE_sh hP, furS_sh, furS_sh]
  have hg := gapC_le hi
  have hl : ((pre ++ s).length ≤ P + gapC s i) ↔ s.length ≤ gapC s i := by rw [List.length_append, hP]; omega
  have hn : P + gapE s i - (P + i) = gapE s i - i := by omega
  simp only [hl, hn]
  split
  ·cases furS 0 (gapC s i) ins with
   | inl e => rfl
   | inr q => show Sum.inr _ = Sum.inr _; rw [List.map_append]
  ·rename_i hlt
   split
   ·exact allF_sh hP f f' (gapC s i + 1) ins out (by omega) (by omega) (by omega)
   ·cases hx : furS (gapE s i - i) (gapC s i) ins with
    | inl e => rfl
    | inr q =>
     obtain ⟨ins', l⟩ := q
     show (match lineF ((pre ++ s).length + 1) (pre ++ s) (P + gapC s i) 0 (out.map (shT P) ++ l.map (shT P)) with | .inl e => .inl e | .inr (k, out') => allF f (pre ++ s) k ins' out') = shA P (match lineF (s.length + 1) s (gapC s i) 0 (out ++ l) with | .inl e => .inl e | .inr (k, out') => allF f' s k ins' out')
     rw [← List.map_append, lineF_sh hP _ (s.length + 1) (gapC s i) 0 (out ++ l) hg.2 (by rw [List.length_append]; omega) (by omega)]
     cases hy : lineF (s.length + 1) s (gapC s i) 0 (out ++ l) with
     | inl e => rfl
     | inr q =>
      obtain ⟨k, out2⟩ := q
      have hb := lineF_le _ hg.2 hy
      have hb4 := hb.2.2.2 (by omega)
      exact allF_sh hP f f' k ins' out2 hb.2.1 (by omega) (by omega)
end Go.Proofs.YtonjhfeabphaaaaGreatDoor
end
section
set_option linter.unusedVariables false
set_option linter.unusedSimpArgs false
set_option maxRecDepth 20000
namespace Go.Proofs.YtonjhfeabphaaaaGreatDoor
open Go Go.Ab
theorem tw_app {p : UInt8 → Bool} (hp : p 10 = false) (t : List UInt8) : ∀ a : List UInt8, (a ++ 10 :: t).takeWhile p = a.takeWhile p
 | [] => by rw [List.nil_append, List.takeWhile_cons, hp]; rfl
 | c :: a => by rw [List.cons_append, List.takeWhile_cons, List.takeWhile_cons, tw_app hp t a]
theorem pre_app (t : List UInt8) : ∀ (g a : List UInt8), 10 ∉ g → g.isPrefixOf (a ++ 10 :: t) = g.isPrefixOf a
 | [], a, _ => by simp
 | c :: g, [], h => by
  have : c ≠ 10 := fun e => h (by simp [e])
  simp [List.isPrefixOf, this]
 | c :: g, d :: a, h => by
  rw [List.cons_append, List.isPrefixOf, List.isPrefixOf, pre_app t g a (fun e => h (List.mem_cons_of_mem _ e))]
theorem quoteS_app (r : List UInt8) : ∀ (n : Nat) (a : List UInt8), a.length ≤ n → ∀ (i : Nat) (b : List UInt8) (x : List UInt8 × Nat), quoteS a i b = .inr x → quoteS (a ++ r) i b = .inr x
 | 0, a, hn, i, b, x, h => by
  have : a = [] := List.length_eq_zero_iff.1 (by omega)
  subst this; simp [quoteS] at h
 | n + 1, [], hn, i, b, x, h => by simp [quoteS] at h
 | n + 1, c :: a, hn, i, b, x, h => by
  simp only [List.length_cons] at hn
  rw [List.cons_append]
  rw [quoteS.eq_def] at h ⊢
  simp only at h ⊢
  split at h
  ·cases h
  ·rename_i h1
   rw [if_neg h1]
   split at h
   ·rename_i h2; rw [if_pos h2]; exact h
   ·rename_i h2
    rw [if_neg h2]
    split at h
    ·rename_i h3; rw [if_pos h3]; exact quoteS_app r n a (by omega) _ _ _ h
    ·rename_i h3
     rw [if_neg h3]
     cases a with
     | nil => cases h
     | cons d a =>
      simp only [List.cons_append, List.length_cons] at hn h ⊢
      cases he : esc d with
      | none => simp only [he] at h; cases h
      | some e => simp only [he] at h ⊢; exact quoteS_app r n a (by omega) _ _ _ h
section
variable {s t : List UInt8}
theorem drop_app {i : Nat} (h : i ≤ s.length) : (s ++ 10 :: t).drop i = s.drop i ++ 10 :: t := List.drop_append_of_le_length h
theorem stopAt_app {p : UInt8 → Bool} (hp : p 10 = false) {i : Nat} (h : i ≤ s.length) : stopAt p (s ++ 10 :: t) i = stopAt p s i := by
 unfold stopAt; rw [drop_app h, tw_app hp]
theorem get_app {i : Nat} (h : i < s.length) : (s ++ 10 :: t)[i]? = s[i]? := List.getElem?_append_left h
theorem get_at : (s ++ 10 :: t)[s.length]? = some 10 := by rw [List.getElem?_append_right (Nat.le_refl _), Nat.sub_self]; rfl
theorem getD_app {i : Nat} (h : i < s.length) : (s ++ 10 :: t).getD i 0 = s.getD i 0 := by
 rw [List.getD_eq_getElem?_getD, List.getD_eq_getElem?_getD, get_app h]
theorem gapE_app {i : Nat} (h : i ≤ s.length) : gapE (s ++ 10 :: t) i = gapE s i := stopAt_app rfl h
theorem gapC_app {i : Nat} (h : i ≤ s.length) : gapC (s ++ 10 :: t) i = gapC s i := by
 have hg := gapE_le h
 unfold gapC
 rw [gapE_app h]
 have : ((s ++ 10 :: t)[gapE s i]? = some 35) ↔ (s[gapE s i]? = some 35) := by
  rcases Nat.lt_or_ge (gapE s i) s.length with h1 | h1
  ·rw [get_app h1]
  ·have : gapE s i = s.length := by omega
   rw [this, get_at, List.getElem?_eq_none (Nat.le_refl _)]
   simp
 simp only [this]
 split
 ·exact stopAt_app rfl hg.2
 ·rfl
theorem cutT_app {i j : Nat} (h : j ≤ s.length) : cutT (s ++ 10 :: t) i j = cutT s i j := by
 unfold cutT; rw [List.take_append_of_le_length h]
theorem signAt_app {i : Nat} (h : i ≤ s.length) : signAt (s ++ 10 :: t) i = signAt s i := by
 unfold signAt
 rw [drop_app h]
 have : ∀ g ∈ signs18, 10 ∉ g := by decide
 have key : ∀ l : List (List UInt8), (∀ g ∈ l, 10 ∉ g) → l.find? (fun g => g.isPrefixOf (s.drop i ++ 10 :: t)) = l.find? (fun g => g.isPrefixOf (s.drop i)) := by
  intro l
  induction l with
  | nil => intro _; rfl
  | cons g l ih => intro h; rw [List.find?_cons, List.find?_cons, pre_app t g _ (h g (List.mem_cons_self ..)), ih fun g hg => h g (List.mem_cons_of_mem _ hg)]
 exact key _ this
theorem oneS_app {i o : Nat} (hi : i < s.length) {x : Tok × Nat × Nat} (h : oneS s i o = .inr x) : oneS (s ++ 10 :: t) i o = .inr x := by
 have h1 := stopAt_le (p := fun c => isLet c || isDg c) (Nat.le_of_lt hi)
 have h2 := stopAt_le (p := isDg) (Nat.le_of_lt hi)
 unfold oneS at h ⊢
 rw [getD_app hi, stopAt_app rfl (Nat.le_of_lt hi), stopAt_app rfl (Nat.le_of_lt hi), cutT_app h1.2, cutT_app h2.2, signAt_app (Nat.le_of_lt hi), drop_app (by omega)]
 split at h
 ·rename_i c; rw [if_pos c]; exact h
 ·rename_i c
  rw [if_neg c]
  split at h
  ·rename_i c; rw [if_pos c]; exact h
  ·rename_i c
   rw [if_neg c]
   split at h
   ·rename_i c
    rw [if_pos c]
    cases hq : quoteS (s.drop (i + 1)) (i + 1) [] with
    | inl p => rw [hq] at h; cases h
    | inr y => rw [hq] at h; rw [quoteS_app _ _ _ (Nat.le_refl _) _ _ _ hq]; exact h
   ·rename_i c
    rw [if_neg c]; exact h
theorem lineF_app : ∀ (f f' i o : Nat) (out : List Tok) (k : Nat) (out' : List Tok), f ≤ f' → i ≤ s.length → lineF f s i o out = .inr (k, out') → ∃ k', lineF f' (s ++ 10 :: t) i o out = .inr (k', out') ∧ i < k' ∧ ((k' = k ∧ k ≤ s.length) ∨ (k = s.length ∧ k' = s.length + 1))
 | 0, _, _, _, _, _, _, _, _, h => by cases h
 | f + 1, f', i, o, out, k, out', hf, hi, h => by
  obtain ⟨f', rfl⟩ : ∃ g, f' = g + 1 := ⟨f' - 1, by omega⟩
  rw [lineF] at h ⊢
  have hql : i < (s ++ 10 :: t).length := by rw [List.length_append, List.length_cons]; omega
  rcases Nat.lt_or_ge i s.length with hlt | hge
  ·rw [get_app hlt]
   by_cases hc : s[i]? ≠ some 10 ∨ 0 < o
   ·rw [if_pos ⟨hlt, hc⟩] at h
    rw [if_pos ⟨hql, hc⟩]
    by_cases h10 : s[i]? = some 10
    ·rw [if_pos h10] at h ⊢
     rw [gapC_app (by omega)]
     have hg := gapC_le (s := s) (i := i + 1) (by omega)
     obtain ⟨k', h1, h2, h3⟩ := lineF_app f f' (gapC s (i + 1)) o out k out' (by omega) hg.2 h
     exact ⟨k', h1, by omega, h3⟩
    ·rw [if_neg h10] at h ⊢
     cases hx : oneS s i o with
     | inl e => rw [hx] at h; cases h
     | inr q =>
      obtain ⟨tk, j, o'⟩ := q
      rw [hx] at h
      rw [oneS_app hlt hx]
      have hb := oneS_le hlt hx
      have hg := gapC_le (s := s) (i := j) (by omega)
      simp only at h ⊢
      rw [gapC_app hb.2]
      obtain ⟨k', h1, h2, h3⟩ := lineF_app f f' (gapC s j) o' (out ++ [tk]) k out' (by omega) hg.2 h
      exact ⟨k', h1, by omega, h3⟩
   ·rw [if_neg (fun h => hc h.2)] at h
    rw [if_neg (fun h => hc h.2)]
    by_cases ho : 0 < o
    ·exact absurd (.inr ho) hc
    ·rw [if_neg ho, if_pos hlt] at h
     rw [if_neg ho, if_pos hql]
     cases h
     exact ⟨i + 1, rfl, by omega, .inl ⟨rfl, hlt⟩⟩
  ·have hin : i = s.length := by omega
   subst hin
   rw [if_neg (by omega)] at h
   by_cases ho : 0 < o
   ·rw [if_pos ho] at h; cases h
   ·rw [if_neg ho, if_neg (by omega)] at h
    rw [get_at, if_neg (by rintro ⟨_, h | h⟩; exact h rfl; exact ho h), if_neg ho, if_pos hql]
    cases h
    exact ⟨s.length + 1, rfl, by omega, .inr ⟨rfl, rfl⟩⟩
end
theorem stay_zero {ins : List Nat} (hi : Insok ins) : stay ins 0 = 1 := by
 obtain ⟨x, r, rfl⟩ : ∃ x r, ins = x :: r := by
  cases ins with
  | nil => cases hi.zero
  | cons x r => exact ⟨x, r, rfl⟩
 have h0 : x = 0 := Option.some.inj hi.zero
 subst h0
 have hr : ∀ y ∈ r, 0 < y := fun y hy => (List.pairwise_cons.1 hi.up).1 y hy
 unfold stay
 rw [List.takeWhile_cons, if_pos (by decide)]
 cases r with
 | nil => rfl
 | cons y r =>
  have := hr y (List.mem_cons_self ..)
  rw [List.takeWhile_cons, if_neg (by simp; omega)]; rfl
theorem furS_outs {ins : List Nat} (hi : Insok ins) (p : Nat) : furS 0 p ins = .inr ([0], List.replicate (ins.length - 1) (tokOut p)) := by
 have h0 := hi.zero
 have hm : 0 ∈ ins := List.mem_of_getElem? h0
 unfold furS
 rw [if_neg (by omega), if_pos hm, stay_zero hi]
 obtain ⟨x, r, rfl⟩ : ∃ x r, ins = x :: r := by
  cases ins with
  | nil => cases h0
  | cons x r => exact ⟨x, r, rfl⟩
 have h0 : x = 0 := Option.some.inj h0
 subst h0; rfl
theorem insok_one : Insok [0] := ⟨List.pairwise_singleton _ _, rfl⟩
end Go.Proofs.YtonjhfeabphaaaaGreatDoor
end
section
set_option linter.unusedVariables false
set_option linter.unusedSimpArgs false
set_option maxRecDepth 20000
namespace Go.Proofs.YtonjhfeabphaaaaGreatDoor
open Go Go.Ab
theorem furS_insok {n i : Nat} {ins ins' : List Nat} {l : List Tok} (hi : Insok ins) (h : furS n i ins = .inr (ins', l)) : Insok ins' := by
 unfold furS at h
 split at h
 ·rename_i h1
  split at h
  ·cases h
  ·cases h; exact hi.push h1
 ·split at h
  ·cases h; exact hi.take (stay_pos hi n)
  ·cases h
theorem lineF_out (p : List Tok) (s : List UInt8) : ∀ (f i o : Nat) (out : List Tok), lineF f s i o (p ++ out) = match lineF f s i o out with | Sum.inl e => Sum.inl e | Sum.inr (k, l) => Sum.inr (k, p ++ l)
 | 0, _, _, _ => rfl
 | f + 1, i, o, out => by
  rw [lineF, lineF]
  split
  ·split
   ·exact lineF_out p s f _ o out
   ·cases hx : oneS s i o with
    | inl e => rfl
    | inr q =>
     obtain ⟨t, j, o'⟩ := q
     show lineF f s (gapC s j) o' (p ++ out ++ [t]) = match lineF f s (gapC s j) o' (out ++ [t]) with | Sum.inl e => Sum.inl e | Sum.inr (k, l) => Sum.inr (k, p ++ l)
     rw [List.append_assoc]
     exact lineF_out p s f _ o' _
  ·split
   ·rfl
   ·show Sum.inr _ = Sum.inr _
    rw [List.append_assoc]
theorem allF_out (p : List Tok) (s : List UInt8) : ∀ (f i : Nat) (ins : List Nat) (out : List Tok), allF f s i ins (p ++ out) = match allF f s i ins out with | Sum.inl e => Sum.inl e | Sum.inr l => Sum.inr (p ++ l)
 | 0, _, _, _ => rfl
 | f + 1, i, ins, out => by
  rw [allF, allF]
  split
  ·cases furS 0 (gapC s i) ins with
   | inl e => rfl
   | inr q =>
    show Sum.inr _ = Sum.inr _
    rw [List.append_assoc]
  ·split
   ·exact allF_out p s f _ ins out
   ·cases hx : furS (gapE s i - i) (gapC s i) ins with
    | inl e => rfl
    | inr q =>
     obtain ⟨ins', l⟩ := q
     show (match lineF (s.length + 1) s (gapC s i) 0 (p ++ out ++ l) with | Sum.inl e => Sum.inl e | Sum.inr (k, out') => allF f s k ins' out') = match (match lineF (s.length + 1) s (gapC s i) 0 (out ++ l) with | Sum.inl e => Sum.inl e | Sum.inr (k, out') => allF f s k ins' out') with | Sum.inl e => Sum.inl e | Sum.inr l => Sum.inr (p ++ l)
     rw [List.append_assoc, lineF_out]
     cases hy : lineF (s.length + 1) s (gapC s i) 0 (out ++ l) with
     | inl e => rfl
     | inr q =>
      obtain ⟨k, out2⟩ := q
      exact allF_out p s f k ins' out2
theorem allF_step (f : Nat) (s : List UInt8) (i : Nat) (ins : List Nat) (out : List Tok) : allF (f + 1) s i ins out = if s.length ≤ gapC s i then (match furS 0 (gapC s i) ins with | Sum.inl e => Sum.inl e | Sum.inr (_, l) => Sum.inr (out ++ l)) else if s[gapC s i]? = some 10 then allF f s (gapC s i + 1) ins out else match furS (gapE s i - i) (gapC s i) ins with | Sum.inl e => Sum.inl e | Sum.inr (ins', l) => match lineF (s.length + 1) s (gapC s i) 0 (out ++ l) with | Sum.inl e => Sum.inl e | Sum.inr (k, out') => allF f s k ins' out' := rfl
theorem allF_app {s t : List UInt8} : ∀ (f f' i : Nat) (ins : List Nat) (out l : List Tok), i ≤ s.length → Insok ins → allF f s i ins out = .inr l → (s ++ 10 :: t).length - i < f' →
  ∃ f'' ins2 out2 p, t.length < f'' ∧ Insok ins2 ∧ l = out2 ++ List.replicate (ins2.length - 1) (tokOut p) ∧ allF f' (s ++ 10 :: t) i ins out = allF f'' (s ++ 10 :: t) (s.length + 1) ins2 out2
 | 0, _, _, _, _, _, _, _, h, _ => by cases h
 | f + 1, f', i, ins, out, l, hi, hin, h, hf => by
  obtain ⟨f', rfl⟩ : ∃ g, f' = g + 1 := ⟨f' - 1, by omega⟩
  have hql : (s ++ 10 :: t).length = s.length + 1 + t.length := by rw [List.length_append, List.length_cons]; omega
  have hg := gapC_le hi
  have hge := gapE_le hi
  rw [hql] at hf
  rw [allF] at h
  rw [allF_step f']
  rw [gapC_app hi, gapE_app hi, if_neg (show ¬ (s ++ 10 :: t).length ≤ gapC s i by omega)]
  by_cases h1 : s.length ≤ gapC s i
  ·rw [if_pos h1, furS_outs hin] at h
   have hgn : gapC s i = s.length := by omega
   rw [hgn, get_at, if_pos rfl]
   have hl : l = out ++ List.replicate (ins.length - 1) (tokOut (gapC s i)) := by
    have h : Sum.inr (out ++ List.replicate (ins.length - 1) (tokOut (gapC s i))) = (Sum.inr l : Flt ⊕ List Tok) := h
    exact (Sum.inr.inj h).symm
   exact ⟨f', ins, out, gapC s i, by omega, hin, hl, rfl⟩
  ·rw [if_neg h1] at h
   rw [get_app (by omega)]
   by_cases h10 : s[gapC s i]? = some 10
   ·rw [if_pos h10] at h ⊢
    exact allF_app f f' (gapC s i + 1) ins out l (by omega) hin h (by rw [hql]; omega)
   ·rw [if_neg h10] at h ⊢
    cases hx : furS (gapE s i - i) (gapC s i) ins with
    | inl e => rw [hx] at h; cases h
    | inr q =>
     obtain ⟨ins', l0⟩ := q
     rw [hx] at h
     have hin' := furS_insok hin hx
     simp only at h ⊢
     cases hy : lineF (s.length + 1) s (gapC s i) 0 (out ++ l0) with
     | inl e => rw [hy] at h; cases h
     | inr q =>
      obtain ⟨k, out'⟩ := q
      rw [hy] at h
      simp only at h
      obtain ⟨k', e1, e2, e3⟩ := lineF_app (s := s) (t := t) (s.length + 1) ((s ++ 10 :: t).length + 1) (gapC s i) 0 (out ++ l0) k out' (by omega) hg.2 hy
      rw [e1]
      simp only
      rcases e3 with ⟨rfl, hk⟩ | ⟨rfl, rfl⟩
      ·exact allF_app f f' k' ins' out' l hk hin' h (by rw [hql]; omega)
      ·refine ⟨f', ins', out', s.length, by omega, hin', ?_, rfl⟩
       cases f with
       | zero => cases h
       | succ f =>
        have hge : gapC s s.length = s.length := gapC_end (Nat.le_refl _)
        rw [allF, hge, if_pos (Nat.le_refl _), furS_outs hin'] at h
        have h : Sum.inr (out' ++ List.replicate (ins'.length - 1) (tokOut s.length)) = (Sum.inr l : Flt ⊕ List Tok) := h
        exact (Sum.inr.inj h).symm
theorem allF_ins {t : List UInt8} : ∀ (f i : Nat) (ins : List Nat) (T : List Tok), Insok ins → allF f t i [0] [] = .inr T → hdK T ≠ 7 → ∃ p, allF f t i ins [] = .inr (List.replicate (ins.length - 1) (tokOut p) ++ T)
 | 0, _, _, _, _, h, _ => by cases h
 | f + 1, i, ins, T, hin, h, h7 => by
  rw [allF] at h
  rw [allF_step f]
  by_cases h1 : t.length ≤ gapC t i
  ·rw [if_pos h1, furS_outs insok_one] at h
   rw [if_pos h1, furS_outs hin]
   have h : Sum.inr ([] : List Tok) = (Sum.inr T : Flt ⊕ List Tok) := h
   have := Sum.inr.inj h
   subst this
   exact ⟨gapC t i, by simp⟩
  ·rw [if_neg h1] at h ⊢
   by_cases h10 : t[gapC t i]? = some 10
   ·rw [if_pos h10] at h ⊢
    exact allF_ins f _ ins T hin h h7
   ·rw [if_neg h10] at h ⊢
    by_cases hn : gapE t i - i = 0
    ·rw [hn, furS_outs insok_one] at h
     rw [hn, furS_outs hin]
     have h : (match lineF (t.length + 1) t (gapC t i) 0 [] with | Sum.inl e => Sum.inl e | Sum.inr (k, out') => allF f t k [0] out') = .inr T := h
     show ∃ p, (match lineF (t.length + 1) t (gapC t i) 0 (List.replicate (ins.length - 1) (tokOut (gapC t i))) with | Sum.inl e => Sum.inl e | Sum.inr (k, out') => allF f t k [0] out') = _
     have hl := lineF_out (List.replicate (ins.length - 1) (tokOut (gapC t i))) t (t.length + 1) (gapC t i) 0 []
     rw [List.append_nil] at hl
     rw [hl]
     cases hy : lineF (t.length + 1) t (gapC t i) 0 [] with
     | inl e => rw [hy] at h; cases h
     | inr q =>
      obtain ⟨k, out'⟩ := q
      rw [hy] at h
      have h : allF f t k [0] out' = .inr T := h
      refine ⟨gapC t i, ?_⟩
      show allF f t k [0] (List.replicate (ins.length - 1) (tokOut (gapC t i)) ++ out') = _
      rw [allF_out, h]
    ·exfalso
     have hf : furS (gapE t i - i) (gapC t i) [0] = .inr ([0, gapE t i - i], [tokIn (gapC t i)]) := by
      unfold furS
      rw [if_pos (show [0].getD ([0].length - 1) 0 < gapE t i - i by show 0 < gapE t i - i; omega), if_neg (by decide)]; rfl
     rw [hf] at h
     have h : (match lineF (t.length + 1) t (gapC t i) 0 [tokIn (gapC t i)] with | Sum.inl e => Sum.inl e | Sum.inr (k, out') => allF f t k [0, gapE t i - i] out') = .inr T := h
     have hl := lineF_out [tokIn (gapC t i)] t (t.length + 1) (gapC t i) 0 []
     rw [List.append_nil] at hl
     rw [hl] at h
     cases hy : lineF (t.length + 1) t (gapC t i) 0 [] with
     | inl e => rw [hy] at h; cases h
     | inr q =>
      obtain ⟨k, out'⟩ := q
      rw [hy] at h
      have h : allF f t k [0, gapE t i - i] ([tokIn (gapC t i)] ++ out') = .inr T := h
      rw [allF_out] at h
      cases hz : allF f t k [0, gapE t i - i] out' with
      | inl e => rw [hz] at h; cases h
      | inr l =>
       rw [hz] at h
       have := Sum.inr.inj h
       subst this
       exact h7 rfl
end Go.Proofs.YtonjhfeabphaaaaGreatDoor
end
section
set_option linter.unusedVariables false
set_option linter.unusedSimpArgs false
set_option maxRecDepth 20000
namespace Go.Proofs.YtonjhfeabphaaaaGreatDoor
open Go Go.Ab
theorem oneS_ne {s : List UInt8} {i o : Nat} {e : Flt} (h : oneS s i o = .inl e) : e.1 ≠ 0 := by
 unfold oneS at h
 split at h
 ·cases h
 ·split at h
  ·split at h
   ·cases h; exact (by decide : (3 : Nat) ≠ 0)
   ·cases h
  ·split at h
   ·split at h
    ·cases h; exact (by decide : (1 : Nat) ≠ 0)
    ·cases h
   ·split at h
    ·cases h; exact (by decide : (1 : Nat) ≠ 0)
    ·split at h
     ·split at h
      ·cases h; exact (by decide : (2 : Nat) ≠ 0)
      ·cases h
     ·split at h
      ·split at h
       ·cases h; exact (by decide : (1 : Nat) ≠ 0)
       ·cases h
      ·cases h
theorem furS_ne {n i : Nat} {ins : List Nat} {e : Flt} (h : furS n i ins = .inl e) : e.1 ≠ 0 := by
 unfold furS at h
 split at h
 ·split at h
  ·cases h; exact (by decide : (2 : Nat) ≠ 0)
  ·cases h
 ·split at h
  ·cases h
  ·cases h; exact (by decide : (4 : Nat) ≠ 0)
theorem lineF_ne (s : List UInt8) : ∀ (f i o : Nat) (out : List Tok) (e : Flt), i ≤ s.length → s.length - i < f → lineF f s i o out = .inl e → e.1 ≠ 0
 | 0, _, _, _, _, _, h, _ => by omega
 | f + 1, i, o, out, e, hi, hf, h => by
  rw [lineF] at h
  split at h
  ·rename_i hc
   split at h
   ·have hg := gapC_le (s := s) (i := i + 1) (by omega)
    exact lineF_ne s f _ o out e hg.2 (by omega) h
   ·cases hx : oneS s i o with
    | inl e' =>
     rw [hx] at h
     have := Sum.inl.inj h
     subst this; exact oneS_ne hx
    | inr q =>
     obtain ⟨t, j, o'⟩ := q
     rw [hx] at h
     have hb := oneS_le hc.1 hx
     have hg := gapC_le (s := s) (i := j) (by omega)
     exact lineF_ne s f (gapC s j) o' (out ++ [t]) e hg.2 (by omega) h
  ·split at h
   ·cases h; exact (by decide : (1 : Nat) ≠ 0)
   ·cases h
theorem allF_ne (s : List UInt8) : ∀ (f i : Nat) (ins : List Nat) (out : List Tok) (e : Flt), i ≤ s.length → s.length - i < f → allF f s i ins out = .inl e → e.1 ≠ 0
 | 0, _, _, _, _, _, h, _ => by omega
 | f + 1, i, ins, out, e, hi, hf, h => by
  have hg := gapC_le hi
  rw [allF_step f] at h
  split at h
  ·cases hx : furS 0 (gapC s i) ins with
   | inl e' => rw [hx] at h; have := Sum.inl.inj h; subst this; exact furS_ne hx
   | inr q => rw [hx] at h; cases h
  ·split at h
   ·exact allF_ne s f _ ins out e (by omega) (by omega) h
   ·cases hx : furS (gapE s i - i) (gapC s i) ins with
    | inl e' => rw [hx] at h; have := Sum.inl.inj h; subst this; exact furS_ne hx
    | inr q =>
     obtain ⟨ins', l⟩ := q
     rw [hx] at h
     simp only at h
     cases hy : lineF (s.length + 1) s (gapC s i) 0 (out ++ l) with
     | inl e' => rw [hy] at h; have := Sum.inl.inj h; subst this; exact lineF_ne s _ _ _ _ _ hg.2 (by omega) hy
     | inr q =>
      obtain ⟨k, out2⟩ := q
      rw [hy] at h
      have hb := lineF_le _ hg.2 hy
      have hb4 := hb.2.2.2 (by omega)
      exact allF_ne s f k ins' out2 e hb.2.1 (by omega) h
theorem splitS_all0 {s : List UInt8} {A : List Tok} {f : Flt} (h : splitS s = (A, f)) (hf : f.1 = 0) : s.length ≤ 6000 ∧ f = (0, 0) ∧ allF (s.length + 1) s 0 [0] [] = .inr A := by
 unfold splitS at h
 split at h
 ·cases h; cases hf
 ·rename_i h6
  cases hx : allF (s.length + 1) s 0 [0] [] with
  | inl e =>
   rw [hx] at h
   cases h
   exact absurd hf (allF_ne s _ _ _ _ _ (Nat.zero_le _) (by omega) hx)
  | inr l =>
   rw [hx] at h
   cases h
   exact ⟨by omega, rfl, rfl⟩
theorem bare_sh (P : Nat) (l : List Tok) : bareL (l.map (shT P)) = bareL l := by
 unfold bareL
 rw [List.map_map]
 rfl
theorem bare_app (a b : List Tok) : bareL (a ++ b) = bareL a ++ bareL b := List.map_append
theorem splitS_join {s t : List UInt8} {A T : List Tok} {f g : Flt} (h6 : (s ++ 10 :: t).length ≤ 6000) (hA : splitS s = (A, f)) (hf : f.1 = 0) (hT : splitS t = (T, g)) (hg : g.1 = 0) (h7 : hdK T ≠ 7) :
  ∃ L, splitS (s ++ 10 :: t) = (L, (0, 0)) ∧ bareL L = bareL (A ++ T) := by
 obtain ⟨_, _, hA⟩ := splitS_all0 hA hf
 obtain ⟨_, _, hT⟩ := splitS_all0 hT hg
 obtain ⟨f'', ins2, out2, p, hf'', hin2, rfl, hq⟩ := allF_app (t := t) (s.length + 1) ((s ++ 10 :: t).length + 1) 0 [0] [] A (Nat.zero_le _) insok_one hA (by omega)
 obtain ⟨p2, ht⟩ := allF_ins (t.length + 1) 0 ins2 T hin2 hT h7
 have hsh := allF_sh (pre := s ++ [10]) (s := t) (P := s.length + 1) (by simp) f'' (t.length + 1) 0 ins2 [] (Nat.zero_le _) (by omega) (by omega)
 rw [ht] at hsh
 have e1 : s ++ [10] ++ t = s ++ 10 :: t := by simp
 rw [e1] at hsh
 have hsh : allF f'' (s ++ 10 :: t) (s.length + 1) ins2 [] = .inr ((List.replicate (ins2.length - 1) (tokOut p2) ++ T).map (shT (s.length + 1))) := hsh
 have ho := allF_out out2 (s ++ 10 :: t) f'' (s.length + 1) ins2 []
 rw [List.append_nil, hsh] at ho
 have ho : allF f'' (s ++ 10 :: t) (s.length + 1) ins2 out2 = .inr (out2 ++ (List.replicate (ins2.length - 1) (tokOut p2) ++ T).map (shT (s.length + 1))) := ho
 refine ⟨out2 ++ (List.replicate (ins2.length - 1) (tokOut p2) ++ T).map (shT (s.length + 1)), ?_, ?_⟩
 ·unfold splitS
  rw [if_neg (by omega), hq, ho]
 ·rw [bare_app, bare_sh, bare_app, bare_app, bare_app]
  have : bareL (List.replicate (ins2.length - 1) (tokOut p2)) = bareL (List.replicate (ins2.length - 1) (tokOut p)) := by
   unfold bareL; rw [List.map_replicate, List.map_replicate]; rfl
  rw [this, List.append_assoc]
theorem joins {s t : List UInt8} (hs : (parseS s).2.1 = 0) (ht : (parseS t).2.1 = 0) (h6 : (s ++ 10 :: t).length ≤ 6000) : parseS (s ++ 10 :: t) = ((parseS s).1 ++ (parseS t).1, (0, 0)) := by
 obtain ⟨A, f, hA⟩ : ∃ A f, splitS s = (A, f) := ⟨_, _, rfl⟩
 obtain ⟨T, g, hT⟩ : ∃ T g, splitS t = (T, g) := ⟨_, _, rfl⟩
 obtain ⟨hf, _⟩ := parse_okE hA hs
 obtain ⟨hg, h2⟩ := parse_okE hT ht
 have h7 : hdK T ≠ 7 := fun h => by
  cases T with
  | nil => cases h
  | cons a T => exact (noB_kind (by omega)).top (by simp) _ _ _ _ h2
 obtain ⟨L, hL, hb⟩ := splitS_join h6 hA hf hT hg h7
 exact parse_join hA hT hL hb hs ht
end Go.Proofs.YtonjhfeabphaaaaGreatDoor
end
section
set_option linter.unusedVariables false
set_option linter.unusedSimpArgs false
set_option maxRecDepth 20000
namespace Go.Proofs.YtonjhfeabphaaaaGreatDoor
open Go Go.Ab
def quoC (c : UInt8) : List UInt8 := if c = 10 then [92, 110] else if c = 9 then [92, 116] else if c = 92 then [92, 92] else if c = 34 then [92, 34] else [c]
def quoT (t : List UInt8) : List UInt8 := [34] ++ t.flatMap quoC ++ [34]
abbrev Pcs := List (List UInt8)
def exK : Ex → Nat | .mk k _ _ _ _ => k
def apart (x : Ex) : Bool := exK x == 12 || exK x == 13 || exK x == 14
def eachA (sep : List UInt8) (args : List Pcs) : Pcs := (args.mapIdx fun i p => (if 0 < i then [sep] else []) ++ p).flatten
def sepD (i : Nat) : List UInt8 := if i % 2 = 0 then [44, 32] else [58, 32]
def dictA (w : List (Bool × Pcs)) : List Pcs := w.mapIdx fun i p => (if 0 < i then [sepD i] else []) ++ p.2
def callPs (ns : List (List UInt8)) (w : List (Bool × Pcs)) : List Pcs := w.mapIdx fun i p => (if w.length - ns.length ≤ i then [ns.getD (i - (w.length - ns.length)) [], [61]] else []) ++ p.2
def plW (w : List (Bool × Pcs)) (i : Nat) : Pcs := (w.getD i (false, [])).2
def brk (b : Bool) (p : Pcs) : Pcs := if b then [[40]] ++ p ++ [[41]] else p
def inW (w : List (Bool × Pcs)) (i : Nat) : Pcs := brk (w.getD i (false, [])).1 (w.getD i (false, [])).2
def exB' (k n : Nat) (t : List UInt8) (ns : List (List UInt8)) (w : List (Bool × Pcs)) : Pcs := match k with
 | 1 => [wNone]
 | 2 => [wTrue]
 | 3 => [wFalse]
 | 4 => [Lib.itoa n]
 | 5 => [quoT t]
 | 6 => [t]
 | 7 => [[91]] ++ eachA [44, 32] (w.map (·.2)) ++ [[93]]
 | 8 => [[123]] ++ eachA [] (dictA w) ++ [[125]]
 | 9 => [[91]] ++ plW w 0 ++ [[32, 102, 111, 114, 32], t, [32, 105, 110, 32]] ++ plW w 1 ++ (if w.length > 2 then [[32, 105, 102, 32]] ++ plW w 2 else []) ++ [[93]]
 | 10 => inW w 0 ++ [[40]] ++ eachA [44, 32] (callPs ns w.tail) ++ [[41]]
 | 11 => inW w 0 ++ [[91]] ++ plW w 1 ++ [[93]]
 | 12 => [[110, 111, 116, 32]] ++ inW w 0
 | 13 => [[45]] ++ inW w 0
 | 14 => inW w 0 ++ [[32], t, [32]] ++ inW w 1
 | _ => []
mutual
def exW : Ex → Pcs
 | .mk k n t ks ns => exB' k n t ns (exWs ks)
 termination_by structural x => x
def exWs : List Ex → List (Bool × Pcs)
 | [] => []
 | x :: r => (apart x, exW x) :: exWs r
 termination_by structural x => x
end
theorem exWs_map (l : List Ex) : exWs l = l.map fun x => (apart x, exW x) := by
 induction l with
 | nil => rfl
 | cons x r ih => rw [exWs, ih]; rfl
def joinT : List (List UInt8) → List UInt8
 | [] => []
 | s :: r => s ++ r.flatMap fun t => [44, 32] ++ t
def nl : List UInt8 := [10]
def tab4 : List UInt8 := [32, 32, 32, 32]
mutual
def stW : St → List UInt8 → Pcs
 | .mk k t ns x b e, i => match k with
  | 1 => [[112, 97, 115, 115, 10]]
  | 2 => [[114, 101, 116, 117, 114, 110, 32]] ++ exW x ++ [nl]
  | 3 => [t, [32, 61, 32]] ++ exW x ++ [nl]
  | 4 => [[108, 111, 97, 100, 40], quoT t] ++ ns.flatMap (fun n => [[44, 32], quoT n]) ++ [[41, 10]]
  | 5 => exW x ++ [nl]
  | 6 => [[100, 101, 102, 32], t, [40], joinT ns, [41]] ++ ([[58, 10]] ++ stWs b (i ++ tab4))
  | 7 => [[105, 102, 32]] ++ exW x ++ ([[58, 10]] ++ stWs b (i ++ tab4)) ++ (if e.length > 0 then [i, wElse] ++ ([[58, 10]] ++ stWs e (i ++ tab4)) else [])
  | 8 => [[102, 111, 114, 32], t, [32, 105, 110, 32]] ++ exW x ++ ([[58, 10]] ++ stWs b (i ++ tab4))
  | _ => []
 termination_by structural s _ => s
def stWs : List St → List UInt8 → Pcs
 | [], _ => []
 | s :: r, i => [i] ++ stW s i ++ stWs r i
 termination_by structural s _ => s
end
def srcT (l : List St) : List UInt8 := (stWs l []).flatten
def canonS (s : List UInt8) : List UInt8 × Flt :=
 if (parseS s).2.1 ≠ 0 then ([], (parseS s).2)
 else if 6000 < (srcT (parseS s).1).length ∨ (parseS (srcT (parseS s).1)).2.1 ≠ 0 then ([], (2, 0)) else (srcT (parseS s).1, (0, 0))
theorem eachA_snoc (sep : List UInt8) (l : List Pcs) (p : Pcs) : eachA sep (l ++ [p]) = eachA sep l ++ ((if 0 < l.length then [sep] else []) ++ p) := by
 unfold eachA
 rw [List.mapIdx_concat, List.flatten_append]; simp
theorem eachA_take (sep : List UInt8) (l : List Pcs) (i : Nat) (h : i < l.length) : eachA sep (l.take (i + 1)) = eachA sep (l.take i) ++ ((if 0 < i then [sep] else []) ++ l[i]) := by
 rw [List.take_succ_eq_append_getElem h, eachA_snoc, List.length_take, Nat.min_eq_left (by omega)]
end Go.Proofs.YtonjhfeabphaaaaGreatDoor
end
section
set_option linter.unusedVariables false
set_option linter.unusedSimpArgs false
set_option maxRecDepth 20000
namespace Go.Proofs.YtonjhfeabphaaaaGreatDoor
open Go Go.Ab
theorem writeString_ok {T : TypeId} {rest : List AV} (hT : HoldsB T (rest.length + 1 + 1)) (v u : Nat) (a : AV) (ha : a = .nilp ∨ a = .ptr 0 v 0) (bs cs : List UInt8) (hl : bs.length + cs.length ≤ 140737488355328) :
  CallOk cx 72 [.ptr 0 v 0, .str cs] [(v, some (bBox T a (.ms 1 u 0 bs.length 1 false) rest)), (u, some (byBox bs))]
   (fun o σ' => o = .ret (.tup [.int .i64 cs.length, .nili]) ∧ σ' = [(v, some (bBox T (.ptr 0 v 0) (.ms 1 (u + 1) 0 (bs ++ cs).length 1 false) rest)), (u + 1, some (byBox (bs ++ cs)))]) :=
 callOk_intro (fun a w => Tryz.call72 a w) Tryz.func72 rfl Tryz.ntmps72 rfl fun B => by
  refine ab 1000 rfl trivial ?_
  refine S_call rfl rfl rfl (copyCheck_ok hT v a _ ha _) ?_ (fun v σ' h => by cases h.1)
  rintro _ _ ⟨⟨⟩, rfl⟩
  refine ab 1000 rfl ⟨lble rfl, rfl, ?_, ?_, ?_, rfl, rfl, ?_, rfl, trivial⟩ ?_
  ·show bs.length + cs.length ≤ 9223372036854775807; omega
  ·show (bs.length + cs.length) * 1 ≤ 140737488355328; omega
  ·show 0 + bs.length * 1 = (bs.map byteAV).length; simp
  ·intro y hy; obtain ⟨x, _, rfl⟩ := List.mem_map.1 hy; rfl
  refine S_ret ⟨_, _, rfl, trivial, rfl, ?_⟩
  show [(v, some (Box.cells (_ :: .ms 1 (u + 1) 0 (bs.length + cs.length) 1 false :: rest) _)), (u + 1, some (.cells (bs.map byteAV ++ cs.map byteAV) _))] = _
  simp [byBox, bBox]
  rfl
end Go.Proofs.YtonjhfeabphaaaaGreatDoor
end
section
set_option linter.unusedVariables false
set_option linter.unusedSimpArgs false
set_option maxRecDepth 20000
set_option maxHeartbeats 4000000
namespace Go.Proofs.YtonjhfeabphaaaaGreatDoor
open Go Go.Ab
structure QuSt where
 i : Nat
 b : Nat
def quH (b : Nat) (a : AV) (bs : List UInt8) : Heap := [(0, some (bBox 61 a (bufV b bs) [])), bufB b bs]
theorem wbT (b : Nat) (a : AV) (ha : a = .nilp ∨ a = .ptr 0 0 0) (bs : List UInt8) (c : UInt8) (hl : bs.length < 140737488355328) :
  CallOk cx 29 [.ptr 0 0 0, byteAV c] (quH b a bs) (fun o σ' => o = .ret .nili ∧ σ' = quH (b + 1) (.ptr 0 0 0) (bs ++ [c])) :=
 writeByteU_ok holdsB 0 b a ha bs c hl
theorem quoC_len (c : UInt8) : (quoC c).length ≤ 2 := by unfold quoC; split <;> (try split) <;> (try split) <;> (try split) <;> simp
theorem quo_len (t : List UInt8) : (t.flatMap quoC).length ≤ 2 * t.length := by
 induction t with
 | nil => simp
 | cons c r ih => rw [List.flatMap_cons, List.length_append, List.length_cons]; have := quoC_len c; omega
theorem quoT_len (t : List UInt8) : (quoT t).length ≤ 2 * t.length + 2 := by
 unfold quoT
 have := quo_len t
 rw [List.length_append, List.length_append, List.length_singleton]; omega
theorem quo_two (c : UInt8) (h : c = 10 ∨ c = 9 ∨ c = 92 ∨ c = 34) : ∃ (k : Nat) (d : UInt8), k < 4 ∧ Lib.indexByte [10, 9, 92, 34] c = ((k : Nat) : Int) ∧ quoC c = [92, d] ∧ [110, 116, 92, 34].getD k 0 = d := by
 rcases h with rfl | rfl | rfl | rfl
 ·exact ⟨0, 110, by decide, rfl, rfl, rfl⟩
 ·exact ⟨1, 116, by decide, rfl, rfl, rfl⟩
 ·exact ⟨2, 92, by decide, rfl, rfl, rfl⟩
 ·exact ⟨3, 34, by decide, rfl, rfl, rfl⟩
theorem quo_one (c : UInt8) (h : ¬ (c = 10 ∨ c = 9 ∨ c = 92 ∨ c = 34)) : Lib.indexByte [10, 9, 92, 34] c = -1 ∧ quoC c = [c] := by
 have c1 : c ≠ 10 := fun e => h (.inl e)
 have c2 : c ≠ 9 := fun e => h (.inr (.inl e))
 have c3 : c ≠ 92 := fun e => h (.inr (.inr (.inl e)))
 have c4 : c ≠ 34 := fun e => h (.inr (.inr (.inr e)))
 exact ⟨by simp [Lib.indexByte, Ne.symm c1, Ne.symm c2, Ne.symm c3, Ne.symm c4], by unfold quoC; rw [if_neg c1, if_neg c2, if_neg c3, if_neg c4]⟩
theorem Quote_ok (s : List UInt8) (hs : s.length ≤ 70000000000000) : Calc cx 14 [.str s] (.str (quoT s)) :=
 pure_intro (fun a w => Tryz.call14 a w) Tryz.func14 rfl Tryz.ntmps14 rfl .str fun B => by
  refine pa [] rfl ?_ ?_
  ·(repeat' with_reducible apply AllP_cons) <;> first | exact aC | skip
  refine S_dead ?_ ⟨.skip, _, .inr ⟨_, _, _, rfl⟩⟩
  refine S_heap (quH 0 .nilp []) rfl ?_
  have h0 := wbT 0 .nilp (.inl rfl) [] 34 (by decide)
  refine pa [.f .nili (fun _ => quH 1 (.ptr 0 0 0) [34])] rfl ?_ ?_
  ·(repeat' with_reducible apply AllP_cons) <;> first | exact aC | skip
  have hbl : (s.map byteAV).length = s.length := by simp
  refine S_while (α := QuSt) (fun q => [(3, .ptr 0 0 0), (9, .sl true false 1 (s.map byteAV)), (10, .int .i64 (s.length : Nat)), (11, .int .i64 (q.i : Nat))]) (fun q => quH q.b (.ptr 0 0 0) ([34] ++ (s.take q.i).flatMap quoC))
   (fun q => q.i ≤ s.length) (fun q => s.length - q.i) ⟨0, 1⟩ (Nat.zero_le _) (.cons rfl (.cons rfl (.cons (by show AV.int .i64 (((s.map byteAV).length : Nat) : Int) = _; rw [hbl]) (.cons rfl (.nil _))))) rfl ?_
  rintro ⟨i, b⟩ hi
  have hi : i ≤ s.length := hi
  have hlen : ([34] ++ (s.take i).flatMap quoC).length ≤ 2 * s.length + 1 := by
   have := quo_len (s.take i)
   rw [List.length_take] at this
   rw [List.length_append, List.length_singleton]; omega
  show S cx _ B _ _ [(3, .ptr 0 0 0), (9, .sl true false 1 (s.map byteAV)), (10, .int .i64 (s.length : Nat)), (11, .int .i64 (i : Nat))] (quH b (.ptr 0 0 0) ([34] ++ (s.take i).flatMap quoC))
  by_cases hlt : i < s.length
  ·have hel : (s.map byteAV)[((i : Nat) : Int).toNat]? = some (byteAV s[i]) := by rw [Int.toNat_natCast]; simp [hlt]
   have htk : (s.take (i + 1)).flatMap quoC = (s.take i).flatMap quoC ++ quoC s[i] := by
    rw [List.take_succ_eq_append_getElem hlt, List.flatMap_append]; simp
   have hK := indexByte_ok [10, 9, 92, 34] ((s[i].toNat : Nat) : Int)
   have hu : (((s[i].toNat : Nat) : Int).toNat).toUInt8 = s[i] := by rw [Int.toNat_natCast]; simp
   rw [hu] at hK
   by_cases esc : s[i] = 10 ∨ s[i] = 9 ∨ s[i] = 92 ∨ s[i] = 34
   ·obtain ⟨k, d, h4, hk, hq, hd⟩ := quo_two s[i] esc
    rw [hk] at hK
    have h1 := wbT b (.ptr 0 0 0) (.inr rfl) ([34] ++ (s.take i).flatMap quoC) 92 (by omega)
    have h2 := wbT (b + 1) (.ptr 0 0 0) (.inr rfl) ([34] ++ (s.take i).flatMap quoC ++ [92]) d (by simp only [List.length_append, List.length_singleton] at hlen ⊢; omega)
    have e0 : decide (((k : Nat) : Int) ≥ 0) = true := decide_eq_true (by omega)
    have hdd : (((([110, 116, 92, 34] : List UInt8).getD ((k : Nat) : Int).toNat 0).toNat : Nat) : Int) = ((d.toNat : Nat) : Int) := by rw [Int.toNat_natCast, hd]
    refine pa [.b true, .v (byteAV s[i]), .v (.int .i64 (k : Nat)), .b true, .f .nili (fun _ => quH (b + 1) (.ptr 0 0 0) ([34] ++ (s.take i).flatMap quoC ++ [92])), .f .nili (fun _ => quH (b + 2) (.ptr 0 0 0) ([34] ++ (s.take i).flatMap quoC ++ [92] ++ [d]))] rfl ?_ ?_
    ·(repeat' with_reducible apply AllP_cons) <;> first | exact aC | skip
     ·exact ⟨_, hK, .cons (.refl .str) (.cons (.refl .int) (.nil _))⟩
     ·show CallOk cx 29 [.ptr 0 0 0, .int .u8 (((([110, 116, 92, 34] : List UInt8).getD ((k : Nat) : Int).toNat 0).toNat : Nat) : Int)] _ _
      rw [hdd]; exact h2
    refine S_round ⟨i + 1, b + 2⟩ (by show s.length - (i + 1) < s.length - i; omega) hlt (.cons rfl (.cons rfl (.cons rfl (.cons (by show AV.int .i64 (IntKind.i64.wrap (((i : Nat) : Int) + 1)) = .int .i64 ((i + 1 : Nat) : Int); exact ai64 rfl (by omega)) (.nil _))))) ?_
    show quH (b + 2) (.ptr 0 0 0) ([34] ++ (s.take i).flatMap quoC ++ [92] ++ [d]) = quH (b + 2) (.ptr 0 0 0) ([34] ++ (s.take (i + 1)).flatMap quoC)
    rw [htk, hq]; simp
   obtain ⟨hk, hq⟩ := quo_one s[i] esc
   rw [hk] at hK
   have h1 := wbT b (.ptr 0 0 0) (.inr rfl) ([34] ++ (s.take i).flatMap quoC) s[i] (by omega)
   refine pa [.b true, .v (byteAV s[i]), .v (.int .i64 (-1)), .b false, .f .nili (fun _ => quH (b + 1) (.ptr 0 0 0) ([34] ++ (s.take i).flatMap quoC ++ [s[i]]))] rfl ?_ ?_
   ·(repeat' with_reducible apply AllP_cons) <;> first | exact aC | skip
    exact ⟨_, hK, .cons (.refl .str) (.cons (.refl .int) (.nil _))⟩
   refine S_round ⟨i + 1, b + 1⟩ (by show s.length - (i + 1) < s.length - i; omega) hlt (.cons rfl (.cons rfl (.cons rfl (.cons (by show AV.int .i64 (IntKind.i64.wrap (((i : Nat) : Int) + 1)) = .int .i64 ((i + 1 : Nat) : Int); exact ai64 rfl (by omega)) (.nil _))))) ?_
   show quH (b + 1) (.ptr 0 0 0) ([34] ++ (s.take i).flatMap quoC ++ [s[i]]) = quH (b + 1) (.ptr 0 0 0) ([34] ++ (s.take (i + 1)).flatMap quoC)
   rw [htk, hq, List.append_assoc]
  ·obtain rfl : i = s.length := by omega
   rw [List.take_length] at hlen ⊢
   have h1 := wbT b (.ptr 0 0 0) (.inr rfl) ([34] ++ s.flatMap quoC) 34 (by omega)
   have h2 : CallOk cx 31 [.ptr 0 0 0] (quH (b + 1) (.ptr 0 0 0) (quoT s)) _ := stringU_ok (T := 61) 0 (b + 1) (.ptr 0 0 0) (quoT s) (by have := quoT_len s; omega)
   refine pa [.b false, .f .nili (fun _ => quH (b + 1) (.ptr 0 0 0) (quoT s)), .f (.str (quoT s)) (fun _ => [(0, some (bBox 61 (.ptr 0 0 0) (bufV (b + 1) (quoT s)) [])), (b + 1, none)])] rfl ?_ ?_
   ·(repeat' with_reducible apply AllP_cons) <;> first | exact aC | skip
   exact S_retc .str rfl trivial rfl
end Go.Proofs.YtonjhfeabphaaaaGreatDoor
end
section
set_option linter.unusedVariables false
set_option linter.unusedSimpArgs false
set_option maxRecDepth 20000
namespace Go.Proofs.YtonjhfeabphaaaaGreatDoor
open Go Go.Ab
def tokA (t : Tok) : AV := .agg (tokC t)
def fltA (e : Flt) : AV := .agg [.int .i64 (e.1 : Nat), .int .i64 (e.2 : Nat)]
def splitAV (x : List Tok × Flt) : AV := .tup [.sl true false 4 (x.1.map tokA), fltA x.2]
theorem tokC_free {st : Bool} (t : Tok) : ∀ x ∈ tokC t, Free st x := by
 intro x hx
 simp only [tokC, List.mem_cons, List.not_mem_nil, or_false] at hx
 rcases hx with rfl | rfl | rfl | rfl
 ·exact .int
 ·exact .str
 ·exact .int
 ·exact .int
theorem toks_free {st : Bool} (l : List Tok) : ∀ x ∈ l.map tokA, Free st x := by
 intro x hx; obtain ⟨t, _, rfl⟩ := List.mem_map.1 hx; exact .agg (tokC_free t)
theorem flt_free {st : Bool} (e : Flt) : Free st (fltA e) := .agg (by intro x hx; simp at hx; rcases hx with rfl | rfl; exact .int; exact .int)
theorem splitAV_free (x : List Tok × Flt) : Free true (splitAV x) := .tup (by intro y hy; simp at hy; rcases hy with rfl | rfl; exact .sl (fun _ => rfl) (toks_free _); exact flt_free _)
theorem toks_cells (l : List Tok) : (l.map tokA).flatMap AV.cells = l.flatMap tokC := by
 induction l with
 | nil => rfl
 | cons t r ih => rw [List.map_cons, List.flatMap_cons, List.flatMap_cons, ih]; rfl
theorem tok_cells_free {st : Bool} (l : List Tok) : ∀ x ∈ l.flatMap tokC, Free st x := by
 intro x hx
 obtain ⟨t, _, ht⟩ := List.mem_flatMap.1 hx
 exact tokC_free t x ht
def xo (x : AV) : Nat × Option Box := (0, some (.cells [x] ⟨false, none⟩))
def xf (e : Flt) : Nat × Option Box := (0, some (.cells [.int .i64 (e.1 : Nat), .int .i64 (e.2 : Nat)] ⟨false, some 25⟩))
theorem clos_ret (x : AV) (e : Flt) (a b c : Nat × Box) (R : Md → Heap → Prop) (h : ∀ y, R .ret [xo x, xf e, (a.1, some a.2), (b.1, some b.2), (c.1, some c.2), y]) :
  DCall cx (.func (.func 34) [] [.ptr 0 0 0, .ptr 1 0 0]) .ret [xo x, xf e, (a.1, some a.2), (b.1, some b.2), (c.1, some c.2)] R :=
 dcall_recover (fun a w => Tryz.call34 a w) Tryz.func34 rfl Tryz.ntmps34 rfl rfl rfl rfl rfl rfl rfl fun B => by
  refine pa [.b false] rfl ?_ ?_
  ·(repeat' with_reducible apply AllP_cons) <;> first | exact aC | skip
  exact S_nil ⟨_, _, rfl, trivial, _, rfl, h _⟩
theorem clos_pan (x : AV) (e g : Flt) (a b c : Nat × Box) (R : Md → Heap → Prop) (h : ∀ y, R (.pan (flt g) true) [xo .nils, xf g, (a.1, some a.2), (b.1, some b.2), (c.1, some c.2), y]) :
  DCall cx (.func (.func 34) [] [.ptr 0 0 0, .ptr 1 0 0]) (.pan (flt g) false) [xo x, xf e, (a.1, some a.2), (b.1, some b.2), (c.1, some c.2)] R :=
 dcall_recover (fun a w => Tryz.call34 a w) Tryz.func34 rfl Tryz.ntmps34 rfl rfl rfl rfl rfl rfl rfl fun B => by
  refine pa [.b true] rfl ?_ ?_
  ·(repeat' with_reducible apply AllP_cons) <;> first | exact aC | skip
  refine S_drawC [xo .nils, xf e, (a.1, some a.2), (b.1, some b.2), (c.1, some c.2), xf g] 1 2 [] [.tup []] rfl rfl rfl rfl rfl ⟨rfl, rfl, rfl, rfl, rfl, rfl, lble rfl, rfl, rfl, trivial⟩ ?_
  refine pa [] rfl ?_ ?_
  ·(repeat' with_reducible apply AllP_cons) <;> first | exact aC | skip
  exact S_nil ⟨_, _, rfl, trivial, _, rfl, h _⟩
theorem Split_ok (s : List UInt8) : Calc cx 18 [.str s] (splitAV (splitS s)) :=
 calc_of (splitAV_free _) (callOk_introD (fun a w => Tryz.call18 a w) Tryz.func18 rfl Tryz.ntmps18 rfl fun B hB => by
  unfold splitS
  by_cases hb : 6000 < s.length
  ·rw [if_pos hb]
   refine pa [.b true] rfl ?_ ?_
   ·(repeat' with_reducible apply AllP_cons) <;> first | exact aC | skip
   refine S_ret ⟨_, rfl, _, _, rfl, ⟨rfl, rfl, trivial⟩, _, rfl, ?_⟩
   exact Fzs.tup (.cons .nils (.cons (.refl (flt_free (2, 0))) .nil))
  ·rw [if_neg hb]
   refine pa [.b false] rfl ?_ ?_
   ·(repeat' with_reducible apply AllP_cons) <;> first | exact aC | skip
   refine S_defer rfl rfl rfl rfl hB ?_
   refine go (M := [11]) 5 rfl trivial ?_
   refine S_unfull (t := 11) rfl ⟨.skip, _, .inr ⟨_, _, _, rfl⟩⟩ ?_
   refine pa [] rfl ?_ ?_
   ·(repeat' with_reducible apply AllP_cons) <;> first | exact aC | skip
   refine S_heap [xo .nils, xf (0, 0), insB 0 [0], (0, some (.cells [.str s, .int .i64 0, .int .i64 0, .ms 2 0 0 1 1 false, .nils] ⟨false, some 75⟩))] rfl ?_
   refine S_ghost (id := 3) (j := 4) 4 ⟨false, none⟩ rfl rfl rfl (Nat.ne_of_lt (lble rfl)) ⟨.skip, _, .inr ⟨_, _, _, rfl⟩⟩ ?_
   refine S_callf [3, 2, 4] (all_ok 0 0 0 s (by omega)) rfl (.cons (.ptr rfl) (.nil _)) (Part.mk' (es := [(0, some (.cells [.str s, .int .i64 0, .int .i64 0, .ms 2 0 0 1 1 false, .ms 4 0 0 0 4 false] ⟨false, some 75⟩)), insB 0 [0], outB 0 []]) rfl rfl
    (.cons (.live (.cells (.cons (.free .str) (.cons (.free .int) (.cons (.free .int) (.cons (.ms rfl) (.cons (.ms rfl) (.nil _)))))))) (.cons (.live (.cells (.free (ints_free [0])))) (.cons (.live (.cells (.nil _))) (.nil _))))) rfl rfl ?_ ?_
   ·intro y σ1 h
    cases hx : allF (s.length + 1) s 0 [0] [] with
    | inl e => rw [hx] at h; cases h.1
    | inr l =>
     rw [hx] at h
     obtain ⟨u, w, i, o, ins, h1, rfl⟩ := h
     cases h1
     refine ⟨.tup [], [(0, some (.cells [.str s, .int .i64 i, .int .i64 o, .ms 2 u 0 ins.length 1 false, .ms 4 w 0 l.length 4 false] ⟨false, some 75⟩)), insB u ins, outB w l],
      .cons (.live (.cells (.cons (.free .str) (.cons (.free .int) (.cons (.free .int) (.cons (.ms rfl) (.cons (.ms rfl) (.nil _)))))))) (.cons (.live (.cells (.free (ints_free ins)))) (.cons (.live (.cells (.free (tok_cells_free l)))) (.nil _))), .free (.tup (by simp)), ?_⟩
     refine pa [] rfl ?_ ?_
     ·(repeat' with_reducible apply AllP_cons) <;> first | exact aC | skip
     refine S_ret ⟨_, rfl, clos_ret (.ms 4 w 0 l.length 4 false) (0, 0) (u, .cells (ints ins) ⟨false, none⟩) (0, .cells [.str s, .int .i64 i, .int .i64 o, .ms 2 u 0 ins.length 1 false, .ms 4 w 0 l.length 4 false] ⟨false, some 75⟩) (w, .cells (l.flatMap tokC) ⟨false, none⟩) _ fun y => ?_⟩
     refine ⟨_, _, rfl, ⟨rfl, rfl, trivial⟩, _, rfl, Fzs.tup (.cons ?_ (.cons (.refl (flt_free (0, 0))) .nil))⟩
     refine .ms rfl (by rw [tokC_len]; omega) ?_ ?_ (by simp) (toks_free l)
     ·rw [toks_cells, List.drop_zero, List.take_of_length_le (by rw [tokC_len]; omega)]
     ·intro x hx; obtain ⟨t, _, rfl⟩ := List.mem_map.1 hx; rfl
   ·intro y σ1 h
    cases hx : allF (s.length + 1) s 0 [0] [] with
    | inr l => rw [hx] at h; obtain ⟨_, _, _, _, _, h1, _⟩ := h; cases h1
    | inl e =>
     rw [hx] at h
     obtain ⟨h1, v, u, w, i, o, ins, out, rfl⟩ := h
     cases h1
     refine ⟨flt e, [(v, some (.cells [.str s, .int .i64 i, .int .i64 o, .ms 2 u 0 ins.length 1 false, .ms 4 w 0 out.length 4 false] ⟨false, some 75⟩)), insB u ins, outB w out],
      .cons (.live (.cells (.cons (.free .str) (.cons (.free .int) (.cons (.free .int) (.cons (.ms rfl) (.cons (.ms rfl) (.nil _)))))))) (.cons (.live (.cells (.free (ints_free ins)))) (.cons (.live (.cells (.free (tok_cells_free out)))) (.nil _))), .free (.iface (flt_free e)), ?_⟩
     refine ⟨_, rfl, clos_pan .nils (0, 0) e (u, .cells (ints ins) ⟨false, none⟩) (v, .cells [.str s, .int .i64 i, .int .i64 o, .ms 2 u 0 ins.length 1 false, .ms 4 w 0 out.length 4 false] ⟨false, some 75⟩) (w, .cells (out.flatMap tokC) ⟨false, none⟩) _ fun y => ?_⟩
     exact ⟨_, _, rfl, ⟨rfl, rfl, trivial⟩, _, rfl, Fzs.tup (.cons .nils (.cons (.refl (flt_free e)) .nil))⟩)
end Go.Proofs.YtonjhfeabphaaaaGreatDoor
end
section
set_option linter.unusedVariables false
set_option linter.unusedSimpArgs false
namespace Go.Ab
open Go
def drawOkP (ops : List Oper) (jc : Nat) : Bool :=
 allB ((List.range (jc + 1)).map fun j => match ops[j]? with
  | some o =>
   match allB ((slotsOf ops o).map fun t => readOk ops (jc + 1) j t) with
   | true => match o.dst with
    | some d => allB ((List.range (jc + 1)).map fun i => match eqDst (dstOf ops i) d with | true => Nat.beq i j | false => true)
    | none => true
   | false => false
  | none => false) &&
 allB ((List.range ops.length).map fun j => match Nat.blt jc j with
  | true => anyB ((List.range j).map fun k => match Nat.ble jc k with | true => edge ops j k | false => false)
  | false => true) &&
 allB ((List.range ops.length).map fun j => match ops[j]? with
  | some o => allB (o.after.toList.map fun e => match e.ground with
   | .textOnly _ => true
   | .gcOnly _ => true
   | _ => Nat.blt e.on j)
  | none => true)
theorem drawOkP_spec {ops : Array Oper} {jc : Nat} (h : drawOkP ops.toList jc = true) :
  (∀ j o t, j < jc + 1 → ops.toList[j]? = some o → t ∈ slotsOf ops.toList o → readOk ops.toList (jc + 1) j t = true) ∧
  (∀ i j d, i < jc + 1 → j < jc + 1 → dstOf ops.toList i = some d → dstOf ops.toList j = some d → i = j) ∧
  (∀ j, jc < j → j < ops.size → ∃ k, jc ≤ k ∧ k < j ∧ edge ops.toList j k = true) ∧ (∀ j i, edge ops.toList j i = true → i < j) := by
 unfold drawOkP at h
 simp only [Bool.and_eq_true] at h
 obtain ⟨⟨h1, h2⟩, h3⟩ := h
 refine ⟨fun j o t hj ho ht => ?_, fun i j d hi hj hdi hdj => ?_, fun j hj hjs => ?_, fun j i he => ?_⟩
 ·have := allB_mem h1 _ (List.mem_map.2 ⟨j, List.mem_range.2 hj, rfl⟩)
  rw [ho] at this
  simp only at this
  split at this
  ·rename_i hb
   exact allB_mem hb _ (List.mem_map.2 ⟨t, ht, rfl⟩)
  ·cases this
 ·have := allB_mem h1 _ (List.mem_map.2 ⟨j, List.mem_range.2 hj, rfl⟩)
  obtain ⟨o, ho, hod⟩ := Option.bind_eq_some_iff.1 hdj
  rw [ho] at this
  simp only at this
  split at this
  ·rw [hod] at this
   simp only at this
   have := allB_mem this _ (List.mem_map.2 ⟨i, List.mem_range.2 hi, rfl⟩)
   rw [eqDst_iff.2 hdi] at this
   exact Nat.eq_of_beq_eq_true this
  ·cases this
 ·have := allB_mem h2 _ (List.mem_map.2 ⟨j, List.mem_range.2 (by simpa using hjs), rfl⟩)
  rw [lt_blt hj] at this
  obtain ⟨k, hk, he⟩ := List.mem_map.1 (anyB_mem this)
  have hkm := List.mem_range.1 hk
  split at he
  ·rename_i hb
   exact ⟨k, Nat.le_of_ble_eq_true hb, hkm, he⟩
  ·cases he
 ·obtain ⟨o, ho, e, hee, hb, rfl⟩ := edge_iff.1 he
  have hj := (Array.getElem?_eq_some_iff.1 ho).1
  have := allB_mem h3 _ (List.mem_map.2 ⟨j, List.mem_range.2 (by simpa using hj), rfl⟩)
  rw [Array.getElem?_toList, ho] at this
  have := allB_mem this _ (List.mem_map.2 ⟨e, by simpa using hee, rfl⟩)
  unfold Region.binds at hb
  cases hg : e.ground <;> simp [hg] at hb this <;> omega
section
variable {cx : Cx} {n : Nat} {B : Bs} {k : List AI} {Q : Post} {fr : Fr} {σ : Heap}
theorem wpAny_pan {ops : Array Oper} {jc : Nat} {vals : List AV} {K : List Nat} {Q' : Exit → Act → World → Prop} (hjN : jc < ops.size) (hlen : vals.length = jc)
  (hread : ∀ j o t, j < jc + 1 → ops.toList[j]? = some o → t ∈ slotsOf ops.toList o → readOk ops.toList (jc + 1) j t = true)
  (huniq : ∀ i j d, i < jc + 1 → j < jc + 1 → dstOf ops.toList i = some d → dstOf ops.toList j = some d → i = j)
  (hbl : ∀ j, jc < j → j < ops.size → ∃ k, jc ≤ k ∧ k < j ∧ edge ops.toList j k = true) (hlo : ∀ j i, edge ops.toList j i = true → i < j)
  (hstep : ∀ (j : Nat) o v, j < jc → ops.toList[j]? = some o → vals[j]? = some v → StepD cx n ops σ K (restr ops.toList o (ovl (ops.toList.take j) (vals.take j) fr)) o v)
  (hpan : ∀ o, ops.toList[jc]? = some o → guardA ops o K (restr ops.toList o (ovl (ops.toList.take jc) vals fr)) = some true ∧
   ∀ r a w, Inv cx r σ w → FRel r w n (restr ops.toList o (ovl (ops.toList.take jc) vals fr)) a → FRel r w n [(n, fr.get n)] a → Dfs B a → Ext B.r B.σ B.w r σ w → o.wp cx.P a w (fun _ _ => False) Q') :
  ∀ (f : Nat) (listed : Array Bool) (r : Rl) (a : Act) (w : World), listed.size = ops.size → unl listed = f → Down ops.toList listed → (∀ j, jc ≤ j → ¬ Listed listed j) →
   FL r w n fr ops.toList jc vals listed a → Inv cx r σ w → Dfs B a → Ext B.r B.σ B.w r σ w → wpAny cx.P .any ops Q' f listed a w := by
 have ovlN : ∀ i, i ≤ jc → ∀ vs, (ovl (ops.toList.take i) (vals.take i) fr).get n = .mark vs → fr.get n = .mark vs := by
  intro i him vs hm
  rcases ovl_get (ops.toList.take i) (vals.take i) fr n (by simp [hlen]; omega) with ⟨i', o', v', k1, k2, k3, k4⟩ | ⟨k1, k2⟩
  ·exfalso
   have hi'i : i' < i := by
    rcases Nat.lt_or_ge i' i with h' | h'
    ·exact h'
    ·rw [List.getElem?_eq_none (by simp; omega)] at k1; cases k1
   rw [List.getElem?_take_of_lt hi'i] at k1 k3
   have hds := (hstep i' o' v' (by omega) k1 k3).1
   rw [k2] at hds
   have := blt_lt hds
   omega
  ·rw [← k2]; exact hm
 intro f
 induction f with
 | zero =>
  intro listed r a w hs hf hdn hno hfl hi hd hx
  exfalso
  have h0 : listed.getD jc false = false := by
   cases hb : listed.getD jc false with
   | false => rfl
   | true => exact absurd hb (hno jc (Nat.le_refl _))
  have := unl_set (by omega) h0
  omega
 | succ f ih =>
  intro listed r a w hs hf hdn hno hfl hi hd hx
  refine ⟨fun h0 => ?_, fun i hir => ?_⟩
  ·obtain ⟨j, h1, h2, h3⟩ := exists_least (p := fun j => ¬ Listed listed j) (jc + 1) ⟨jc, Nat.lt_succ_self _, hno jc (Nat.le_refl _)⟩
   have hjr : j ∈ Region.ready .any ops listed := by
    refine mem_ready.2 ⟨?_, ops[j]'(by omega), Array.getElem?_eq_getElem _, fun e he hb => ?_⟩
    ·rw [listed_true (by omega)]; simpa [Listed] using h2
    ·have h4 : e.on < j := hlo j e.on (edge_iff.2 ⟨ops[j]'(by omega), Array.getElem?_eq_getElem _, e, he, hb, rfl⟩)
     exact Classical.byContradiction fun h5 => h3 e.on h4 h5
   rw [h0] at hjr; cases hjr
  ·obtain ⟨h0, o, ho, hedges⟩ := mem_ready.1 hir
   have hilt := (Array.getElem?_eq_some_iff.1 ho).1
   rw [listed_true (by omega)] at h0
   have hed : ∀ j, edge ops.toList i j = true → Listed listed j := by
    intro j hj
    obtain ⟨o', ho', e, he, hb, hon⟩ := edge_iff.1 hj
    rw [ho] at ho'; cases ho'
    rw [← hon]; exact hedges e he hb
   have him : i < jc + 1 := by
    rcases Nat.lt_or_ge i (jc + 1) with h' | h'
    ·exact h'
    ·exfalso
     obtain ⟨k, k1, k2, k3⟩ := hbl i (by omega) hilt
     exact hno k k1 (hed k k3)
   have hol : ops.toList[i]? = some o := by simpa using ho
   have hnl : ¬ Listed listed i := by simp [Listed, h0]
   have hfr : FRel r w n (restr ops.toList o (ovl (ops.toList.take i) (vals.take i) fr)) a := by
    refine ⟨hfl.size, fun t => ?_, fun vs hm => ?_⟩
    case refine_2 =>
     unfold restr at hm
     rcases restr_get (slotsOf ops.toList o) (ovl (ops.toList.take i) (vals.take i) fr) n with h | ⟨h1, h2⟩
     ·rw [h] at hm; cases hm
     ·rw [h2] at hm
      exact hfl.defs vs (ovlN i (by omega) vs hm)
    unfold restr
    rcases restr_get (slotsOf ops.toList o) (ovl (ops.toList.take i) (vals.take i) fr) t with h | ⟨h1, h2⟩
    ·rw [h]; exact .top
    ·rw [h2]
     have hro := hread i o t him hol h1
     have hrd : ∀ i', i' < jc + 1 → dstOf ops.toList i' = some t → (i' < i → edge ops.toList i i' = true) ∧ (i < i' → edge ops.toList i' i = true) := by
      intro i' hi' hd'
      have := allB_mem hro _ (List.mem_map.2 ⟨i', List.mem_range.2 hi', rfl⟩)
      rw [eqDst_iff.2 hd'] at this
      simp only at this
      constructor
      ·intro hlt
       rw [lt_blt hlt] at this
       exact this
      ·intro hlt
       rw [show Nat.blt i' i = false by cases hbb : Nat.blt i' i with | false => rfl | true => (have := blt_lt hbb; omega), show Nat.beq i' i = false by cases hbb : Nat.beq i' i with | false => rfl | true => (have := Nat.eq_of_beq_eq_true hbb; omega)] at this
       exact this
     rcases ovl_get (ops.toList.take i) (vals.take i) fr t (by simp [hlen]; omega) with ⟨i', o', v', k1, k2, k3, k4⟩ | ⟨k1, k2⟩
     ·rw [k4]
      have hi'i : i' < i := by
       rcases Nat.lt_or_ge i' i with h' | h'
       ·exact h'
       ·rw [List.getElem?_eq_none (by simp; omega)] at k1; cases k1
      rw [List.getElem?_take_of_lt hi'i] at k1 k3
      have hd' : dstOf ops.toList i' = some t := by simp only [dstOf, k1, Option.bind_some, k2]
      exact hfl.done i' t v' (by omega) (hed _ ((hrd i' (by omega) hd').1 hi'i)) hd' k3
     ·rw [k2]
      refine hfl.rest t (fun j hj hlj hdj => ?_)
      rcases Nat.lt_trichotomy j i with h' | h' | h'
      ·obtain ⟨oj, hoj, hod⟩ := Option.bind_eq_some_iff.1 hdj
       exact k1 j oj (by rw [List.getElem?_take_of_lt h']; exact hoj) hod
      ·subst h'; exact hnl hlj
      ·exact hnl (hdn j i hlj ((hrd j (by omega) hdj).2 h'))
   rcases Nat.lt_or_ge i jc with hij | hij
   case inr =>
    obtain rfl : i = jc := by omega
    rw [show vals.take i = vals from List.take_of_length_le (by omega)] at hfr
    obtain ⟨hg, hp⟩ := hpan o hol
    have hfn : FRel r w n [(n, fr.get n)] a := by
     refine ⟨hfl.size, fun t => ?_, fun vs hm => ?_⟩
     ·rw [Fr.get_cons]
      split
      ·rename_i hnt
       subst hnt
       have : a.tmps.getD n undef = undef := by
        rw [Array.getD_eq_getD_getElem?, Array.getElem?_eq_none (by rw [hfl.size]; exact Nat.le_refl _)]; rfl
       refine hfl.rest n (fun j hj hlj hdj => ?_)
       obtain ⟨oj, hoj, hod⟩ := Option.bind_eq_some_iff.1 hdj
       obtain ⟨v, hv⟩ : ∃ v, vals[j]? = some v := ⟨vals[j]'(by omega), List.getElem?_eq_getElem _⟩
       have hds := (hstep j oj v hj hoj hv).1
       rw [hod] at hds
       have := blt_lt hds
       omega
      ·exact .top
     ·rw [Fr.get_cons, if_pos rfl] at hm
      exact hfl.defs vs hm
    unfold wpOp
    simp only [ho]
    rw [guardA_wanted (cx := cx) hfr hg]
    simp only [if_true]
    exact .inl (Oper.wp_mono (fun a' w' h => h.elim) (hp r a w hi hfr hfn hd hx))
   obtain ⟨v, hv⟩ : ∃ v, vals[i]? = some v := ⟨vals[i]'(by omega), List.getElem?_eq_getElem _⟩
   obtain ⟨hdst, hst⟩ := hstep i o v hij hol hv
   have next : ∀ (r' : Rl) (w' : World) (v' : Value), VRel r' w' v' v → Inv cx r' σ w' → Ext r σ w r' σ w' → wpAny cx.P .any ops Q' f (listed.setIfInBounds i true) (a.put o.dst v') w' := by
    intro r' w' v' hv' hi' hx'
    have hun := unl_set (by omega) h0
    refine ih _ r' _ w' (by simpa using hs) (by omega) (fun j l hj he => ?_) (fun j hj hl => ?_) ⟨?_, fun j d u hj hl hdj hu => ?_, fun t ht => ?_, fun vs hm => by rw [Act.put_defers]; exact (hfl.defs vs hm).mono (hx'.grow hi)⟩ hi' (hd.put _ _) (hx.trans hx')
    ·rw [listed_set (by omega)] at hj ⊢
     rcases hj with rfl | hj
     ·exact .inr (hed l he)
     ·exact .inr (hdn j l hj he)
    ·rw [listed_set (by omega)] at hl
     rcases hl with rfl | hl
     ·omega
     ·exact hno j hj hl
    ·cases hod : o.dst <;> simp [Act.put, hfl.size]
    ·have hg := hx'.grow hi
     rw [listed_set (by omega)] at hl
     by_cases hji : j = i
     ·subst hji
      rw [hv] at hu; cases hu
      have hod : o.dst = some d := by simpa [dstOf, hol] using hdj
      rw [hod]
      rw [hod] at hdst
      simp only [Act.put]
      rw [getD_setIfInBounds (by rw [hfl.size]; exact blt_lt hdst), if_pos rfl]
      exact hv'
     ·have hl' := hl.resolve_left hji
      have hold := (hfl.done j d u hj hl' hdj hu).mono hg
      cases hod : o.dst with
      | none => exact hold
      | some d' =>
       have hne : d' ≠ d := fun e => hji (huniq j i d (by omega) him hdj (by subst e; simp [dstOf, hol, hod]))
       rw [hod] at hdst
       simp only [Act.put]
       rw [getD_setIfInBounds (by rw [hfl.size]; exact blt_lt hdst), if_neg hne]
       exact hold
    ·have hg := hx'.grow hi
     have hold := (hfl.rest t (fun j hj hl => ht j hj ((listed_set (by omega)).2 (.inr hl)))).mono hg
     have hti := ht i hij ((listed_set (by omega)).2 (.inl rfl))
     cases hod : o.dst with
     | none => exact hold
     | some d' =>
      have hne : d' ≠ t := fun e => hti (by subst e; simp [dstOf, hol, hod])
      rw [hod] at hdst
      simp only [Act.put]
      rw [getD_setIfInBounds (by rw [hfl.size]; exact blt_lt hdst), if_neg hne]
      exact hold
   unfold wpOp
   simp only [ho]
   rcases hst with ⟨hg, rfl⟩ | ⟨hg, hgo⟩
   ·rw [guardA_wanted (cx := cx) hfr hg]
    simp only [Bool.false_eq_true, if_false]
    exact next r w undef (.tup rfl (fun i h => absurd h (by simp))) hi (Ext.refl _ _ _)
   ·rw [guardA_wanted (cx := cx) hfr hg]
    simp only [if_true]
    refine .inl (Oper.wp_mono (fun a' w' h => ?_) (hgo r a w hi hfr Q'))
    obtain ⟨r', v', rfl, h2, h3, h4⟩ := h
    exact next r' w' v' h2 h3 h4
theorem S_drawP {id : Nat} {R : Out → Heap → Prop} (jc : Nat) {ops : Array Oper} {vals : List AV} {C : List Prop} {fr' : Fr} (K : List Nat) (rs : List AV) {o : Oper} {f : FuncId} {args : List AV} (hP : cx.P.follows .mixedOrders = true) (hchk : drawOkP ops.toList jc = true)
  (hrun : normC (runD cx K n ops ops.toList σ (ops.toList.take jc) fr rs) = some (C, vals, fr')) (ho : ops.toList[jc]? = some o) (hg : guardA ops o K (restr ops.toList o fr') = some true) (hc : callA cx (restr ops.toList o fr') o.op = some (f, args)) (hC : AllP C)
  (hcall : CallOk cx f args σ R) (hr : ∀ v s, ¬ R (.ret v) s) (hk : ∀ v s fr, R (.panic v) s → Q (.panic v) fr s) : S cx n B (.code (.region id ops true) :: k) Q fr σ := by
 intro r a w hi hf hd hx
 obtain ⟨c1, c2, c3, c4⟩ := drawOkP_spec hchk
 rw [normC_eq] at hrun
 obtain ⟨k1, k2, k3⟩ := runD_spec hrun hC
 have hjN : jc < ops.size := by
  rcases Nat.lt_or_ge jc ops.size with h | h
  ·exact h
  ·rw [List.getElem?_eq_none (by simpa using h)] at ho; cases ho
 have hlen : vals.length = jc := by rw [k1]; simp; omega
 obtain ⟨hi1, hx1⟩ := hi.heap_eq (w' := { w with drawn := w.drawn + 1 }) rfl rfl rfl rfl
 have hf1 := hf.mono (hx1.grow hi)
 have nl : ∀ {j : Nat}, ¬ Listed (Array.replicate ops.size false) j := by
  intro j hj
  unfold Listed at hj
  rw [Array.getD_eq_getD_getElem?, Array.getElem?_replicate] at hj
  split at hj <;> simp at hj
 refine wp_region_any hP ?_
 refine wpAny_pan (cx := cx) (n := n) (B := B) (fr := fr) (σ := σ) (jc := jc) (vals := vals) (K := K) hjN hlen c1 c2 c3 c4 (fun j o v hj ho hv => ?_) (fun o' ho' => ?_) ops.size _ r a _ (by simp) ?_ (fun j i hj => ?_) (fun j _ => ?_) ⟨hf1.size, fun j d v _ hj => ?_, fun t _ => hf1.get t, hf1.defs⟩ hi1 hd (hx.trans hx1)
 ·have h := k3 j o v (by rw [List.getElem?_take_of_lt hj]; exact ho) hv
  rw [List.take_take, Nat.min_eq_left (by omega)] at h
  exact h
 ·rw [ho] at ho'; cases ho'
  rw [← k2]
  refine ⟨hg, fun r a w hi hf hfn hdf hx => ?_⟩
  obtain ⟨vs, h1, h2⟩ := callA_run hi hf hc hcall.1
  unfold Oper.wp
  rw [h1, Oper.upon_enter]
  refine (hcall.2 r w vs hi h2).mono fun e w' ⟨out, σ1, r', hR, hor, hi', hx'⟩ => ?_
  have hg' := hx'.grow hi
  cases e <;> cases out <;> first | exact hor.elim | skip
  ·exact absurd hR (hr _ _)
  ·refine Lift.mk (ae := .panic _) ?_ hor hi' (hfn.mono hg') hdf (hx.trans hx')
   rw [after_panic]
   exact hk _ _ _ hR
 ·unfold unl; simp [List.countP_replicate]
 ·exact absurd hj nl
 ·exact nl
 ·exact absurd hj nl
theorem S_shareR {k' : List AI} {all : Array Oper} {l : List Oper} {K : List Nat} (F : Fr) (σ' : Heap) (hm : (∀ fr, Weak fr F → S cx n B (.ops all l K :: k') Q fr σ') → S cx n B k Q fr σ) (hk : S cx n B (.ops all l K :: k') Q F σ') : S cx n B k Q fr σ :=
 hm fun _ hw => S_ops_weak hw hk
theorem S_shareG {ι : Type} {c : Code} {k' : List AI} (F : Fr) (σ' : ι → Heap) (I : ι → Prop) (hm : (∀ i fr, I i → Weak fr F → S cx n B (.code c :: k') Q fr (σ' i)) → S cx n B k Q fr σ) (hk : ∀ i, I i → S cx n B (.code c :: k') Q F (σ' i)) : S cx n B k Q fr σ :=
 hm fun i _ hi hw => S_code_weak hw (hk i hi)
inductive Wv : AV → AV → Prop
 | refl {a} : Wv a a
 | nils {st fl sz} : Wv .nils (.sl st fl sz [])
 | sl {st fl st' fl' sz xs} (h1 : st' = true → st = true) (h2 : fl' = true → fl = true) : Wv (.sl st fl sz xs) (.sl st' fl' sz xs)
theorem Wv.rel {r : Rl} {w : World} {v : Value} {a a' : AV} (h : Wv a a') (hv : VRel r w v a) : VRel r w v a' := by
 cases h with
 | refl => exact hv
 | nils => cases hv; exact .sl0 (fun _ => rfl)
 | sl h1 h2 =>
  cases hv with
  | sl0 hf => exact .sl0 (fun h => hf (h2 h))
  | sl hn hc0 hf hI hS hsz f hc hv => exact .sl hn hc0 (fun h => hf (h2 h)) hI (fun h => hS (h1 h)) hsz f hc hv
theorem Wv.one {a a' : AV} (h : Wv a a') (ho : a.one = true) : a'.one = true := by
 cases h with
 | refl => exact ho
 | nils => rfl
 | sl _ _ => rfl
inductive Wvs : List AV → List AV → Prop
 | nil : Wvs [] []
 | cons {a b az bs} (h : Wv a b) (hs : Wvs az bs) : Wvs (a :: az) (b :: bs)
theorem Wvs.len {az bs : List AV} (h : Wvs az bs) : az.length = bs.length := by
 induction h with
 | nil => rfl
 | cons _ _ ih => simp [ih]
theorem Wvs.get {az bs : List AV} (h : Wvs az bs) : ∀ (i : Nat) (h1 : i < az.length) (h2 : i < bs.length), Wv az[i] bs[i] := by
 induction h with
 | nil => intro i h1; simp at h1
 | cons h hs ih =>
  intro i h1 h2
  cases i with
  | zero => exact h
  | succ i => exact ih i (by simpa using h1) (by simpa using h2)
theorem S_wkB {todo : List AI} {cur : Nat} {cs : List AV} {ty : Option TypeId} (id : Nat) (cs' : List AV) (h : σ[id]? = some (cur, some (.cells cs ⟨false, ty⟩))) (hw : Wvs cs cs') (hT : ∃ c k, todo = .code c :: k ∨ ∃ all l K, todo = .ops all l K :: k)
  (hk : S cx n B todo Q fr (σ.set id (cur, some (.cells cs' ⟨false, ty⟩)))) : S cx n B todo Q fr σ := by
 have key : ∀ r w, Inv cx r σ w → Inv cx r (σ.set id (cur, some (.cells cs' ⟨false, ty⟩))) w ∧ Ext r σ w r (σ.set id (cur, some (.cells cs' ⟨false, ty⟩))) w := by
  intro r w hi
  refine hi.recast h (fun b o hb => ?_) (fun ro hro => by cases hro; cases hw; exact ⟨_, rfl⟩)
  obtain ⟨c, t, lo, hi, h1, h2, h3, h4, h5⟩ := hb
  refine ⟨c, t, lo, hi, h1, fun i hil => ?_, fun x hx => ?_, fun i a b c => (by cases (h4 i a b c).1), h5⟩
  ·have hil' : i < cs.length := by rw [hw.len]; exact hil
   obtain ⟨v, k1, k2⟩ := h2 i hil'
   exact ⟨v, k1, (hw.get i hil' hil).rel k2⟩
  ·obtain ⟨i, hi', rfl⟩ := List.getElem_of_mem hx
   exact (hw.get i (by rw [hw.len]; exact hi') hi').one (h3 _ (List.getElem_mem _))
 obtain ⟨c, k, hT⟩ := hT
 rcases hT with rfl | ⟨all, l, K, rfl⟩
 ·intro r a w hi hf hd hx
  obtain ⟨q1, q2⟩ := key r w hi
  exact hk r a w q1 (hf.mono (q2.grow hi)) hd (hx.trans q2)
 ·intro r a w hi hf hd hx
  obtain ⟨q1, q2⟩ := key r w hi
  exact hk r a w q1 (hf.mono (q2.grow hi)) hd (hx.trans q2)
theorem S_wkF {todo : List AI} {az : List AV} (t : Nat) (bs : List AV) (h : fr.get t = .agg az) (hw : Wvs az bs) (hT : ∃ c k, todo = .code c :: k ∨ ∃ all l K, todo = .ops all l K :: k)
  (hk : S cx n B todo Q ((t, .agg bs) :: fr) σ) : S cx n B todo Q fr σ := by
 have key : ∀ r w a, FRel r w n fr a → FRel r w n ((t, .agg bs) :: fr) a := by
  intro r w a hf
  refine ⟨hf.size, fun s => ?_, fun vs hm => ?_⟩
  ·rw [Fr.get_cons]
   split
   ·rename_i hs
    subst hs
    have hv := hf.get t
    rw [h] at hv
    generalize a.tmps.getD t undef = z at hv
    cases hv with
    | agg hn hc => exact .agg (by rw [hn, hw.len]) (fun i hi => (hw.get i (by rw [hw.len]; exact hi) hi).rel (hc i (by rw [hw.len]; exact hi)))
   ·exact hf.get s
  ·rw [Fr.get_cons] at hm
   split at hm
   ·cases hm
   ·exact hf.defs vs hm
 obtain ⟨c, k, hT⟩ := hT
 rcases hT with rfl | ⟨all, l, K, rfl⟩
 ·exact fun r a w hi hf hd hx => hk r a w hi (key r w a hf) hd hx
 ·exact fun r a w hi hf hd hx => hk r a w hi (key r w a hf) hd hx
end
end Go.Ab
end
section
set_option linter.unusedVariables false
set_option linter.unusedSimpArgs false
set_option maxRecDepth 20000
namespace Go.Proofs.YtonjhfeabphaaaaGreatDoor
open Go Go.Ab
mutual
def exA : Ex → AV
 | .mk k n t ks ns => .agg [.int .i64 (k : Nat), .int .i64 (n : Nat), .str t, .sl true false 5 (exL ks), .sl true false 1 (texts ns)]
 termination_by structural x => x
def exL : List Ex → List AV
 | [] => []
 | x :: r => exA x :: exL r
 termination_by structural x => x
end
mutual
def stA : St → AV
 | .mk k t ns x b e => .agg ([.int .i64 (k : Nat), .str t, .sl true false 1 (texts ns)] ++ ((exA x).cells ++ [.sl true false 10 (stL b), .sl true false 10 (stL e)]))
 termination_by structural x => x
def stL : List St → List AV
 | [] => []
 | x :: r => stA x :: stL r
 termination_by structural x => x
end
theorem textsF {st : Bool} (l : List (List UInt8)) : ∀ x ∈ texts l, Free st x := by
 intro x hx; obtain ⟨t, _, rfl⟩ := List.mem_map.1 hx; exact .str
mutual
theorem exA_free {st : Bool} : ∀ x : Ex, Free st (exA x)
 | .mk k n t ks ns => .agg (by
  intro y hy
  simp only [List.mem_cons, List.not_mem_nil, or_false] at hy
  rcases hy with rfl | rfl | rfl | rfl | rfl
  ·exact .int
  ·exact .int
  ·exact .str
  ·exact .sl (fun _ => rfl) (exL_free ks)
  ·exact .sl (fun _ => rfl) (textsF ns))
theorem exL_free {st : Bool} : ∀ l : List Ex, ∀ y ∈ exL l, Free st y
 | [], y, h => by simp [exL] at h
 | x :: r, y, h => by
  rw [exL, List.mem_cons] at h
  rcases h with rfl | h
  ·exact exA_free x
  ·exact exL_free r y h
end
theorem exA_cells (x : Ex) : (exA x).cells.length = 5 := by cases x; rfl
theorem cells_free {st : Bool} {a : AV} (h : Free st a) : ∀ x ∈ a.cells, Free st x := by
 cases a with
 | agg cs => cases h; assumption
 | _ => intro x hx; simp only [AV.cells, List.mem_singleton] at hx; subst hx; exact h
mutual
theorem stA_free {st : Bool} : ∀ x : St, Free st (stA x)
 | .mk k t ns x b e => .agg (by
  intro y hy
  simp only [List.mem_append, List.mem_cons, List.not_mem_nil, or_false] at hy
  rcases hy with (rfl | rfl | rfl) | hy | rfl | rfl
  ·exact .int
  ·exact .str
  ·exact .sl (fun _ => rfl) (textsF ns)
  ·exact cells_free (exA_free x) y hy
  ·exact .sl (fun _ => rfl) (stL_free b)
  ·exact .sl (fun _ => rfl) (stL_free e))
theorem stL_free {st : Bool} : ∀ l : List St, ∀ y ∈ stL l, Free st y
 | [], y, h => by simp [stL] at h
 | x :: r, y, h => by
  rw [stL, List.mem_cons] at h
  rcases h with rfl | h
  ·exact stA_free x
  ·exact stL_free r y h
end
theorem exL_map (l : List Ex) : exL l = l.map exA := by
 induction l with
 | nil => rfl
 | cons x r ih => rw [exL, ih]; rfl
theorem stL_map (l : List St) : stL l = l.map stA := by
 induction l with
 | nil => rfl
 | cons x r ih => rw [stL, ih]; rfl
def psB (v : Nat) (l r : List Tok) (e b d n : Nat) : Nat × Option Box := (v, some (.cells [.sl true false 4 (l.map tokA), .int .i64 ((l.length - r.length : Nat) : Int), .int .i64 (e : Nat), .int .i64 (b : Nat), .int .i64 (d : Nat), .int .i64 (n : Nat)] ⟨false, some 44⟩))
def psH (v : Nat) (l r : List Tok) (e b d n : Nat) : Heap := [psB v l r e b d n]
def psI (v : Nat) (l : List Tok) (a e b d n : Int) : Nat × Option Box := (v, some (.cells [.sl true false 4 (l.map tokA), .int .i64 a, .int .i64 e, .int .i64 b, .int .i64 d, .int .i64 n] ⟨false, some 44⟩))
theorem suf_get {l u : List Tok} {t : Tok} (h : t :: u <:+ l) : (l.map tokA)[(((l.length - (t :: u).length : Nat) : Nat) : Int).toNat]? = some (tokA t) := by
 obtain ⟨p, rfl⟩ := h
 rw [Int.toNat_natCast]
 simp
theorem suf_lt {l u : List Tok} {t : Tok} (h : t :: u <:+ l) : l.length - (t :: u).length < l.length := by
 have := h.length_le; simp at this ⊢; omega
theorem suf_next {l u : List Tok} {t : Tok} (h : t :: u <:+ l) (hl : l.length ≤ 100000) : IntKind.i64.wrap (((l.length - (t :: u).length : Nat) : Int) + 1) = ((l.length - u.length : Nat) : Int) := by
 have := h.length_le
 rw [List.length_cons] at this ⊢
 rw [IntWalk.i64_in _ ⟨by omega, by omega⟩]; omega
theorem suf_tail {l u : List Tok} {t : Tok} (h : t :: u <:+ l) : u <:+ l := (List.suffix_cons t u).trans h
theorem kind_ok (v : Nat) (l r : List Tok) (e b d n : Nat) (hr : r <:+ l) (hl : l.length ≤ 100000) :
  CallOk cx 81 [.ptr 0 v 0] (psH v l r e b d n) (fun o σ => o = .ret (.int .i64 (hdK r : Nat)) ∧ σ = psH v l r e b d n) :=
 callOk_intro (fun a w => Tryz.call81 a w) Tryz.func81 rfl Tryz.ntmps81 rfl fun B => by
  have hml : (l.map tokA).length = l.length := by simp
  cases r with
  | nil =>
   refine pa [.b false] rfl ?_ ?_
   ·(repeat' with_reducible apply AllP_cons) <;> first | exact aC | skip
    exact decide_eq_false (by rw [hml]; simp)
   exact S_ret ⟨_, _, rfl, trivial, rfl, rfl⟩
  | cons t u =>
   have hg := suf_get hr
   have ht := suf_lt hr
   refine pa [.b true, .v (tokA t)] rfl ?_ ?_
   ·(repeat' with_reducible apply AllP_cons) <;> first | exact aC | skip
   exact S_ret ⟨_, _, rfl, trivial, rfl, rfl⟩
theorem place_ok (v : Nat) (l r : List Tok) (e b d n : Nat) (hr : r <:+ l) (hl : l.length ≤ 100000) :
  CallOk cx 115 [.ptr 0 v 0] (psH v l r e b d n) (fun o σ => o = .ret (.int .i64 (placeS e r : Nat)) ∧ σ = psH v l r e b d n) :=
 callOk_intro (fun a w => Tryz.call115 a w) Tryz.func115 rfl Tryz.ntmps115 rfl fun B => by
  have hml : (l.map tokA).length = l.length := by simp
  cases r with
  | nil =>
   refine pa [.b false] rfl ?_ ?_
   ·(repeat' with_reducible apply AllP_cons) <;> first | exact aC | skip
    exact decide_eq_false (by rw [hml]; simp)
   exact S_ret ⟨_, _, rfl, trivial, rfl, rfl⟩
  | cons t u =>
   have hg := suf_get hr
   have ht := suf_lt hr
   refine pa [.b true, .v (tokA t)] rfl ?_ ?_
   ·(repeat' with_reducible apply AllP_cons) <;> first | exact aC | skip
   exact S_ret ⟨_, _, rfl, trivial, rfl, rfl⟩
theorem pfail_ok (v : Nat) (l r : List Tok) (e b d n k : Nat) (hr : r <:+ l) (hl : l.length ≤ 100000) :
  CallOk cx 82 [.ptr 0 v 0, .int .i64 (k : Nat)] (psH v l r e b d n) (fun o σ => o = .panic (flt (k, placeS e r)) ∧ σ = psH v l r e b d n) :=
 callOk_intro (fun a w => Tryz.call82 a w) Tryz.func82 rfl Tryz.ntmps82 rfl fun B => by
  refine pa [.k (.int .i64 (placeS e r : Nat))] rfl ?_ ?_
  ·(repeat' with_reducible apply AllP_cons) <;> first | exact aC | skip
   exact place_ok v l r e b d n hr hl
  exact S_panic rfl rfl rfl ⟨rfl, rfl⟩
end Go.Proofs.YtonjhfeabphaaaaGreatDoor
end
section
set_option linter.unusedVariables false
set_option linter.unusedSimpArgs false
set_option maxRecDepth 20000
namespace Go.Proofs.YtonjhfeabphaaaaGreatDoor
open Go Go.Ab
theorem psB_free (v : Nat) (l r : List Tok) (e b d n : Nat) : ∀ x ∈ [AV.sl true false 4 (l.map tokA), .int .i64 ((l.length - r.length : Nat) : Int), .int .i64 (e : Nat), .int .i64 (b : Nat), .int .i64 (d : Nat), .int .i64 (n : Nat)], Free false x := by
 intro x hx
 simp only [List.mem_cons, List.not_mem_nil, or_false] at hx
 rcases hx with rfl | rfl | rfl | rfl | rfl | rfl
 ·exact .sl (fun h => by cases h) (toks_free l)
 all_goals exact .int
theorem psH_rn (v : Nat) (l r : List Tok) (e b d n : Nat) : RnH (List.range 1) (psH v l r e b d n) (psH v l r e b d n) :=
 .cons (.live (.cells (.free (psB_free v l r e b d n)))) (.nil _)
theorem psH_low (v : Nat) (l r : List Tok) (e b d n : Nat) (τ : Heap) : LowH 1 (psB v l r e b d n :: τ) := by
 intro id ver x hid hx
 match id, hid with
 | 0, _ =>
  cases hx
  exact .cells fun y hy => Low.free (psB_free v l r e b d n y hy)
def PE {α : Type} (A : α → AV) (v : Nat) (l : List Tok) (e b d n : Nat) (x : Pr α) (τ : Heap) : Out → Heap → Prop := fun o σ => match x with
 | .out => True
 | .bad k r => o = .panic (flt (k, placeS e r)) ∧ ∃ r' b' d' n', σ = psB v l r' e b' d' n' :: τ
 | .ok y r => o = .ret (A y) ∧ σ = psB v l r e b d n :: τ
theorem fltI_free {st : Bool} (e : Flt) : Free st (flt e) := .iface (flt_free e)
theorem PE.tail {α : Type} {A : α → AV} {f : FuncId} {args : List AV} {v : Nat} {l r : List Tok} {e b d n b1 d1 n1 : Nat} {x : Pr α} (τ : Heap) (h : CallOk cx f args (psH v l r e b d n) (PE A v l e b1 d1 n1 x [])) (hne : x ≠ .out) (ha : Rns (List.range 1) args args) (hA : ∀ y, Free false (A y)) :
  CallOk cx f args (psB v l r e b d n :: τ) (PE A v l e b1 d1 n1 x τ) :=
 (h.pre 1 τ rfl ha (psH_rn ..) (fun o s hR => by
  cases x with
  | out => exact absurd rfl hne
  | bad k u => obtain ⟨rfl, r', b', d', n', rfl⟩ := hR; exact ⟨rfl, psH_rn .., .free (fltI_free _)⟩
  | ok y u => obtain ⟨rfl, rfl⟩ := hR; exact ⟨rfl, psH_rn .., .free (hA y)⟩)).mono fun o s hR => by
  obtain ⟨s0, rfl, hR⟩ := hR
  cases x with
  | out => exact absurd rfl hne
  | bad k u => obtain ⟨rfl, r', b', d', n', rfl⟩ := hR; exact ⟨rfl, r', b', d', n', rfl⟩
  | ok y u => obtain ⟨rfl, rfl⟩ := hR; exact ⟨rfl, rfl⟩
theorem PE.ok {α : Type} {A : α → AV} {f : FuncId} {args : List AV} {v : Nat} {l r : List Tok} {e b d n : Nat} {x : Pr α} {y : α} {σ τ : Heap} (h : CallOk cx f args σ (PE A v l e b d n x τ)) (hx : x = .ok y r) : CallOk cx f args σ (fun o s => o = .ret (A y) ∧ s = psB v l r e b d n :: τ) := by
 subst hx; exact h
section
variable {N : Nat} {B : Bs} {k : List AI} {fr : Fr} {σ : Heap}
theorem S_callE {α β : Type} {A : α → AV} {A' : β → AV} {fn : Func} {all : Array Oper} {o : Oper} {L : List Oper} {K : List Nat} {f : FuncId} {args : List AV} {v : Nat} {l : List Tok} {e b d n b1 d1 n1 j : Nat} {r : List Tok} {x : Pr α} {X : Pr β} {τ : Heap}
  (hg : guardA all o K fr = some true) (hc : callA cx fr o.op = some (f, args)) (hd : dstOk N o.dst = true) (hcall : CallOk cx f args σ (PE A v l e b d n x τ)) (hx : x = .bad j r) (hX : X = .bad j r) :
  S cx N B (.ops all (o :: L) K :: k) (retQ cx fn (TR 1 (PE A' v l e b1 d1 n1 X []))) fr σ := by
 subst hx; subst hX
 refine S_call hg hc hd hcall (fun v s h => by cases h.1) (fun w s h => ?_)
 obtain ⟨h1, r', b', d', n', rfl⟩ := h
 cases h1
 exact ⟨1, Nat.le_refl _, psH_low _ _ _ _ _ _ _ _, Low.free (st := false) (fltI_free _), rfl, r', b', d', n', rfl⟩
theorem S_drawE {α β : Type} {A : α → AV} {A' : β → AV} {fn : Func} {id : Nat} (jc : Nat) {ops : Array Oper} {vals : List AV} {C : List Prop} {fr' : Fr} (K : List Nat) (rs : List AV) {o : Oper} {f : FuncId} {args : List AV} {v : Nat} {l : List Tok} {e b d n b1 d1 n1 j : Nat} {r : List Tok} {x : Pr α} {X : Pr β} {τ : Heap}
  (hP : cx.P.follows .mixedOrders = true) (hchk : drawOkP ops.toList jc = true) (hrun : normC (runD cx K N ops ops.toList σ (ops.toList.take jc) fr rs) = some (C, vals, fr')) (ho : ops.toList[jc]? = some o) (hg : guardA ops o K (restr ops.toList o fr') = some true) (hc : callA cx (restr ops.toList o fr') o.op = some (f, args)) (hC : AllP C)
  (hcall : CallOk cx f args σ (PE A v l e b d n x τ)) (hx : x = .bad j r) (hX : X = .bad j r) :
  S cx N B (.code (.region id ops true) :: k) (retQ cx fn (TR 1 (PE A' v l e b1 d1 n1 X []))) fr σ := by
 subst hx; subst hX
 refine S_drawP jc K rs hP hchk hrun ho hg hc hC hcall (fun v s h => by cases h.1) (fun w s fr h => ?_)
 obtain ⟨h1, r', b', d', n', rfl⟩ := h
 cases h1
 exact ⟨1, Nat.le_refl _, psH_low _ _ _ _ _ _ _ _, Low.free (st := false) (fltI_free _), rfl, r', b', d', n', rfl⟩
end
theorem PE.fin {α : Type} {A : α → AV} {v : Nat} {l r : List Tok} {e b d n : Nat} {X : Pr α} {y : α} {τ : Heap} (hX : X = .ok y r) (hA : Free false (A y)) : TR 1 (PE A v l e b d n X []) (.ret (A y)) (psB v l r e b d n :: τ) := by
 subst hX
 exact ⟨1, Nat.le_refl _, psH_low _ _ _ _ _ _ _ _, A y, .low (Low.free hA), rfl, rfl⟩
theorem PE.finZ {α : Type} {A : α → AV} {v : Nat} {l r : List Tok} {e b d n : Nat} {X : Pr α} {y : α} {z : AV} {τ : Heap} (hX : X = .ok y r) (hA : FzT 1 (psB v l r e b d n :: τ) z (A y)) : TR 1 (PE A v l e b d n X []) (.ret z) (psB v l r e b d n :: τ) := by
 subst hX
 exact ⟨1, Nat.le_refl _, psH_low _ _ _ _ _ _ _ _, A y, hA, rfl, rfl⟩
theorem arg0_rn (v : Nat) (xs : List AV) (h : ∀ x ∈ xs, Free false x) : Rns (List.range 1) (.ptr 0 v 0 :: xs) (.ptr 0 v 0 :: xs) := .cons (.ptr rfl) (.free h)
theorem kindT (v : Nat) (l r : List Tok) (e b d n : Nat) (τ : Heap) (hr : r <:+ l) (hl : l.length ≤ 100000) :
  CallOk cx 81 [.ptr 0 v 0] (psB v l r e b d n :: τ) (fun o σ => o = .ret (.int .i64 (hdK r : Nat)) ∧ σ = psB v l r e b d n :: τ) :=
 (kind_ok v l r e b d n hr hl).pre1 1 τ rfl rfl (arg0_rn v [] (by simp)) (psH_rn ..) (psH_rn ..) (.free .int)
theorem failT {α : Type} (A : α → AV) (v : Nat) (l r : List Tok) (e b d n k : Nat) (τ : Heap) (hr : r <:+ l) (hl : l.length ≤ 100000) :
  CallOk cx 82 [.ptr 0 v 0, .int .i64 (k : Nat)] (psB v l r e b d n :: τ) (PE A v l e b d n (.bad k r) τ) :=
 (PE.tail (A := fun _ : Unit => AV.tup []) (b1 := b) (d1 := d) (n1 := n) (x := .bad k r) τ ((pfail_ok v l r e b d n k hr hl).mono fun o s ⟨h1, h2⟩ => ⟨h1, r, b, d, n, h2⟩) (by nofun) (arg0_rn v _ (by intro x hx; simp at hx; subst hx; exact .int)) (fun _ => .tup (by simp))).mono fun o s h => h
theorem is_ok (v : Nat) (l r : List Tok) (e b d n : Nat) (s : List UInt8) (hr : r <:+ l) (hl : l.length ≤ 100000) :
  CallOk cx 50 [.ptr 0 v 0, .str s] (psH v l r e b d n) (fun o σ => o = .ret (.bool (isS s r)) ∧ σ = psH v l r e b d n) :=
 callOk_intro (fun a w => Tryz.call50 a w) Tryz.func50 rfl Tryz.ntmps50 rfl fun B => by
  have hk := kind_ok v l r e b d n hr hl
  have hml : (l.map tokA).length = l.length := by simp
  unfold isS
  cases r with
  | nil =>
   refine pa [.k (.int .i64 (0 : Nat)), .b false, .b false] rfl ?_ ?_
   ·(repeat' with_reducible apply AllP_cons) <;> first | exact aC | skip
   exact S_ret ⟨_, _, rfl, trivial, rfl, rfl⟩
  | cons t u =>
   have hg := suf_get hr
   have ht := suf_lt hr
   by_cases h4 : t.kind = 4
   ·have e4 : (((t.kind : Nat) : Int) == 4) = true := by rw [h4]; rfl
    refine pa [.k (.int .i64 (t.kind : Nat)), .b true, .b true, .v (tokA t)] rfl ?_ ?_
    ·(repeat' with_reducible apply AllP_cons) <;> first | exact aC | skip
    refine S_ret ⟨_, _, rfl, trivial, ?_, rfl⟩
    show Out.ret (.bool (t.text == s)) = _
    rw [show hdK (t :: u) = 4 from h4]; rfl
   ·have e4 : (((t.kind : Nat) : Int) == 4) = false := beq_false_of_ne (by omega)
    by_cases h5 : t.kind = 5
    ·have e5 : (((t.kind : Nat) : Int) == 5) = true := by rw [h5]; rfl
     refine pa [.k (.int .i64 (t.kind : Nat)), .b false, .b true, .v (tokA t)] rfl ?_ ?_
     ·(repeat' with_reducible apply AllP_cons) <;> first | exact aC | skip
     refine S_ret ⟨_, _, rfl, trivial, ?_, rfl⟩
     show Out.ret (.bool (t.text == s)) = _
     rw [show hdK (t :: u) = 5 from h5]; rfl
    ·have e5 : (((t.kind : Nat) : Int) == 5) = false := beq_false_of_ne (by omega)
     refine pa [.k (.int .i64 (t.kind : Nat)), .b false, .b false] rfl ?_ ?_
     ·(repeat' with_reducible apply AllP_cons) <;> first | exact aC | skip
     refine S_ret ⟨_, _, rfl, trivial, ?_, rfl⟩
     show Out.ret (.bool false) = .ret (.bool ((t.kind == 4 || t.kind == 5) && hdT (t :: u) == s))
     rw [beq_false_of_ne h4, beq_false_of_ne h5]; rfl
theorem isT (v : Nat) (l r : List Tok) (e b d n : Nat) (s : List UInt8) (τ : Heap) (hr : r <:+ l) (hl : l.length ≤ 100000) :
  CallOk cx 50 [.ptr 0 v 0, .str s] (psB v l r e b d n :: τ) (fun o σ => o = .ret (.bool (isS s r)) ∧ σ = psB v l r e b d n :: τ) :=
 (is_ok v l r e b d n s hr hl).pre1 1 τ rfl rfl (arg0_rn v _ (by intro x hx; simp at hx; subst hx; exact .str)) (psH_rn ..) (psH_rn ..) (.free .bool)
theorem isS_cons {s : List UInt8} {r : List Tok} (h : isS s r = true) : ∃ t u, r = t :: u := by
 cases r with
 | nil => cases h
 | cons t u => exact ⟨t, u, rfl⟩
theorem suf_nextI {l r : List Tok} {s : List UInt8} (hr : r <:+ l) (hl : l.length ≤ 100000) (h : isS s r = true) : IntKind.i64.wrap (((l.length - r.length : Nat) : Int) + 1) = ((l.length - r.tail.length : Nat) : Int) := by
 obtain ⟨t, u, rfl⟩ := isS_cons h
 exact suf_next hr hl
theorem isS_suf {l r : List Tok} (hr : r <:+ l) : r.tail <:+ l := (List.tail_suffix r).trans hr
theorem may_ok (v : Nat) (l r : List Tok) (e b d n : Nat) (s : List UInt8) (hr : r <:+ l) (hl : l.length ≤ 100000) :
  CallOk cx 52 [.ptr 0 v 0, .str s] (psH v l r e b d n) (fun o σ => o = .ret (.bool (isS s r)) ∧ σ = psH v l (if isS s r then r.tail else r) e b d n) :=
 callOk_intro (fun a w => Tryz.call52 a w) Tryz.func52 rfl Tryz.ntmps52 rfl fun B => by
  have hi := is_ok v l r e b d n s hr hl
  by_cases h : isS s r = true
  ·rw [h] at hi ⊢
   have hw := suf_nextI hr hl h
   refine pa [.k (.bool true), .b true] rfl ?_ ?_
   ·(repeat' with_reducible apply AllP_cons) <;> first | exact aC | skip
   refine S_ret ⟨_, _, rfl, trivial, rfl, ?_⟩
   show [psI v l (IntKind.i64.wrap (((l.length - r.length : Nat) : Int) + 1)) e b d n] = _
   rw [hw]; rfl
  ·rw [Bool.not_eq_true] at h
   rw [h] at hi ⊢
   refine pa [.k (.bool false), .b false] rfl ?_ ?_
   ·(repeat' with_reducible apply AllP_cons) <;> first | exact aC | skip
   exact S_ret ⟨_, _, rfl, trivial, rfl, rfl⟩
theorem may_yes (v : Nat) (l r : List Tok) (e b d n : Nat) (s : List UInt8) (τ : Heap) (hr : r <:+ l) (hl : l.length ≤ 100000) (h : isS s r = true) :
  CallOk cx 52 [.ptr 0 v 0, .str s] (psB v l r e b d n :: τ) (fun o σ => o = .ret (.bool true) ∧ σ = psB v l r.tail e b d n :: τ) := by
 have hm := may_ok v l r e b d n s hr hl
 rw [h] at hm
 exact hm.pre1 1 τ rfl rfl (arg0_rn v _ (by intro x hx; simp at hx; subst hx; exact .str)) (psH_rn ..) (psH_rn ..) (.free .bool)
theorem may_no (v : Nat) (l r : List Tok) (e b d n : Nat) (s : List UInt8) (τ : Heap) (hr : r <:+ l) (hl : l.length ≤ 100000) (h : ¬ isS s r = true) :
  CallOk cx 52 [.ptr 0 v 0, .str s] (psB v l r e b d n :: τ) (fun o σ => o = .ret (.bool false) ∧ σ = psB v l r e b d n :: τ) := by
 have hm := may_ok v l r e b d n s hr hl
 rw [Bool.not_eq_true] at h
 rw [h] at hm
 exact hm.pre1 1 τ rfl rfl (arg0_rn v _ (by intro x hx; simp at hx; subst hx; exact .str)) (psH_rn ..) (psH_rn ..) (.free .bool)
def uA (_ : Unit) : AV := .tup []
theorem mustT (v : Nat) (l r : List Tok) (e b d n : Nat) (s : List UInt8) (τ : Heap) (hr : r <:+ l) (hl : l.length ≤ 100000) :
  CallOk cx 56 [.ptr 0 v 0, .str s] (psB v l r e b d n :: τ) (PE uA v l e b d n (mustS s r) τ) :=
 PE.tail τ (callOk_introT (fun a w => Tryz.call56 a w) Tryz.func56 rfl Tryz.ntmps56 rfl fun B => by
  obtain ⟨X, hX⟩ : ∃ X, X = mustS s r := ⟨_, rfl⟩
  rw [← hX]
  unfold mustS at hX
  by_cases h : isS s r = true
  ·rw [if_pos h] at hX
   have hm := may_yes v l r e b d n s [] hr hl h
   refine pa [.c (.bool true) (psH v l r.tail e b d n), .b false] rfl ?_ ?_
   ·(repeat' with_reducible apply AllP_cons) <;> first | exact aC | skip
   exact S_nil ⟨_, _, rfl, trivial, PE.fin hX (.tup (by simp))⟩
  ·rw [if_neg h] at hX
   have hm := may_no v l r e b d n s [] hr hl h
   refine pa [.c (.bool false) (psH v l r e b d n), .b true] rfl ?_ ?_
   ·(repeat' with_reducible apply AllP_cons) <;> first | exact aC | skip
   exact S_callE rfl rfl rfl (failT uA v l r e b d n 1 [] hr hl) rfl hX) (by unfold mustS; split <;> nofun) (arg0_rn v _ (by intro x hx; simp at hx; subst hx; exact .str)) (fun _ => .tup (by simp))
theorem takeT (v : Nat) (l r : List Tok) (e b d n k : Nat) (τ : Heap) (hr : r <:+ l) (hl : l.length ≤ 100000) (hk : k ≠ 0) :
  CallOk cx 55 [.ptr 0 v 0, .int .i64 (k : Nat)] (psB v l r e b d n :: τ) (PE tokA v l e b d n (takeS k r) τ) :=
 PE.tail τ (callOk_introT (fun a w => Tryz.call55 a w) Tryz.func55 rfl Tryz.ntmps55 rfl fun B => by
  obtain ⟨X, hX⟩ : ∃ X, X = takeS k r := ⟨_, rfl⟩
  rw [← hX]
  unfold takeS at hX
  cases r with
  | nil =>
   refine pa [.k (.int .i64 (0 : Nat)), .b true] rfl ?_ ?_
   ·(repeat' with_reducible apply AllP_cons) <;> first | exact aC | skip
    ·exact kindT v l [] e b d n _ hr hl
    ·exact bne_iff_ne.2 (by omega)
   exact S_callE rfl rfl rfl (failT uA v l [] e b d n 1 _ hr hl) rfl hX
  | cons t u =>
   have hg := suf_get hr
   have ht := suf_lt hr
   have hk1 := kindT v l (t :: u) e b d n
   have hX : X = if t.kind = k then .ok t u else .bad 1 (t :: u) := hX
   by_cases h : t.kind = k
   ·subst h
    rw [if_pos rfl] at hX
    have hw := suf_next hr hl
    have hw2 : IntKind.i64.wrap (IntKind.i64.wrap (((l.length - (t :: u).length : Nat) : Int) + 1) - 1) = ((l.length - (t :: u).length : Nat) : Int) := by
     have := hr.length_le
     rw [List.length_cons] at this hw ⊢
     rw [hw, IntWalk.i64_in _ ⟨by omega, by omega⟩]; omega
    refine pa [.k (.int .i64 (t.kind : Nat)), .b false, .v (tokA t)] rfl ?_ ?_
    ·(repeat' with_reducible apply AllP_cons) <;> first | exact aC | skip
     ·exact hk1 _ hr hl
     ·exact bne_self_eq_false _
     ·rw [hw2]; exact hg
    refine S_ret ⟨_, _, rfl, ⟨rfl, trivial⟩, ?_⟩
    show TR 1 _ (.ret (tokA t)) (psI v l (IntKind.i64.wrap (((l.length - (t :: u).length : Nat) : Int) + 1)) e b d n :: _)
    rw [hw]
    exact PE.fin hX (.agg (tokC_free t))
   ·rw [if_neg h] at hX
    refine pa [.k (.int .i64 (t.kind : Nat)), .b true] rfl ?_ ?_
    ·(repeat' with_reducible apply AllP_cons) <;> first | exact aC | skip
     ·exact hk1 _ hr hl
     ·exact bne_iff_ne.2 (by omega)
    exact S_callE rfl rfl rfl (failT uA v l _ e b d n 1 _ hr hl) rfl hX) (by unfold takeS; split; nofun; split <;> nofun) (arg0_rn v _ (by intro x hx; simp at hx; subst hx; exact .int)) (fun t => .agg (tokC_free t))
end Go.Proofs.YtonjhfeabphaaaaGreatDoor
end
section
set_option linter.unusedVariables false
set_option linter.unusedSimpArgs false
set_option maxRecDepth 20000
namespace Go.Proofs.YtonjhfeabphaaaaGreatDoor
open Go Go.Ab
def Yok (y : Nat × Option Box) : Prop := ∃ v cs g, y = (v, some (.cells cs g)) ∧ ∀ x ∈ cs, Rn (List.range 2) x x ∧ Low 2 x
theorem Rn.up {a b : AV} (h : Free false a) : Rn (List.range 2) a a := .free h
theorem psY_rn (v : Nat) (l r : List Tok) (e b d n : Nat) {y : Nat × Option Box} (hy : Yok y) : RnH (List.range 2) [psB v l r e b d n, y] [psB v l r e b d n, y] := by
 obtain ⟨v', cs, g, rfl, hc⟩ := hy
 exact .cons (.live (.cells (.free (psB_free v l r e b d n)))) (.cons (.live (.cells ⟨rfl, fun i h1 h2 => (hc _ (List.getElem_mem h1)).1⟩)) (.nil _))
theorem psY_low (v : Nat) (l r : List Tok) (e b d n : Nat) {y : Nat × Option Box} (hy : Yok y) (τ : Heap) : LowH 2 (psB v l r e b d n :: y :: τ) := by
 obtain ⟨v', cs, g, rfl, hc⟩ := hy
 intro id ver x hid hx
 match id, hid with
 | 0, _ =>
  cases hx
  exact .cells fun y hy => Low.free (psB_free v l r e b d n y hy)
 | 1, _ =>
  cases hx
  exact .cells fun y hy => (hc y hy).2
theorem PE.tail2 {α : Type} {A : α → AV} {f : FuncId} {args : List AV} {v : Nat} {l r : List Tok} {e b d n b1 d1 n1 : Nat} {x : Pr α} {y : Nat × Option Box} (τ : Heap) (hy : Yok y) (h : CallOk cx f args [psB v l r e b d n, y] (PE A v l e b1 d1 n1 x [y])) (hne : x ≠ .out) (ha : Rns (List.range 2) args args) (hA : ∀ y, Free false (A y)) :
  CallOk cx f args (psB v l r e b d n :: y :: τ) (PE A v l e b1 d1 n1 x (y :: τ)) :=
 (h.pre 2 τ rfl ha (psY_rn _ _ _ _ _ _ _ hy) (fun o s hR => by
  cases x with
  | out => exact absurd rfl hne
  | bad k u => obtain ⟨rfl, r', b', d', n', rfl⟩ := hR; exact ⟨rfl, psY_rn _ _ _ _ _ _ _ hy, .free (fltI_free _)⟩
  | ok y u => obtain ⟨rfl, rfl⟩ := hR; exact ⟨rfl, psY_rn _ _ _ _ _ _ _ hy, .free (hA y)⟩)).mono fun o s hR => by
  obtain ⟨s0, rfl, hR⟩ := hR
  cases x with
  | out => exact absurd rfl hne
  | bad k u => obtain ⟨rfl, r', b', d', n', rfl⟩ := hR; exact ⟨rfl, r', b', d', n', rfl⟩
  | ok y u => obtain ⟨rfl, rfl⟩ := hR; exact ⟨rfl, rfl⟩
section
variable {N : Nat} {B : Bs} {k : List AI} {fr : Fr} {σ : Heap}
theorem S_callE2 {α β : Type} {A : α → AV} {A' : β → AV} {fn : Func} {all : Array Oper} {o : Oper} {L : List Oper} {K : List Nat} {f : FuncId} {args : List AV} {v : Nat} {l : List Tok} {e b d n b1 d1 n1 j : Nat} {r : List Tok} {x : Pr α} {X : Pr β} {y : Nat × Option Box} {τ : Heap} (hy : Yok y)
  (hg : guardA all o K fr = some true) (hc : callA cx fr o.op = some (f, args)) (hd : dstOk N o.dst = true) (hcall : CallOk cx f args σ (PE A v l e b d n x (y :: τ))) (hx : x = .bad j r) (hX : X = .bad j r) :
  S cx N B (.ops all (o :: L) K :: k) (retQ cx fn (TR 2 (PE A' v l e b1 d1 n1 X [y]))) fr σ := by
 subst hx; subst hX
 refine S_call hg hc hd hcall (fun v s h => by cases h.1) (fun w s h => ?_)
 obtain ⟨h1, r', b', d', n', rfl⟩ := h
 cases h1
 exact ⟨2, Nat.le_refl _, psY_low _ _ _ _ _ _ _ hy _, Low.free (st := false) (fltI_free _), rfl, r', b', d', n', rfl⟩
theorem S_drawE2 {α β : Type} {A : α → AV} {A' : β → AV} {fn : Func} {id : Nat} (jc : Nat) {ops : Array Oper} {vals : List AV} {C : List Prop} {fr' : Fr} (K : List Nat) (rs : List AV) {o : Oper} {f : FuncId} {args : List AV} {v : Nat} {l : List Tok} {e b d n b1 d1 n1 j : Nat} {r : List Tok} {x : Pr α} {X : Pr β} {y : Nat × Option Box} {τ : Heap} (hy : Yok y)
  (hP : cx.P.follows .mixedOrders = true) (hchk : drawOkP ops.toList jc = true) (hrun : normC (runD cx K N ops ops.toList σ (ops.toList.take jc) fr rs) = some (C, vals, fr')) (ho : ops.toList[jc]? = some o) (hg : guardA ops o K (restr ops.toList o fr') = some true) (hc : callA cx (restr ops.toList o fr') o.op = some (f, args)) (hC : AllP C)
  (hcall : CallOk cx f args σ (PE A v l e b d n x (y :: τ))) (hx : x = .bad j r) (hX : X = .bad j r) :
  S cx N B (.code (.region id ops true) :: k) (retQ cx fn (TR 2 (PE A' v l e b1 d1 n1 X [y]))) fr σ := by
 subst hx; subst hX
 refine S_drawP jc K rs hP hchk hrun ho hg hc hC hcall (fun v s h => by cases h.1) (fun w s fr h => ?_)
 obtain ⟨h1, r', b', d', n', rfl⟩ := h
 cases h1
 exact ⟨2, Nat.le_refl _, psY_low _ _ _ _ _ _ _ hy _, Low.free (st := false) (fltI_free _), rfl, r', b', d', n', rfl⟩
end
theorem PE.fin2 {α : Type} {A : α → AV} {v : Nat} {l r : List Tok} {e b d n : Nat} {X : Pr α} {x : α} {y : Nat × Option Box} {τ : Heap} (hy : Yok y) (hX : X = .ok x r) (hA : Free false (A x)) : TR 2 (PE A v l e b d n X [y]) (.ret (A x)) (psB v l r e b d n :: y :: τ) := by
 subst hX
 exact ⟨2, Nat.le_refl _, psY_low _ _ _ _ _ _ _ hy _, A x, .low (Low.free hA), rfl, rfl⟩
def exO : Nat × Option Box := (0, some (.cells [.int .i64 0, .int .i64 0, .str [], .nils, .nils] ⟨false, some 54⟩))
def Of (g : FuncId) (xs : List AV) (v : Nat) (l : List Tok) (e b d n : Nat) (y : Nat × Option Box) (r : List Tok) (x : Pr Ex) : Prop :=
 ∀ τ, CallOk cx g xs (psB v l r e b d n :: y :: τ) (PE exA v l e b d n x (y :: τ))
theorem within_ok (g : FuncId) (fs cs : List AV) (v : Nat) (l r : List Tok) (e b d n : Nat) (y : Nat × Option Box) (hy : Yok y) (x : Pr Ex) (hn : n ≤ 30) (hC : n ≠ 30 → Of g (fs ++ [] ++ cs) v l e b d (n + 1) y r x)
  (hr : r <:+ l) (hl : l.length ≤ 100000) (hne : n ≠ 30 → x ≠ .out) (hs : ∀ z u, x = .ok z u → u <:+ l) :
  CallOk cx 84 [.ptr 0 v 0, .func (.func g) fs cs] [psB v l r e b d n, y] (PE exA v l e b d n (if n = 30 then .bad 2 r else x) [y]) := by
 have hy0 := hy
 obtain ⟨yv, yc, yg, rfl, _⟩ := hy
 exact callOk_introT (fun a w => Tryz.call84 a w) Tryz.func84 rfl Tryz.ntmps84 rfl fun B => by
  obtain ⟨X, hX⟩ : ∃ X, X = (if n = 30 then .bad 2 r else x) := ⟨_, rfl⟩
  rw [← hX]
  by_cases h : n = 30
  ·rw [if_pos h] at hX
   subst h
   refine pa [.b true] rfl ?_ ?_
   ·(repeat' with_reducible apply AllP_cons) <;> first | exact aC | skip
   exact S_callE2 hy0 rfl rfl rfl (failT uA v l r e b d 30 2 _ hr hl) rfl hX
  ·rw [if_neg h] at hX
   have hC := hC h
   have hne := hne h
   have hw : IntKind.i64.wrap ((n : Nat) + 1) = ((n + 1 : Nat) : Int) := by rw [IntWalk.i64_in _ ⟨by omega, by omega⟩]; omega
   have hw1 : IntKind.i64.wrap (((n + 1 : Nat) : Int) - 1) = ((n : Nat) : Int) := by rw [IntWalk.i64_in _ ⟨by omega, by omega⟩]; omega
   refine pa [.b false] rfl ?_ ?_
   ·(repeat' with_reducible apply AllP_cons) <;> first | exact aC | skip
   refine S_heap (psB v l r e b d (n + 1) :: (yv, some (.cells yc yg)) :: [exO]) ?_ ?_
   ·show psI v l ((l.length - r.length : Nat) : Int) e b d (IntKind.i64.wrap ((n : Nat) + 1)) :: _ = _
    rw [hw]; rfl
   have hC := hC [exO]
   cases hx : x with
   | out => exact absurd hx hne
   | bad j u =>
    rw [hx] at hX
    exact S_callE2 hy0 rfl rfl rfl hC hx hX
   | ok z u =>
    rw [hx] at hX
    have hu := hs z u hx
    obtain ⟨zk, zn, zt, zs, zm⟩ := z
    refine pa [.f (exA (.mk zk zn zt zs zm)) (fun σ => psB v l u e b d (n + 1) :: σ.tail)] rfl ?_ ?_
    ·(repeat' with_reducible apply AllP_cons) <;> first | exact aC | skip
     exact PE.ok hC hx
    refine S_ret ⟨_, _, rfl, ⟨rfl, trivial⟩, ?_⟩
    show TR 2 _ (.ret (exA (.mk zk zn zt zs zm))) (psI v l ((l.length - u.length : Nat) : Int) e b d (IntKind.i64.wrap (((n + 1 : Nat) : Int) - 1)) :: (yv, some (.cells yc yg)) :: _)
    rw [hw1]
    exact PE.fin2 hy0 hX (exA_free _)
theorem IndexFuncB_ok {st fl : Bool} {σ : Heap} (F : FuncId) (a : AV) (P : List UInt8 → Bool) (l : List (List UInt8)) (hl : l.length ≤ 1000000) (hF : ∀ x, CallOk cx F [a, .str x] σ (fun e s => e = .ret (.bool (P x)) ∧ s = σ)) :
  CallOk cx 117 [.sl st fl 1 (texts l), .func (.func F) [a] []] σ (fun e s => e = .ret (.int .i64 (firstF l P)) ∧ s = σ) :=
 callOk_intro (fun a w => Tryz.call117 a w) Tryz.func117 rfl Tryz.ntmps117 rfl fun B => by
  have htl := texts_len l
  refine pa [] rfl ?_ ?_
  ·(repeat' with_reducible apply AllP_cons) <;> first | exact aC | skip
  refine S_while (α := Nat) (fun i => [(0, .sl st fl 1 (texts l)), (1, .func (.func F) [a] []), (7, .int .i64 (l.length : Nat)), (8, .int .i64 (i : Nat))]) (fun _ => σ) (fun i => i ≤ l.length ∧ ∀ x ∈ l.take i, P x = false) (fun i => l.length - i) 0
   ⟨Nat.zero_le _, by simp⟩ (.cons rfl (.cons rfl (.cons (by show AV.int .i64 ((texts l).length : Nat) = _; rw [htl]) (.cons rfl (.nil _))))) rfl ?_
  rintro i ⟨hi, hN⟩
  have hi : i ≤ l.length := hi
  by_cases hlt : i < l.length
  ·have e1 : (texts l)[((i : Nat) : Int).toNat]? = some (.str l[i]) := texts_get hlt
   cases hp : P l[i] with
   | true =>
    refine pa [.b true, .v (.str l[i]), .k (.bool true), .b true] rfl ?_ ?_
    ·(repeat' with_reducible apply AllP_cons) <;> first | exact aC | skip
     have := hF l[i]; rw [hp] at this; exact this
    refine S_ret ⟨_, _, rfl, trivial, ?_, rfl⟩
    have : l.findIdx? P = some i := List.findIdx?_eq_some_iff_getElem.2 ⟨hlt, hp, fun j hj => by
     rw [hN _ (List.mem_take_iff_getElem.2 ⟨j, by omega, rfl⟩)]; decide⟩
    rw [firstF, this]; rfl
   | false =>
    refine pa [.b true, .v (.str l[i]), .k (.bool false), .b false] rfl ?_ ?_
    ·(repeat' with_reducible apply AllP_cons) <;> first | exact aC | skip
     have := hF l[i]; rw [hp] at this; exact this
    refine S_round (i + 1) (by show l.length - (i + 1) < l.length - i; omega) ⟨hlt, fun x hm => ?_⟩ (.cons rfl (.cons rfl (.cons rfl (.cons (ai64 rfl (by omega)) (.nil _))))) rfl
    rw [List.take_succ_eq_append_getElem hlt] at hm
    rcases List.mem_append.1 hm with hm | hm
    ·exact hN x hm
    ·simp at hm; rw [hm]; exact hp
  ·obtain rfl : i = l.length := by omega
   rw [List.take_length] at hN
   refine pa [.b false] rfl ?_ ?_
   ·(repeat' with_reducible apply AllP_cons) <;> first | exact aC | skip
   refine S_ret ⟨_, _, rfl, trivial, ?_, rfl⟩
   have : l.findIdx? P = none := List.findIdx?_eq_none_iff.2 (fun x hx => by rw [hN x hx])
   rw [firstF, this]; rfl
theorem firstF_is {l : List (List UInt8)} {r : List Tok} : (isOf l r = false ∧ firstF l (fun s => isS s r) = -1) ∨ ∃ (i : Nat) (h : i < l.length), isOf l r = true ∧ firstF l (fun s => isS s r) = (i : Nat) ∧ l[i] = hdT r := by
 cases hf : l.findIdx? (fun s => isS s r) with
 | none =>
  left
  refine ⟨?_, by rw [firstF, hf]⟩
  rw [List.findIdx?_eq_none_iff] at hf
  unfold isOf
  cases hk : (hdK r == 4 || hdK r == 5) with
  | false => rfl
  | true =>
   cases hc : l.contains (hdT r) with
   | false => rfl
   | true =>
    have := hf _ (by simpa using hc)
    simp [isS, hk] at this
 | some i =>
  right
  obtain ⟨h1, h2, h3⟩ := List.findIdx?_eq_some_iff_getElem.1 hf
  refine ⟨i, h1, ?_, by rw [firstF, hf], ?_⟩
  ·simp only [isS, Bool.and_eq_true, beq_iff_eq] at h2
   unfold isOf
   rw [h2.1, h2.2]
   simp
  ·simp only [isS, Bool.and_eq_true, beq_iff_eq] at h2
   exact h2.2.symm
end Go.Proofs.YtonjhfeabphaaaaGreatDoor
end
section
set_option linter.unusedVariables false
set_option linter.unusedSimpArgs false
set_option maxRecDepth 20000
namespace Go.Proofs.YtonjhfeabphaaaaGreatDoor
open Go Go.Ab
structure LeftSt where
 F : Nat
 x : Ex
 r : List Tok
def exC (x : Ex) : List AV := (exA x).cells
def exB (x : Ex) : Nat × Option Box := match x with
 | .mk k n t ks ns => (0, some (.cells [.int .i64 (k : Nat), .int .i64 (n : Nat), .str t, .sl true false 5 (exL ks), .sl true false 1 (texts ns)] ⟨false, some 54⟩))
theorem left_ok (F kk : Nat) (sg : List (List UInt8)) (hsg : sg = binS kk) (g : FuncId) (fs cs : List AV) (v : Nat) (l : List Tok) (e b d n : Nat) (y : Nat × Option Box) (hy : Yok y) (hl : l.length ≤ 100000) (st fl : Bool)
  (hC : ∀ F', F' ≤ F → ∀ r, r <:+ l → levS F' (kk + 1) n r ≠ .out → Of g (fs ++ [] ++ cs) v l e b d n y r (levS F' (kk + 1) n r)) (r : List Tok) (hr : r <:+ l)
  (hne : ((levS F (kk + 1) n r).bind fun x r => loopS F kk n x r) ≠ .out) :
  CallOk cx 86 [.ptr 0 v 0, .func (.func g) fs cs, .sl st fl 1 (texts sg)] [psB v l r e b d n, y] (PE exA v l e b d n ((levS F (kk + 1) n r).bind fun x r => loopS F kk n x r) [y]) := by
 have hy0 := hy
 obtain ⟨yv, yc, yg, rfl, _⟩ := hy
 exact callOk_introT (fun a w => Tryz.call86 a w) Tryz.func86 rfl Tryz.ntmps86 rfl fun B => by
  obtain ⟨X, hX⟩ : ∃ X, X = ((levS F (kk + 1) n r).bind fun x r => loopS F kk n x r) := ⟨_, rfl⟩
  rw [← hX] at hne ⊢
  cases hx : levS F (kk + 1) n r with
  | out => rw [hx] at hX; exact absurd hX hne
  | bad j u =>
   rw [hx] at hX
   refine pa [] rfl ?_ ?_
   ·(repeat' with_reducible apply AllP_cons) <;> first | exact aC | skip
   exact S_callE2 hy0 rfl rfl rfl (hC F (Nat.le_refl _) r hr (by rw [hx]; nofun) [exO]) hx hX
  | ok z u =>
   have h1 := PE.ok (hC F (Nat.le_refl _) r hr (by rw [hx]; nofun) [exO]) hx
   rw [hx] at hX
   have hX : X = loopS F kk n z u := hX
   have hu := ((allS F).lev _ _ _ _ _ hx).trans hr
   obtain ⟨zk, zn, zt, zs, zm⟩ := z
   refine pa [.f (exA (.mk zk zn zt zs zm)) (fun σ => psB v l u e b d n :: σ.tail)] rfl ?_ ?_
   ·(repeat' with_reducible apply AllP_cons) <;> first | exact aC | skip
   refine S_while (α := LeftSt) (fun q => [(0, .ptr 0 v 0), (1, .func (.func g) fs cs), (2, .sl st fl 1 (texts sg)), (6, .ptr 2 0 0), (7, .ptr 3 0 0)]) (fun q => psB v l q.r e b d n :: (yv, some (.cells yc yg)) :: [exO, exB q.x])
    (fun q => q.F ≤ F ∧ q.r <:+ l ∧ loopS q.F kk n q.x q.r = X) (fun q => q.F) ⟨F, .mk zk zn zt zs zm, u⟩ ⟨Nat.le_refl _, hu, hX.symm⟩ (.cons rfl (.cons rfl (.cons rfl (.cons rfl (.cons rfl (.nil _)))))) rfl ?_
   rintro ⟨F1, ⟨xk, xn, xt, xs, xm⟩, r1⟩ ⟨hF, hr1, hq⟩
   have hF : F1 ≤ F := hF
   have hr1 : r1 <:+ l := hr1
   have hq : loopS F1 kk n (.mk xk xn xt xs xm) r1 = X := hq
   show S cx _ B _ _ [(0, .ptr 0 v 0), (1, .func (.func g) fs cs), (2, .sl st fl 1 (texts sg)), (6, .ptr 2 0 0), (7, .ptr 3 0 0)] (psB v l r1 e b d n :: (yv, some (.cells yc yg)) :: [exO, exB (.mk xk xn xt xs xm)])
   cases F1 with
   | zero => exact absurd hq.symm hne
   | succ F1 =>
    rw [loopS] at hq
    have hsl : sg.length ≤ 1000000 := by
     rw [hsg]; unfold binS; split <;> decide
    have hI := IndexFuncB_ok (st := st) (fl := fl) (σ := psB v l r1 e b d n :: (yv, some (.cells yc yg)) :: [exO, exB (.mk xk xn xt xs xm)]) 50 (.ptr 0 v 0) (fun s => isS s r1) sg hsl (fun s => isT v l r1 e b d n s _ hr1 hl)
    rcases firstF_is (l := sg) (r := r1) with ⟨h1, h2⟩ | ⟨i, hi, h1, h2, h3⟩
    ·rw [h2] at hI
     rw [if_neg (by rw [← hsg, h1]; decide)] at hq
     refine pa [.k (.int .i64 (-1)), .b true] rfl ?_ ?_
     ·(repeat' with_reducible apply AllP_cons) <;> first | exact aC | skip
     refine S_ret ⟨_, _, rfl, ⟨rfl, trivial⟩, ?_⟩
     exact PE.fin2 hy0 hq.symm (exA_free _)
    ·rw [h2] at hI
     rw [if_pos (by rw [← hsg, h1])] at hq
     have hof : ∃ t w, r1 = t :: w := by
      cases r1 with
      | nil => simp [isOf, hdK] at h1
      | cons t w => exact ⟨t, w, rfl⟩
     obtain ⟨t, w, rfl⟩ := hof
     have hw := suf_next hr1 hl
     have hr2 := suf_tail hr1
     have hel : (texts sg)[((i : Nat) : Int).toNat]? = some (.str sg[i]) := texts_get hi
     refine pa [.k (.int .i64 (i : Nat)), .b false] rfl ?_ ?_
     ·(repeat' with_reducible apply AllP_cons) <;> first | exact aC | skip
     refine S_heap (psB v l w e b d n :: (yv, some (.cells yc yg)) :: [exO, exB (.mk xk xn xt xs xm)]) ?_ ?_
     ·show psI v l (IntKind.i64.wrap (((l.length - (t :: w).length : Nat) : Int) + 1)) e b d n :: _ = _
      rw [hw]; rfl
     cases hz : levS F1 (kk + 1) n w with
     | out => rw [List.tail_cons, hz] at hq; exact absurd hq.symm hne
     | bad j u2 =>
      rw [List.tail_cons, hz] at hq
      refine S_drawE2 6 [] [.str sg[i]] hy0 rfl rfl rfl rfl rfl rfl ?_ (hC F1 (by omega) w hr2 (by rw [hz]; nofun) _) hz hq.symm
      (repeat' with_reducible apply AllP_cons) <;> first | exact aC | skip
     | ok z u2 =>
      rw [List.tail_cons, hz] at hq
      have hC1 := PE.ok (hC F1 (by omega) w hr2 (by rw [hz]; nofun) [exO, exB (.mk xk xn xt xs xm)]) hz
      have hu2 := ((allS F1).lev _ _ _ _ _ hz).trans hr2
      obtain ⟨ak, an, at', as', am⟩ := z
      refine pa [.d 6 9 [] (fun σ => psB v l u2 e b d n :: σ.tail) [.str sg[i], exA (.mk ak an at' as' am)], .s] rfl ?_ ?_
      ·(repeat' with_reducible apply AllP_cons) <;> first | exact aC | skip
       exact ⟨_, hC1, rfl⟩
      refine S_wkF 33 (exC (binE sg[i] (.mk xk xn xt xs xm) (.mk ak an at' as' am))) rfl (.cons .refl (.cons .refl (.cons .refl (.cons (.sl (fun _ => rfl) nofun) (.cons .nils .nil))))) ⟨.skip, _, .inr ⟨_, _, _, rfl⟩⟩ ?_
      refine pa [] rfl ?_ ?_
      ·(repeat' with_reducible apply AllP_cons) <;> first | exact aC | skip
      refine S_round ⟨F1, binE sg[i] (.mk xk xn xt xs xm) (.mk ak an at' as' am), u2⟩ (Nat.lt_succ_self _) ⟨by show F1 ≤ F; omega, hu2, ?_⟩ (.cons rfl (.cons rfl (.cons rfl (.cons rfl (.cons rfl (.nil _)))))) rfl
      show loopS F1 kk n (binE sg[i] _ _) u2 = X
      rw [h3]; exact hq
end Go.Proofs.YtonjhfeabphaaaaGreatDoor
end
section
set_option linter.unusedVariables false
set_option linter.unusedSimpArgs false
set_option maxRecDepth 20000
namespace Go.Proofs.YtonjhfeabphaaaaGreatDoor
open Go Go.Ab
def Cn (f : FuncId) (x : Nat → Nat → List Tok → Pr Ex) (F : Nat) : Prop := ∀ (v : Nat) (l : List Tok) (e b d n : Nat) (r : List Tok), r <:+ l → l.length ≤ 100000 → n ≤ 30 → x F n r ≠ .out →
 CallOk cx f [.ptr 0 v 0] (psH v l r e b d n) (PE exA v l e b d n (x F n r) [])
def qB (q v : Nat) : Nat × Option Box := (q, some (.cells [.ptr 0 v 0] ⟨false, none⟩))
theorem qB_ok (q v : Nat) : Yok (qB q v) := ⟨q, _, _, rfl, fun x hx => by
 simp only [List.mem_cons, List.not_mem_nil, or_false] at hx
 subst hx
 exact ⟨.ptr rfl, .ptr (by decide)⟩⟩
theorem exO_ok : Yok exO := ⟨_, _, _, rfl, fun x hx => by
 simp only [List.mem_cons, List.not_mem_nil, or_false] at hx
 rcases hx with rfl | rfl | rfl | rfl | rfl
 ·exact ⟨.free .int, .int⟩
 ·exact ⟨.free .int, .int⟩
 ·exact ⟨.free .str, .str⟩
 ·exact ⟨.free .nils, .nils⟩
 ·exact ⟨.free .nils, .nils⟩⟩
def Ccl (g : FuncId) (x : Nat → Nat → List Tok → Pr Ex) (F : Nat) : Prop := ∀ (q v : Nat) (l : List Tok) (e b d n : Nat) (r : List Tok), r <:+ l → l.length ≤ 100000 → n ≤ 30 → x F n r ≠ .out →
 CallOk cx g [.ptr 1 q 0] [psB v l r e b d n, qB q v] (PE exA v l e b d n (x F n r) [qB q v])
theorem Cn.tail {f : FuncId} {x : Nat → Nat → List Tok → Pr Ex} {F : Nat} (h : Cn f x F) (v : Nat) (l : List Tok) (e b d n : Nat) (r : List Tok) (τ : Heap) (hr : r <:+ l) (hl : l.length ≤ 100000) (hn : n ≤ 30) (hne : x F n r ≠ .out) :
  CallOk cx f [.ptr 0 v 0] (psB v l r e b d n :: τ) (PE exA v l e b d n (x F n r) τ) :=
 PE.tail τ (h v l e b d n r hr hl hn hne) hne (arg0_rn v [] (by simp)) exA_free
theorem Cn.of {f : FuncId} {x : Nat → Nat → List Tok → Pr Ex} {F : Nat} (h : Cn f x F) (v : Nat) (l : List Tok) (e b d n : Nat) (r : List Tok) (y : Nat × Option Box) (hr : r <:+ l) (hl : l.length ≤ 100000) (hn : n ≤ 30) (hne : x F n r ≠ .out) :
  Of f ([.ptr 0 v 0] ++ [] ++ []) v l e b d n y r (x F n r) := fun τ => h.tail v l e b d n r (y :: τ) hr hl hn hne
theorem Ccl.of {g : FuncId} {x : Nat → Nat → List Tok → Pr Ex} {F : Nat} (h : Ccl g x F) (q v : Nat) (l : List Tok) (e b d n : Nat) (r : List Tok) (hr : r <:+ l) (hl : l.length ≤ 100000) (hn : n ≤ 30) (hne : x F n r ≠ .out) :
  Of g ([] ++ [] ++ [.ptr 1 q 0]) v l e b d n (qB q v) r (x F n r) := fun τ => PE.tail2 τ (qB_ok q v) (h q v l e b d n r hr hl hn hne) hne (.cons (.ptr rfl) (.nil _)) exA_free
theorem clos_rn (v q : Nat) (g : FuncId) : Rns (List.range 2) [.ptr 0 v 0, .func (.func g) [] [.ptr 1 q 0]] [.ptr 0 v 0, .func (.func g) [] [.ptr 1 q 0]] :=
 .cons (.ptr rfl) (.cons (.func rfl (fun i h => by simp at h) rfl (fun i h _ => by
  have : i = 0 := by simp at h; omega
  subst this; exact .ptr rfl)) (.nil _))
theorem expr_ok (F : Nat) (h0 : Ccl 85 (fun F => levS F 0) F) : Cn 53 exprS (F + 1) := fun v l e b d n r hr hl hn hne =>
 callOk_introT (fun a w => Tryz.call53 a w) Tryz.func53 rfl Tryz.ntmps53 rfl fun B => by
  have hW : CallOk cx 84 [.ptr 0 v 0, .func (.func 85) [] [.ptr 1 0 0]] (psB v l r e b d n :: qB 0 v :: [exO]) (PE exA v l e b d n (exprS (F + 1) n r) (qB 0 v :: [exO])) :=
   PE.tail2 [exO] (qB_ok 0 v) (within_ok _ _ _ v l r e b d n _ (qB_ok 0 v) (levS F 0 (n + 1) r) hn
    (fun h => h0.of 0 v l e b d (n + 1) r hr hl (by omega) (by intro h'; exact hne (by rw [exprS, if_neg h]; exact h'))) hr hl (fun h h' => hne (by rw [exprS, if_neg h]; exact h')) (fun z u h => ((allS F).lev _ _ _ _ _ h).trans hr)) hne (clos_rn v 0 _) exA_free
  cases hx : exprS (F + 1) n r with
  | out => exact absurd hx hne
  | bad j u =>
   refine pa [] rfl ?_ ?_
   ·(repeat' with_reducible apply AllP_cons) <;> first | exact aC | skip
   exact S_callE rfl rfl rfl hW hx rfl
  | ok z u =>
   obtain ⟨zk, zn, zt, zs, zm⟩ := z
   refine pa [.f (exA (.mk zk zn zt zs zm)) (fun σ => psB v l u e b d n :: σ.tail)] rfl ?_ ?_
   ·(repeat' with_reducible apply AllP_cons) <;> first | exact aC | skip
    exact PE.ok hW hx
   refine S_ret ⟨_, _, rfl, ⟨rfl, trivial⟩, ?_⟩
   exact PE.fin rfl (exA_free _)
theorem sgs_rn (st fl : Bool) (sg : List (List UInt8)) : Free false (.sl st fl 1 (texts sg)) := .sl (fun h => by cases h) (textsF sg)
theorem closL_rn (v q : Nat) (g : FuncId) (st fl : Bool) (sg : List (List UInt8)) : Rns (List.range 2) [.ptr 0 v 0, .func (.func g) [] [.ptr 1 q 0], .sl st fl 1 (texts sg)] [.ptr 0 v 0, .func (.func g) [] [.ptr 1 q 0], .sl st fl 1 (texts sg)] :=
 .cons (.ptr rfl) (.cons (.func rfl (fun i h => by simp at h) rfl (fun i h _ => by
  have : i = 0 := by simp at h; omega
  subst this; exact .ptr rfl)) (.cons (.free (sgs_rn ..)) (.nil _)))
theorem boundL_rn (v : Nat) (g : FuncId) (st fl : Bool) (sg : List (List UInt8)) : Rns (List.range 2) [.ptr 0 v 0, .func (.func g) [.ptr 0 v 0] [], .sl st fl 1 (texts sg)] [.ptr 0 v 0, .func (.func g) [.ptr 0 v 0] [], .sl st fl 1 (texts sg)] :=
 .cons (.ptr rfl) (.cons (.func rfl (fun i h _ => by
  have : i = 0 := by simp at h; omega
  subst this; exact .ptr rfl) rfl (fun i h => by simp at h)) (.cons (.free (sgs_rn ..)) (.nil _)))
theorem expr1_ok (F : Nat) (h : ∀ F', F' ≤ F → Ccl 87 (fun F => levS F 1) F') : Ccl 85 (fun F => levS F 0) (F + 1) := fun q v l e b d n r hr hl hn hne =>
 callOk_introT (fun a w => Tryz.call85 a w) Tryz.func85 rfl Tryz.ntmps85 rfl fun B => by
  have hs : levS (F + 1) 0 n r = (levS F 1 n r).bind fun x r => loopS F 0 n x r := levS_b (by decide)
  have hne : levS (F + 1) 0 n r ≠ .out := hne
  have hL : ∀ st fl, CallOk cx 86 [.ptr 0 v 0, .func (.func 87) [] [.ptr 1 q 0], .sl st fl 1 (texts (binS 0))] (psB v l r e b d n :: qB q v :: [exO]) (PE exA v l e b d n (levS (F + 1) 0 n r) (qB q v :: [exO])) := fun st fl => by
   rw [hs] at hne ⊢
   exact PE.tail2 [exO] (qB_ok q v) (left_ok F 0 (binS 0) rfl _ _ _ v l e b d n _ (qB_ok q v) hl st fl (fun F' h' r hr hne => (h F' h').of q v l e b d n r hr hl hn hne) r hr hne) hne (closL_rn v q _ _ _ _) exA_free
  cases hx : levS (F + 1) 0 n r with
  | out => exact absurd hx hne
  | bad j u =>
   refine pa [] rfl ?_ ?_
   ·(repeat' with_reducible apply AllP_cons) <;> first | exact aC | skip
   exact S_callE2 (qB_ok q v) rfl rfl rfl (hL _ _) hx hx
  | ok z u =>
   obtain ⟨zk, zn, zt, zs, zm⟩ := z
   refine pa [.f (exA (.mk zk zn zt zs zm)) (fun σ => psB v l u e b d n :: σ.tail)] rfl ?_ ?_
   ·(repeat' with_reducible apply AllP_cons) <;> first | exact aC | skip
    exact PE.ok (hL _ _) hx
   refine S_ret ⟨_, _, rfl, ⟨rfl, trivial⟩, ?_⟩
   exact PE.fin2 (qB_ok q v) hx (exA_free _)
theorem expr11_ok (F : Nat) (h : ∀ F', F' ≤ F → Cn 88 (fun F => levS F 2) F') : Ccl 87 (fun F => levS F 1) (F + 1) := fun q v l e b d n r hr hl hn hne =>
 callOk_introT (fun a w => Tryz.call87 a w) Tryz.func87 rfl Tryz.ntmps87 rfl fun B => by
  have hs : levS (F + 1) 1 n r = (levS F 2 n r).bind fun x r => loopS F 1 n x r := levS_b (by decide)
  have hne : levS (F + 1) 1 n r ≠ .out := hne
  have hL : ∀ st fl, CallOk cx 86 [.ptr 0 v 0, .func (.func 88) [.ptr 0 v 0] [], .sl st fl 1 (texts (binS 1))] (psB v l r e b d n :: qB q v :: [exO]) (PE exA v l e b d n (levS (F + 1) 1 n r) (qB q v :: [exO])) := fun st fl => by
   rw [hs] at hne ⊢
   exact PE.tail2 [exO] (qB_ok q v) (left_ok F 1 (binS 1) rfl _ _ _ v l e b d n _ (qB_ok q v) hl st fl (fun F' h' r hr hne => (h F' h').of v l e b d n r _ hr hl hn hne) r hr hne) hne (boundL_rn v _ _ _ _) exA_free
  cases hx : levS (F + 1) 1 n r with
  | out => exact absurd hx hne
  | bad j u =>
   refine pa [] rfl ?_ ?_
   ·(repeat' with_reducible apply AllP_cons) <;> first | exact aC | skip
   exact S_callE2 (qB_ok q v) rfl rfl rfl (hL _ _) hx hx
  | ok z u =>
   obtain ⟨zk, zn, zt, zs, zm⟩ := z
   refine pa [.f (exA (.mk zk zn zt zs zm)) (fun σ => psB v l u e b d n :: σ.tail)] rfl ?_ ?_
   ·(repeat' with_reducible apply AllP_cons) <;> first | exact aC | skip
    exact PE.ok (hL _ _) hx
   refine S_ret ⟨_, _, rfl, ⟨rfl, trivial⟩, ?_⟩
   exact PE.fin2 (qB_ok q v) hx (exA_free _)
theorem sum1_ok (F : Nat) (h : ∀ F', F' ≤ F → Cn 127 (fun F => levS F 5) F') : Ccl 126 (fun F => levS F 4) (F + 1) := fun q v l e b d n r hr hl hn hne =>
 callOk_introT (fun a w => Tryz.call126 a w) Tryz.func126 rfl Tryz.ntmps126 rfl fun B => by
  have hs : levS (F + 1) 4 n r = (levS F 5 n r).bind fun x r => loopS F 4 n x r := levS_b (by decide)
  have hne : levS (F + 1) 4 n r ≠ .out := hne
  have hL : ∀ st fl, CallOk cx 86 [.ptr 0 v 0, .func (.func 127) [.ptr 0 v 0] [], .sl st fl 1 (texts (binS 4))] (psB v l r e b d n :: qB q v :: [exO]) (PE exA v l e b d n (levS (F + 1) 4 n r) (qB q v :: [exO])) := fun st fl => by
   rw [hs] at hne ⊢
   exact PE.tail2 [exO] (qB_ok q v) (left_ok F 4 (binS 4) rfl _ _ _ v l e b d n _ (qB_ok q v) hl st fl (fun F' h' r hr hne => (h F' h').of v l e b d n r _ hr hl hn hne) r hr hne) hne (boundL_rn v _ _ _ _) exA_free
  cases hx : levS (F + 1) 4 n r with
  | out => exact absurd hx hne
  | bad j u =>
   refine pa [] rfl ?_ ?_
   ·(repeat' with_reducible apply AllP_cons) <;> first | exact aC | skip
   exact S_callE2 (qB_ok q v) rfl rfl rfl (hL _ _) hx hx
  | ok z u =>
   obtain ⟨zk, zn, zt, zs, zm⟩ := z
   refine pa [.f (exA (.mk zk zn zt zs zm)) (fun σ => psB v l u e b d n :: σ.tail)] rfl ?_ ?_
   ·(repeat' with_reducible apply AllP_cons) <;> first | exact aC | skip
    exact PE.ok (hL _ _) hx
   refine S_ret ⟨_, _, rfl, ⟨rfl, trivial⟩, ?_⟩
   exact PE.fin2 (qB_ok q v) hx (exA_free _)
theorem sum_ok (F : Nat) (h : ∀ F', F' ≤ F → Ccl 126 (fun F => levS F 4) F') : Cn 118 (fun F => levS F 3) (F + 1) := fun v l e b d n r hr hl hn hne =>
 callOk_introT (fun a w => Tryz.call118 a w) Tryz.func118 rfl Tryz.ntmps118 rfl fun B => by
  have hs : levS (F + 1) 3 n r = (levS F 4 n r).bind fun x r => loopS F 3 n x r := levS_b (by decide)
  have hne : levS (F + 1) 3 n r ≠ .out := hne
  have hL : ∀ st fl, CallOk cx 86 [.ptr 0 v 0, .func (.func 126) [] [.ptr 1 0 0], .sl st fl 1 (texts (binS 3))] (psB v l r e b d n :: qB 0 v :: [exO]) (PE exA v l e b d n (levS (F + 1) 3 n r) (qB 0 v :: [exO])) := fun st fl => by
   rw [hs] at hne ⊢
   exact PE.tail2 [exO] (qB_ok 0 v) (left_ok F 3 (binS 3) rfl _ _ _ v l e b d n _ (qB_ok 0 v) hl st fl (fun F' h' r hr hne => (h F' h').of 0 v l e b d n r hr hl hn hne) r hr hne) hne (closL_rn v 0 _ _ _ _) exA_free
  cases hx : levS (F + 1) 3 n r with
  | out => exact absurd hx hne
  | bad j u =>
   refine pa [] rfl ?_ ?_
   ·(repeat' with_reducible apply AllP_cons) <;> first | exact aC | skip
   exact S_callE rfl rfl rfl (hL _ _) hx hx
  | ok z u =>
   obtain ⟨zk, zn, zt, zs, zm⟩ := z
   refine pa [.f (exA (.mk zk zn zt zs zm)) (fun σ => psB v l u e b d n :: σ.tail)] rfl ?_ ?_
   ·(repeat' with_reducible apply AllP_cons) <;> first | exact aC | skip
    exact PE.ok (hL _ _) hx
   refine S_ret ⟨_, _, rfl, ⟨rfl, trivial⟩, ?_⟩
   exact PE.fin hx (exA_free _)
end Go.Proofs.YtonjhfeabphaaaaGreatDoor
end
section
set_option linter.unusedVariables false
set_option linter.unusedSimpArgs false
set_option maxRecDepth 20000
namespace Go.Proofs.YtonjhfeabphaaaaGreatDoor
open Go Go.Ab
theorem isOf_of {sg : List (List UInt8)} {r : List Tok} {i : Nat} (hi : i < sg.length) (h : isS sg[i] r = true) : isOf sg r = true ∧ hdT r = sg[i] := by
 simp only [isS, Bool.and_eq_true, beq_iff_eq] at h
 refine ⟨?_, h.2⟩
 unfold isOf
 rw [h.1, h.2]
 simp
theorem isOf_no {sg : List (List UInt8)} {r : List Tok} (h : ∀ s ∈ sg, isS s r = false) : isOf sg r = false := by
 unfold isOf
 cases hk : (hdK r == 4 || hdK r == 5) with
 | false => rfl
 | true =>
  cases hc : sg.contains (hdT r) with
  | false => rfl
  | true =>
   have := h _ (by simpa using hc)
   simp [isS, hk] at this
theorem not_ok (F : Nat) (h2 : Cn 88 (fun F => levS F 2) F) (h3 : Cn 118 (fun F => levS F 3) F) : Cn 88 (fun F => levS F 2) (F + 1) := fun v l e b d n r hr hl hn hne =>
 callOk_introT (fun a w => Tryz.call88 a w) Tryz.func88 rfl Tryz.ntmps88 rfl fun B => by
  obtain ⟨X, hX⟩ : ∃ X, X = levS (F + 1) 2 n r := ⟨_, rfl⟩
  have hne : X ≠ .out := by rw [hX]; exact hne
  show S cx _ B _ (retQ cx _ (TR 1 (PE exA v l e b d n (levS (F + 1) 2 n r) []))) _ _
  rw [← hX]
  rw [levS_2] at hX
  by_cases c1 : isS wNot r = true
  ·rw [if_pos c1] at hX
   have hm := may_yes v l r e b d n wNot [exO] hr hl c1
   have hr1 := isS_suf hr
   have hW : CallOk cx 84 [.ptr 0 v 0, .func (.func 88) [.ptr 0 v 0] []] (psB v l r.tail e b d n :: exO :: []) (PE exA v l e b d n (if n = 30 then .bad 2 r.tail else levS F 2 (n + 1) r.tail) [exO]) :=
    within_ok _ _ _ v l r.tail e b d n _ exO_ok (levS F 2 (n + 1) r.tail) hn
     (fun h => h2.of v l e b d (n + 1) r.tail _ hr1 hl (by omega) (by intro h'; have h' : levS F 2 (n + 1) r.tail = .out := h'; rw [if_neg h, h'] at hX; exact hne hX)) hr1 hl (fun h h' => by rw [if_neg h, h'] at hX; exact hne hX) (fun z u h => ((allS F).lev _ _ _ _ _ h).trans hr1)
   cases hx : (if n = 30 then (.bad 2 r.tail : Pr Ex) else levS F 2 (n + 1) r.tail) with
   | out =>
    by_cases h : n = 30
    ·rw [if_pos h] at hx; cases hx
    ·rw [if_neg h] at hx hX; rw [hx] at hX; exact absurd hX hne
   | bad j u =>
    refine pa [.f (.bool true) (fun σ => psB v l r.tail e b d n :: σ.tail), .b true] rfl ?_ ?_
    ·(repeat' with_reducible apply AllP_cons) <;> first | exact aC | skip
    refine S_callE rfl rfl rfl hW hx ?_
    by_cases h : n = 30
    ·rw [if_pos h] at hx hX; rw [hX, hx]
    ·rw [if_neg h] at hx hX; rw [hX, hx]; rfl
   | ok z u =>
    have hn30 : n ≠ 30 := fun h => by rw [if_pos h] at hx; cases hx
    have hW1 := PE.ok hW hx
    rw [if_neg hn30] at hx hX
    rw [hx] at hX
    obtain ⟨zk, zn, zt, zs, zm⟩ := z
    refine pa [.f (.bool true) (fun σ => psB v l r.tail e b d n :: σ.tail), .b true, .f (exA (.mk zk zn zt zs zm)) (fun σ => psB v l u e b d n :: σ.tail)] rfl ?_ ?_
    ·(repeat' with_reducible apply AllP_cons) <;> first | exact aC | skip
    refine S_wkB 1 (exC (.mk 12 0 [] [.mk zk zn zt zs zm] [])) rfl (.cons .refl (.cons .refl (.cons .refl (.cons (.sl (fun _ => rfl) nofun) (.cons .nils .nil))))) ⟨_, _, .inl rfl⟩ ?_
    refine S_ret ⟨_, _, rfl, ⟨rfl, trivial⟩, ?_⟩
    exact PE.fin hX (exA_free (.mk 12 0 [] [.mk zk zn zt zs zm] []))
  ·rw [if_neg c1] at hX
   have hm := may_no v l r e b d n wNot [exO] hr hl c1
   cases hx : levS F 3 n r with
   | out => rw [hx] at hX; exact absurd hX hne
   | bad j u =>
    have hS := h3.tail v l e b d n r [exO] hr hl hn (by show levS F 3 n r ≠ .out; rw [hx]; nofun)
    rw [hx] at hX
    refine pa [.k (.bool false), .b false] rfl ?_ ?_
    ·(repeat' with_reducible apply AllP_cons) <;> first | exact aC | skip
    exact S_callE rfl rfl rfl hS hx hX
   | ok z u =>
    have hS := PE.ok (h3.tail v l e b d n r [exO] hr hl hn (by show levS F 3 n r ≠ .out; rw [hx]; nofun)) hx
    rw [hx] at hX
    have hu := ((allS F).lev _ _ _ _ _ hx).trans hr
    have hX : X = if isOf (binS 2) u then (levS F 3 n u.tail).bind fun y r' => .ok (binE (hdT u) z y) r' else .ok z u := hX
    obtain ⟨zk, zn, zt, zs, zm⟩ := z
    refine pa [.k (.bool false), .b false, .f (exA (.mk zk zn zt zs zm)) (fun σ => psB v l u e b d n :: σ.tail)] rfl ?_ ?_
    ·(repeat' with_reducible apply AllP_cons) <;> first | exact aC | skip
    refine S_while (α := Nat) (fun i => [(0, .ptr 0 v 0), (2, .ptr 1 0 0), (3, .ptr 2 0 0), (16, .sl true true 1 (texts (binS 2))), (17, .int .i64 5), (18, .int .i64 (i : Nat))]) (fun _ => [psB v l u e b d n, exO, exB (.mk zk zn zt zs zm)])
     (fun i => i ≤ 5 ∧ ∀ s ∈ (binS 2).take i, isS s u = false) (fun i => 5 - i) 0 ⟨Nat.zero_le _, by simp⟩ (.cons rfl (.cons rfl (.cons rfl (.cons rfl (.cons rfl (.cons rfl (.nil _))))))) rfl ?_
    rintro i ⟨hi, hN⟩
    have hi : i ≤ 5 := hi
    have hsl : (binS 2).length = 5 := rfl
    by_cases hlt : i < 5
    ·have hel : (texts (binS 2))[((i : Nat) : Int).toNat]? = some (.str ((binS 2)[i]'hlt)) := texts_get (l := binS 2) hlt
     by_cases c2 : isS ((binS 2)[i]'hlt) u = true
     ·obtain ⟨o1, o2⟩ := isOf_of (sg := binS 2) hlt c2
      rw [if_pos o1, o2] at hX
      have hm2 := may_yes v l u e b d n ((binS 2)[i]'hlt) [exO, exB (.mk zk zn zt zs zm)] hu hl c2
      have hu2 := isS_suf hu
      refine pa [.b true, .v (.str ((binS 2)[i]'hlt)), .f (.bool true) (fun σ => psB v l u.tail e b d n :: σ.tail), .b true] rfl ?_ ?_
      ·(repeat' with_reducible apply AllP_cons) <;> first | exact aC | skip
      cases hy : levS F 3 n u.tail with
      | out => rw [hy] at hX; exact absurd hX hne
      | bad j w =>
       have hS2 := h3.tail v l e b d n u.tail [exO, exB (.mk zk zn zt zs zm)] hu2 hl hn (by show levS F 3 n u.tail ≠ .out; rw [hy]; nofun)
       rw [hy] at hX
       refine S_drawE 3 [] [] rfl rfl rfl rfl rfl rfl ?_ hS2 hy hX
       (repeat' with_reducible apply AllP_cons) <;> first | exact aC | skip
      | ok y w =>
       have hS2 := PE.ok (h3.tail v l e b d n u.tail [exO, exB (.mk zk zn zt zs zm)] hu2 hl hn (by show levS F 3 n u.tail ≠ .out; rw [hy]; nofun)) hy
       rw [hy] at hX
       obtain ⟨yk, yn, yt, ys, ym⟩ := y
       refine pa [.d 3 6 [] (fun σ => psB v l w e b d n :: σ.tail) [exA (.mk yk yn yt ys ym)]] rfl ?_ ?_
       ·(repeat' with_reducible apply AllP_cons) <;> first | exact aC | skip
        exact ⟨_, hS2, rfl⟩
       refine S_wkB 1 (exC (binE ((binS 2)[i]'hlt) (.mk zk zn zt zs zm) (.mk yk yn yt ys ym))) rfl (.cons .refl (.cons .refl (.cons .refl (.cons (.sl (fun _ => rfl) nofun) (.cons .nils .nil))))) ⟨_, _, .inl rfl⟩ ?_
       refine S_ret ⟨_, _, rfl, ⟨rfl, trivial⟩, ?_⟩
       exact PE.fin hX (exA_free (binE _ _ _))
     ·have hm2 := may_no v l u e b d n ((binS 2)[i]'hlt) [exO, exB (.mk zk zn zt zs zm)] hu hl c2
      refine pa [.b true, .v (.str ((binS 2)[i]'hlt)), .k (.bool false), .b false] rfl ?_ ?_
      ·(repeat' with_reducible apply AllP_cons) <;> first | exact aC | skip
      refine S_round (i + 1) (by show 5 - (i + 1) < 5 - i; omega) ⟨hlt, fun s hs => ?_⟩ (.cons rfl (.cons rfl (.cons rfl (.cons rfl (.cons rfl (.cons (ai64 rfl (by omega)) (.nil _))))))) rfl
      rw [List.take_succ_eq_append_getElem (show i < (binS 2).length from hlt)] at hs
      rcases List.mem_append.1 hs with hs | hs
      ·exact hN s hs
      ·rw [List.mem_singleton] at hs; rw [hs]; exact (Bool.not_eq_true _).mp c2
    ·obtain rfl : i = 5 := by omega
     rw [isOf_no (sg := binS 2) hN, if_neg (by decide)] at hX
     refine pa [.b false] rfl ?_ ?_
     ·(repeat' with_reducible apply AllP_cons) <;> first | exact aC | skip
     refine S_ret ⟨_, _, rfl, ⟨rfl, trivial⟩, ?_⟩
     exact PE.fin hX (exA_free _)
def Cc (F : Nat) : Prop := ∀ (v : Nat) (l : List Tok) (e b d n : Nat) (r : List Tok) (x : Ex), r <:+ l → l.length ≤ 100000 → n ≤ 30 → callS F n [x] [] r ≠ .out →
 CallOk cx 135 [.ptr 0 v 0, exA x] (psH v l r e b d n) (PE exA v l e b d n (callS F n [x] [] r) [])
theorem Cc.tail {F : Nat} (h : Cc F) (v : Nat) (l : List Tok) (e b d n : Nat) (r : List Tok) (x : Ex) (τ : Heap) (hr : r <:+ l) (hl : l.length ≤ 100000) (hn : n ≤ 30) (hne : callS F n [x] [] r ≠ .out) :
  CallOk cx 135 [.ptr 0 v 0, exA x] (psB v l r e b d n :: τ) (PE exA v l e b d n (callS F n [x] [] r) τ) :=
 PE.tail τ (h v l e b d n r x hr hl hn hne) hne (arg0_rn v _ (by intro y hy; simp at hy; subst hy; exact exA_free x)) exA_free
theorem unary_ok (F : Nat) (h5 : Cn 127 (fun F => levS F 5) F) (ha : Cn 134 atomS F) (hc : ∀ F', F' ≤ F → Cc F') (he : ∀ F', F' ≤ F → Cn 53 exprS F') :
  Cn 127 (fun F => levS F 5) (F + 1) := fun v l e b d n r hr hl hn hne =>
 callOk_introT (fun a w => Tryz.call127 a w) Tryz.func127 rfl Tryz.ntmps127 rfl fun B => by
  obtain ⟨X, hX⟩ : ∃ X, X = levS (F + 1) 5 n r := ⟨_, rfl⟩
  have hne : X ≠ .out := by rw [hX]; exact hne
  show S cx _ B _ (retQ cx _ (TR 1 (PE exA v l e b d n (levS (F + 1) 5 n r) []))) _ _
  rw [← hX]
  rw [levS_5] at hX
  by_cases c1 : isS [45] r = true
  ·rw [if_pos c1] at hX
   have hm := may_yes v l r e b d n [45] [exO] hr hl c1
   have hr1 := isS_suf hr
   have hW : CallOk cx 84 [.ptr 0 v 0, .func (.func 127) [.ptr 0 v 0] []] (psB v l r.tail e b d n :: exO :: []) (PE exA v l e b d n (if n = 30 then .bad 2 r.tail else levS F 5 (n + 1) r.tail) [exO]) :=
    within_ok _ _ _ v l r.tail e b d n _ exO_ok (levS F 5 (n + 1) r.tail) hn
     (fun h => h5.of v l e b d (n + 1) r.tail _ hr1 hl (by omega) (by intro h'; have h' : levS F 5 (n + 1) r.tail = .out := h'; rw [if_neg h, h'] at hX; exact hne hX)) hr1 hl (fun h h' => by rw [if_neg h, h'] at hX; exact hne hX) (fun z u h => ((allS F).lev _ _ _ _ _ h).trans hr1)
   cases hx : (if n = 30 then (.bad 2 r.tail : Pr Ex) else levS F 5 (n + 1) r.tail) with
   | out =>
    by_cases h : n = 30
    ·rw [if_pos h] at hx; cases hx
    ·rw [if_neg h] at hx hX; rw [hx] at hX; exact absurd hX hne
   | bad j u =>
    refine pa [.f (.bool true) (fun σ => psB v l r.tail e b d n :: σ.tail), .b true] rfl ?_ ?_
    ·(repeat' with_reducible apply AllP_cons) <;> first | exact aC | skip
    refine S_callE rfl rfl rfl hW hx ?_
    by_cases h : n = 30
    ·rw [if_pos h] at hx hX; rw [hX, hx]
    ·rw [if_neg h] at hx hX; rw [hX, hx]; rfl
   | ok z u =>
    have hn30 : n ≠ 30 := fun h => by rw [if_pos h] at hx; cases hx
    have hW1 := PE.ok hW hx
    rw [if_neg hn30] at hx hX
    rw [hx] at hX
    obtain ⟨zk, zn, zt, zs, zm⟩ := z
    refine pa [.f (.bool true) (fun σ => psB v l r.tail e b d n :: σ.tail), .b true, .f (exA (.mk zk zn zt zs zm)) (fun σ => psB v l u e b d n :: σ.tail)] rfl ?_ ?_
    ·(repeat' with_reducible apply AllP_cons) <;> first | exact aC | skip
    refine S_wkB 1 (exC (.mk 13 0 [] [.mk zk zn zt zs zm] [])) rfl (.cons .refl (.cons .refl (.cons .refl (.cons (.sl (fun _ => rfl) nofun) (.cons .nils .nil))))) ⟨_, _, .inl rfl⟩ ?_
    refine S_ret ⟨_, _, rfl, ⟨rfl, trivial⟩, ?_⟩
    exact PE.fin hX (exA_free (.mk 13 0 [] [.mk zk zn zt zs zm] []))
  ·rw [if_neg c1] at hX
   have hm := may_no v l r e b d n [45] [exO] hr hl c1
   cases hx : atomS F n r with
   | out => rw [hx] at hX; exact absurd hX hne
   | bad j u =>
    have hS := ha.tail v l e b d n r [exO] hr hl hn (by rw [hx]; nofun)
    rw [hx] at hX
    refine pa [.k (.bool false), .b false] rfl ?_ ?_
    ·(repeat' with_reducible apply AllP_cons) <;> first | exact aC | skip
    exact S_callE rfl rfl rfl hS hx hX
   | ok z u =>
    have hS := PE.ok (ha.tail v l e b d n r [exO] hr hl hn (by rw [hx]; nofun)) hx
    rw [hx] at hX
    have hu := ((allS F).atom _ _ _ _ hx).trans hr
    have hX : X = postS F n z u := hX
    obtain ⟨zk, zn, zt, zs, zm⟩ := z
    refine pa [.k (.bool false), .b false, .f (exA (.mk zk zn zt zs zm)) (fun σ => psB v l u e b d n :: σ.tail)] rfl ?_ ?_
    ·(repeat' with_reducible apply AllP_cons) <;> first | exact aC | skip
    refine S_while (α := LeftSt) (fun q => [(0, .ptr 0 v 0), (2, .ptr 1 0 0), (3, .ptr 2 0 0)]) (fun q => [psB v l q.r e b d n, exO, exB q.x])
     (fun q => q.F ≤ F ∧ q.r <:+ l ∧ postS q.F n q.x q.r = X) (fun q => q.F) ⟨F, .mk zk zn zt zs zm, u⟩ ⟨Nat.le_refl _, hu, hX.symm⟩ (.cons rfl (.cons rfl (.cons rfl (.nil _)))) rfl ?_
    rintro ⟨F1, ⟨xk, xn, xt, xs, xm⟩, r1⟩ ⟨hF, hr1, hq⟩
    have hF : F1 ≤ F := hF
    have hr1 : r1 <:+ l := hr1
    have hq : postS F1 n (.mk xk xn xt xs xm) r1 = X := hq
    show S cx _ B _ _ [(0, .ptr 0 v 0), (2, .ptr 1 0 0), (3, .ptr 2 0 0)] [psB v l r1 e b d n, exO, exB (.mk xk xn xt xs xm)]
    cases F1 with
    | zero => exact absurd hq.symm hne
    | succ F1 =>
     rw [postS] at hq
     have hr2 := isS_suf hr1
     by_cases c2 : isS [40] r1 = true
     ·rw [if_pos c2] at hq
      have hm1 := may_yes v l r1 e b d n [40] [exO, exB (.mk xk xn xt xs xm)] hr1 hl c2
      cases hy : callS F1 n [.mk xk xn xt xs xm] [] r1.tail with
      | out => rw [hy] at hq; exact absurd hq.symm hne
      | bad j w =>
       have hK := (hc F1 (by omega)).tail v l e b d n r1.tail (.mk xk xn xt xs xm) [exO, exB (.mk xk xn xt xs xm)] hr2 hl hn (by rw [hy]; nofun)
       rw [hy] at hq
       refine pa [.f (.bool true) (fun σ => psB v l r1.tail e b d n :: σ.tail), .b true] rfl ?_ ?_
       ·(repeat' with_reducible apply AllP_cons) <;> first | exact aC | skip
       exact S_callE rfl rfl rfl hK hy hq.symm
      | ok y w =>
       have hK := PE.ok ((hc F1 (by omega)).tail v l e b d n r1.tail (.mk xk xn xt xs xm) [exO, exB (.mk xk xn xt xs xm)] hr2 hl hn (by rw [hy]; nofun)) hy
       rw [hy] at hq
       have hw := ((allS F1).call _ _ _ _ _ _ hy).trans hr2
       obtain ⟨yk, yn, yt, ys, ym⟩ := y
       refine pa [.f (.bool true) (fun σ => psB v l r1.tail e b d n :: σ.tail), .b true, .f (exA (.mk yk yn yt ys ym)) (fun σ => psB v l w e b d n :: σ.tail)] rfl ?_ ?_
       ·(repeat' with_reducible apply AllP_cons) <;> first | exact aC | skip
       exact S_round ⟨F1, .mk yk yn yt ys ym, w⟩ (Nat.lt_succ_self _) ⟨by show F1 ≤ F; omega, hw, hq⟩ (.cons rfl (.cons rfl (.cons rfl (.nil _)))) rfl
     ·rw [if_neg c2] at hq
      have hm1 := may_no v l r1 e b d n [40] [exO, exB (.mk xk xn xt xs xm)] hr1 hl c2
      by_cases c3 : isS [91] r1 = true
      ·rw [if_pos c3] at hq
       have hm2 := may_yes v l r1 e b d n [91] [exO, exB (.mk xk xn xt xs xm)] hr1 hl c3
       refine pa [.k (.bool false), .b false, .f (.bool true) (fun σ => psB v l r1.tail e b d n :: σ.tail), .b true] rfl ?_ ?_
       ·(repeat' with_reducible apply AllP_cons) <;> first | exact aC | skip
       cases hy : exprS F1 n r1.tail with
       | out => rw [hy] at hq; exact absurd hq.symm hne
       | bad j w =>
        have hK := (he F1 (by omega)).tail v l e b d n r1.tail [exO, exB (.mk xk xn xt xs xm)] hr2 hl hn (by rw [hy]; nofun)
        rw [hy] at hq
        refine S_drawE 2 [] [] rfl rfl rfl rfl rfl rfl ?_ hK hy hq.symm
        (repeat' with_reducible apply AllP_cons) <;> first | exact aC | skip
       | ok y w =>
        have hK := PE.ok ((he F1 (by omega)).tail v l e b d n r1.tail [exO, exB (.mk xk xn xt xs xm)] hr2 hl hn (by rw [hy]; nofun)) hy
        rw [hy] at hq
        have hw := ((allS F1).expr _ _ _ _ hy).trans hr2
        obtain ⟨yk, yn, yt, ys, ym⟩ := y
        have hM := mustT v l w e b d n [93] [exO, exB (.mk 11 0 [] [.mk xk xn xt xs xm, .mk yk yn yt ys ym] [])] hw hl
        refine pa [.d 2 5 [] (fun σ => psB v l w e b d n :: σ.tail) [exA (.mk yk yn yt ys ym)], .s] rfl ?_ ?_
        ·(repeat' with_reducible apply AllP_cons) <;> first | exact aC | skip
         exact ⟨_, hK, rfl⟩
        refine S_wkF 28 (exC (.mk 11 0 [] [.mk xk xn xt xs xm, .mk yk yn yt ys ym] [])) rfl (.cons .refl (.cons .refl (.cons .refl (.cons (.sl (fun _ => rfl) nofun) (.cons .nils .nil))))) ⟨.skip, _, .inr ⟨_, _, _, rfl⟩⟩ ?_
        refine pa [] rfl ?_ ?_
        ·(repeat' with_reducible apply AllP_cons) <;> first | exact aC | skip
        have hq : (mustS [93] w).bind (fun _ r => postS F1 n (.mk 11 0 [] [.mk xk xn xt xs xm, .mk yk yn yt ys ym] []) r) = X := hq
        cases hz : mustS [93] w with
        | out => rw [hz] at hq; exact absurd hq.symm hne
        | bad j w2 =>
         rw [hz] at hq
         exact S_callE rfl rfl rfl hM hz hq.symm
        | ok _ w2 =>
         have hM := PE.ok hM hz
         rw [hz] at hq
         have hw2 := (mustS_s _ _ _ _ hz).trans hw
         refine pa [.f (.tup []) (fun σ => psB v l w2 e b d n :: σ.tail)] rfl ?_ ?_
         ·(repeat' with_reducible apply AllP_cons) <;> first | exact aC | skip
         exact S_round ⟨F1, .mk 11 0 [] [.mk xk xn xt xs xm, .mk yk yn yt ys ym] [], w2⟩ (Nat.lt_succ_self _) ⟨by show F1 ≤ F; omega, hw2, hq⟩ (.cons rfl (.cons rfl (.cons rfl (.nil _)))) rfl
      ·rw [if_neg c3] at hq
       have hm2 := may_no v l r1 e b d n [91] [exO, exB (.mk xk xn xt xs xm)] hr1 hl c3
       refine pa [.k (.bool false), .b false, .k (.bool false), .b false] rfl ?_ ?_
       ·(repeat' with_reducible apply AllP_cons) <;> first | exact aC | skip
       refine S_ret ⟨_, _, rfl, ⟨rfl, trivial⟩, ?_⟩
       exact PE.fin hq.symm (exA_free _)
end Go.Proofs.YtonjhfeabphaaaaGreatDoor
end
section
set_option linter.unusedVariables false
set_option linter.unusedSimpArgs false
set_option maxRecDepth 20000
namespace Go.Proofs.YtonjhfeabphaaaaGreatDoor
open Go Go.Ab
theorem exFz {k : Nat} {σ : Heap} {a b : AV} {kd nm : Nat} {t : List UInt8} {ks : List Ex} {ns : List (List UInt8)} (ha : FzT k σ a (.sl true false 5 (exL ks))) (hb : FzT k σ b (.sl true false 1 (texts ns))) :
  FzT k σ (.agg [.int .i64 (kd : Nat), .int .i64 (nm : Nat), .str t, a, b]) (exA (.mk kd nm t ks ns)) := by
 refine .agg rfl (fun i h h' => ?_)
 match i, h with
 | 0, _ => exact .low .int
 | 1, _ => exact .low .int
 | 2, _ => exact .low .str
 | 3, _ => exact ha
 | 4, _ => exact hb
theorem exL_snoc (l : List Ex) (y : Ex) : exL (l ++ [y]) = exL l ++ [exA y] := by
 rw [exL_map, exL_map, List.map_append]; rfl
theorem exL_len (l : List Ex) : (exL l).length = l.length := by rw [exL_map]; simp
theorem exL_sz (l : List Ex) : ∀ x ∈ exL l, x.cells.length = 5 := by
 intro x hx; rw [exL_map] at hx; obtain ⟨y, _, rfl⟩ := List.mem_map.1 hx; exact exA_cells y
def exF (l : List Ex) : List AV := (exL l).flatMap AV.cells
theorem exF_len (l : List Ex) : (exF l).length = l.length * 5 := by
 unfold exF
 induction l with
 | nil => rfl
 | cons x r ih =>
  rw [exL, List.flatMap_cons, List.length_append, ih, exA_cells, List.length_cons]; omega
theorem exF_snoc (l : List Ex) (y : Ex) : exF (l ++ [y]) = exF l ++ (exA y).cells := by
 unfold exF; rw [exL_snoc, List.flatMap_append, List.flatMap_cons, List.flatMap_nil, List.append_nil]
def kidB (w : Nat) (ks : List Ex) : Nat × Option Box := (w, some (.cells (exF ks) ⟨false, none⟩))
theorem kidFz {k : Nat} {σ : Heap} {id w : Nat} {ks : List Ex} (hk : k ≤ id) (hb : σ[id]? = some (kidB w ks)) : FzT k σ (.ms id w 0 ks.length 5 false) (.sl true false 5 (exL ks)) :=
 .msN hk (by unfold boxAt; rw [hb]; rfl) (exL_sz ks) (exL_len ks) (fun x hx => Low.free (exL_free (st := false) ks x hx))
def words3 : List (List UInt8) := [wNone, wTrue, wFalse]
structure DictSt where
 F : Nat
 ks : List Ex
 r : List Tok
 w : Nat
def dictB (w : Nat) (ks : List Ex) : Nat × Option Box := (0, some (.cells [.int .i64 8, .int .i64 0, .str [], .ms 3 w 0 ks.length 5 false, .nils] ⟨false, some 54⟩))
theorem atom_ok (F : Nat) (hF : F ≤ 10000000) (he : ∀ F', F' ≤ F → Cn 53 exprS F') (hli : Cn 142 listS F) : Cn 134 atomS (F + 1) := fun v l e b d n r hr hl hn hne =>
 callOk_introT (fun a w => Tryz.call134 a w) Tryz.func134 rfl Tryz.ntmps134 rfl fun B => by
  obtain ⟨X, hX⟩ : ∃ X, X = atomS (F + 1) n r := ⟨_, rfl⟩
  rw [← hX] at hne ⊢
  have hk := kindT v l r e b d n [exO] hr hl
  by_cases k1 : hdK r = 1
  ·obtain ⟨t, u, rfl⟩ : ∃ t u, r = t :: u := by
    cases r with
    | nil => cases k1
    | cons t u => exact ⟨t, u, rfl⟩
   have k1 : t.kind = 1 := k1
   have hX : X = if t.kind = 1 then .ok (.mk 6 0 t.text [] []) u else _ := hX
   rw [if_pos k1] at hX
   have hT := PE.ok (takeT v l (t :: u) e b d n 1 [exO] hr hl (by decide)) (if_pos k1)
   refine pa [.k (.int .i64 (hdK (t :: u) : Nat)), .b true, .f (tokA t) (fun σ => psB v l u e b d n :: σ.tail)] rfl ?_ ?_
   ·(repeat' with_reducible apply AllP_cons) <;> first | exact aC | skip
   refine S_wkB 1 (exC (.mk 6 0 t.text [] [])) rfl (.cons .refl (.cons .refl (.cons .refl (.cons .nils (.cons .nils .nil))))) ⟨_, _, .inl rfl⟩ ?_
   refine S_ret ⟨_, _, rfl, ⟨rfl, trivial⟩, ?_⟩
   exact PE.fin hX (exA_free (.mk 6 0 t.text [] []))
  have e1 : (((hdK r : Nat) : Int) == 1) = false := beq_false_of_ne (by omega)
  by_cases k2 : hdK r = 2
  ·obtain ⟨t, u, rfl⟩ : ∃ t u, r = t :: u := by
    cases r with
    | nil => cases k2
    | cons t u => exact ⟨t, u, rfl⟩
   have k2 : t.kind = 2 := k2
   have hX : X = if t.kind = 1 then _ else if t.kind = 2 then .ok (.mk 4 t.num [] [] []) u else _ := hX
   rw [if_neg (show ¬ t.kind = 1 from k1), if_pos k2] at hX
   have hT := PE.ok (takeT v l (t :: u) e b d n 2 [exO] hr hl (by decide)) (if_pos k2)
   have e2 : (((hdK (t :: u) : Nat) : Int) == 2) = true := by rw [show hdK (t :: u) = t.kind from rfl, k2]; rfl
   refine pa [.k (.int .i64 (hdK (t :: u) : Nat)), .b false, .b true, .f (tokA t) (fun σ => psB v l u e b d n :: σ.tail)] rfl ?_ ?_
   ·(repeat' with_reducible apply AllP_cons) <;> first | exact aC | skip
   refine S_wkB 1 (exC (.mk 4 t.num [] [] [])) rfl (.cons .refl (.cons .refl (.cons .refl (.cons .nils (.cons .nils .nil))))) ⟨_, _, .inl rfl⟩ ?_
   refine S_ret ⟨_, _, rfl, ⟨rfl, trivial⟩, ?_⟩
   exact PE.fin hX (exA_free (.mk 4 t.num [] [] []))
  have e2 : (((hdK r : Nat) : Int) == 2) = false := beq_false_of_ne (by omega)
  by_cases k3 : hdK r = 3
  ·obtain ⟨t, u, rfl⟩ : ∃ t u, r = t :: u := by
    cases r with
    | nil => cases k3
    | cons t u => exact ⟨t, u, rfl⟩
   have k3 : t.kind = 3 := k3
   have hX : X = if t.kind = 1 then _ else if t.kind = 2 then _ else if t.kind = 3 then .ok (.mk 5 0 t.text [] []) u else _ := hX
   rw [if_neg (show ¬ t.kind = 1 from k1), if_neg (show ¬ t.kind = 2 from k2), if_pos k3] at hX
   have hT := PE.ok (takeT v l (t :: u) e b d n 3 [exO] hr hl (by decide)) (if_pos k3)
   have e3 : (((hdK (t :: u) : Nat) : Int) == 3) = true := by rw [show hdK (t :: u) = t.kind from rfl, k3]; rfl
   refine pa [.k (.int .i64 (hdK (t :: u) : Nat)), .b false, .b false, .b true, .f (tokA t) (fun σ => psB v l u e b d n :: σ.tail)] rfl ?_ ?_
   ·(repeat' with_reducible apply AllP_cons) <;> first | exact aC | skip
   refine S_wkB 1 (exC (.mk 5 0 t.text [] [])) rfl (.cons .refl (.cons .refl (.cons .refl (.cons .nils (.cons .nils .nil))))) ⟨_, _, .inl rfl⟩ ?_
   refine S_ret ⟨_, _, rfl, ⟨rfl, trivial⟩, ?_⟩
   exact PE.fin hX (exA_free (.mk 5 0 t.text [] []))
  have e3 : (((hdK r : Nat) : Int) == 3) = false := beq_false_of_ne (by omega)
  have hX : X = if isS wNone r then .ok (.mk 1 0 [] [] []) r.tail
   else if isS wTrue r then .ok (.mk 2 0 [] [] []) r.tail
   else if isS wFalse r then .ok (.mk 3 0 [] [] []) r.tail
   else if isS [40] r then (exprS F n r.tail).bind fun x r => (mustS [41] r).bind fun _ r => .ok x r
   else if isS [91] r then listS F n r.tail
   else if isS [123] r then dictS F n [] r.tail
   else .bad 1 r := by
   cases r with
   | nil => exact hX
   | cons t u =>
    rw [atomS] at hX
    rw [if_neg (show ¬ t.kind = 1 from k1), if_neg (show ¬ t.kind = 2 from k2), if_neg (show ¬ t.kind = 3 from k3)] at hX
    exact hX
  refine pa [.k (.int .i64 (hdK r : Nat)), .b false, .b false, .b false] rfl ?_ ?_
  ·(repeat' with_reducible apply AllP_cons) <;> first | exact aC | skip
  refine S_while (α := Nat) (fun i => [(0, .ptr 0 v 0), (2, .ptr 1 0 0), (27, .sl true true 1 (texts words3)), (28, .int .i64 3), (29, .int .i64 (i : Nat))]) (fun _ => [psB v l r e b d n, exO])
   (fun i => i ≤ 3 ∧ ∀ s ∈ words3.take i, isS s r = false) (fun i => 3 - i) 0 ⟨Nat.zero_le _, by simp⟩ (.cons rfl (.cons rfl (.cons rfl (.cons rfl (.cons rfl (.nil _)))))) rfl ?_
  rintro i ⟨hi, hN⟩
  have hi : i ≤ 3 := hi
  have hsl : words3.length = 3 := rfl
  by_cases hlt : i < 3
  ·have hel : (texts words3)[((i : Nat) : Int).toNat]? = some (.str (words3[i]'hlt)) := texts_get (l := words3) hlt
   by_cases c2 : isS (words3[i]'hlt) r = true
   ·have hX : X = .ok (.mk (i + 1) 0 [] [] []) r.tail := by
     match i, hlt, c2, hN with
     | 0, _, c2, _ => rw [hX, if_pos (show isS wNone r = true from c2)]
     | 1, _, c2, hN => rw [hX, if_neg (by rw [hN wNone (by decide)]; decide), if_pos (show isS wTrue r = true from c2)]
     | 2, _, c2, hN => rw [hX, if_neg (by rw [hN wNone (by decide)]; decide), if_neg (by rw [hN wTrue (by decide)]; decide), if_pos (show isS wFalse r = true from c2)]
    have hm2 := may_yes v l r e b d n (words3[i]'hlt) [exO] hr hl c2
    have hw : IntKind.i64.wrap (1 + (i : Nat)) = ((i + 1 : Nat) : Int) := by rw [IntWalk.i64_in _ ⟨by omega, by omega⟩]; omega
    refine pa [.b true, .v (.str (words3[i]'hlt)), .f (.bool true) (fun σ => psB v l r.tail e b d n :: σ.tail), .b true] rfl ?_ ?_
    ·(repeat' with_reducible apply AllP_cons) <;> first | exact aC | skip
    refine S_wkB 1 [.int .i64 (IntKind.i64.wrap (1 + (i : Nat))), .int .i64 0, .str [], .sl true false 5 [], .sl true false 1 []] rfl (.cons .refl (.cons .refl (.cons .refl (.cons .nils (.cons .nils .nil))))) ⟨_, _, .inl rfl⟩ ?_
    rw [hw]
    refine S_ret ⟨_, _, rfl, ⟨rfl, trivial⟩, ?_⟩
    exact PE.fin hX (exA_free (.mk (i + 1) 0 [] [] []))
   ·have hm2 := may_no v l r e b d n (words3[i]'hlt) [exO] hr hl c2
    refine pa [.b true, .v (.str (words3[i]'hlt)), .k (.bool false), .b false] rfl ?_ ?_
    ·(repeat' with_reducible apply AllP_cons) <;> first | exact aC | skip
    refine S_round (i + 1) (by show 3 - (i + 1) < 3 - i; omega) ⟨hlt, fun s hs => ?_⟩ (.cons rfl (.cons rfl (.cons rfl (.cons rfl (.cons (ai64 rfl (by omega)) (.nil _)))))) rfl
    rw [List.take_succ_eq_append_getElem (show i < words3.length from hlt)] at hs
    rcases List.mem_append.1 hs with hs | hs
    ·exact hN s hs
    ·rw [List.mem_singleton] at hs; rw [hs]; exact (Bool.not_eq_true _).mp c2
  obtain rfl : i = 3 := by omega
  rw [if_neg (by rw [hN wNone (by decide)]; decide), if_neg (by rw [hN wTrue (by decide)]; decide), if_neg (by rw [hN wFalse (by decide)]; decide)] at hX
  have hr2 := isS_suf hr
  by_cases c4 : isS [40] r = true
  ·rw [if_pos c4] at hX
   have hm4 := may_yes v l r e b d n [40] [exO] hr hl c4
   cases hx : exprS F n r.tail with
   | out => rw [hx] at hX; exact absurd hX hne
   | bad j u =>
    have hS := (he F (Nat.le_refl _)).tail v l e b d n r.tail [exO] hr2 hl hn (by rw [hx]; nofun)
    rw [hx] at hX
    refine pa [.b false, .f (.bool true) (fun σ => psB v l r.tail e b d n :: σ.tail), .b true] rfl ?_ ?_
    ·(repeat' with_reducible apply AllP_cons) <;> first | exact aC | skip
    exact S_callE rfl rfl rfl hS hx hX
   | ok z u =>
    have hS := PE.ok ((he F (Nat.le_refl _)).tail v l e b d n r.tail [exO] hr2 hl hn (by rw [hx]; nofun)) hx
    rw [hx] at hX
    have hX : X = (mustS [41] u).bind fun _ r => .ok z r := hX
    have hu := ((allS F).expr _ _ _ _ hx).trans hr2
    obtain ⟨zk, zn, zt, zs, zm⟩ := z
    have hM := mustT v l u e b d n [41] [exO, exB (.mk zk zn zt zs zm)] hu hl
    refine pa [.b false, .f (.bool true) (fun σ => psB v l r.tail e b d n :: σ.tail), .b true, .f (exA (.mk zk zn zt zs zm)) (fun σ => psB v l u e b d n :: σ.tail)] rfl ?_ ?_
    ·(repeat' with_reducible apply AllP_cons) <;> first | exact aC | skip
    cases hz : mustS [41] u with
    | out => rw [hz] at hX; exact absurd hX hne
    | bad j w =>
     rw [hz] at hX
     exact S_callE rfl rfl rfl hM hz hX
    | ok _ w =>
     have hM := PE.ok hM hz
     rw [hz] at hX
     refine pa [.f (.tup []) (fun σ => psB v l w e b d n :: σ.tail)] rfl ?_ ?_
     ·(repeat' with_reducible apply AllP_cons) <;> first | exact aC | skip
     refine S_ret ⟨_, _, rfl, ⟨rfl, trivial⟩, ?_⟩
     exact PE.fin hX (exA_free _)
  rw [if_neg c4] at hX
  have hm4 := may_no v l r e b d n [40] [exO] hr hl c4
  by_cases c5 : isS [91] r = true
  ·rw [if_pos c5] at hX
   have hm5 := may_yes v l r e b d n [91] [exO] hr hl c5
   have hS := hli.tail v l e b d n r.tail [exO] hr2 hl hn (by rw [← hX]; exact hne)
   rw [← hX] at hS
   cases hx : X with
   | out => exact absurd hx hne
   | bad j u =>
    refine pa [.b false, .k (.bool false), .b false, .f (.bool true) (fun σ => psB v l r.tail e b d n :: σ.tail), .b true] rfl ?_ ?_
    ·(repeat' with_reducible apply AllP_cons) <;> first | exact aC | skip
    exact S_callE rfl rfl rfl hS hx rfl
   | ok z u =>
    have hS := PE.ok hS hx
    obtain ⟨zk, zn, zt, zs, zm⟩ := z
    refine pa [.b false, .k (.bool false), .b false, .f (.bool true) (fun σ => psB v l r.tail e b d n :: σ.tail), .b true, .f (exA (.mk zk zn zt zs zm)) (fun σ => psB v l u e b d n :: σ.tail)] rfl ?_ ?_
    ·(repeat' with_reducible apply AllP_cons) <;> first | exact aC | skip
    refine S_ret ⟨_, _, rfl, ⟨rfl, trivial⟩, ?_⟩
    exact PE.fin rfl (exA_free _)
  rw [if_neg c5] at hX
  have hm5 := may_no v l r e b d n [91] [exO] hr hl c5
  by_cases c6 : isS [123] r = true
  ·rw [if_pos c6] at hX
   have hm6 := may_yes v l r e b d n [123] [exO] hr hl c6
   refine pa [.b false, .k (.bool false), .b false, .k (.bool false), .b false, .f (.bool true) (fun σ => psB v l r.tail e b d n :: σ.tail), .b true] rfl ?_ ?_
   ·(repeat' with_reducible apply AllP_cons) <;> first | exact aC | skip
   refine S_ghost (id := 2) (j := 3) 5 ⟨false, none⟩ rfl rfl rfl (Nat.ne_of_lt (lble rfl)) ⟨_, _, .inl rfl⟩ ?_
   refine S_while (α := DictSt) (fun q => [(0, .ptr 0 v 0), (2, .ptr 1 0 0), (6, .ptr 2 0 0)]) (fun q => [psB v l q.r e b d n, exO, dictB q.w q.ks, kidB q.w q.ks])
    (fun q => q.F ≤ F ∧ q.r <:+ l ∧ dictS q.F n q.ks q.r = X ∧ q.ks.length + 2 * q.F ≤ 2 * F) (fun q => q.F) ⟨F, [], r.tail, 0⟩ ⟨Nat.le_refl _, hr2, hX.symm, by show 0 + 2 * F ≤ 2 * F; omega⟩ (.cons rfl (.cons rfl (.cons rfl (.nil _)))) rfl ?_
   rintro ⟨F1, ks, r1, w⟩ ⟨hF1, hr1, hq, hks⟩
   have hF1 : F1 ≤ F := hF1
   have hr1 : r1 <:+ l := hr1
   have hq : dictS F1 n ks r1 = X := hq
   have hks : ks.length + 2 * F1 ≤ 2 * F := hks
   clear hX hm6 hm5 hm4 hN hk
   show S cx _ B _ _ [(0, .ptr 0 v 0), (2, .ptr 1 0 0), (6, .ptr 2 0 0)] [psB v l r1 e b d n, exO, dictB w ks, kidB w ks]
   cases F1 with
   | zero => exact absurd hq.symm hne
   | succ F1 =>
    rw [dictS] at hq
    by_cases c7 : isS [125] r1 = true
    ·rw [if_pos c7] at hq
     have hm7 := may_yes v l r1 e b d n [125] [exO, dictB w ks, kidB w ks] hr1 hl c7
     refine pa [.f (.bool true) (fun σ => psB v l r1.tail e b d n :: σ.tail), .b false] rfl ?_ ?_
     ·(repeat' with_reducible apply AllP_cons) <;> first | exact aC | skip
     refine S_ret ⟨_, _, rfl, ⟨rfl, trivial⟩, ?_⟩
     exact PE.finZ hq.symm (exFz (kidFz (by decide) rfl) .nils)
    ·rw [if_neg c7] at hq
     have hm7 := may_no v l r1 e b d n [125] [exO, dictB w ks, kidB w ks] hr1 hl c7
     cases hmm : (if ks.length > 0 then mustS [44] r1 else (.ok () r1 : Pr Unit)) with
     | out => rw [hmm] at hq; exact absurd hq.symm hne
     | bad j u =>
      rw [hmm] at hq
      have hk0 : ks.length > 0 := by
       by_cases h : ks.length > 0
       ·exact h
       ·rw [if_neg h] at hmm; cases hmm
      rw [if_pos hk0] at hmm
      refine pa [.k (.bool false), .b true, .b true] rfl ?_ ?_
      ·(repeat' with_reducible apply AllP_cons) <;> first | exact aC | skip
      exact S_callE rfl rfl rfl (mustT v l r1 e b d n [44] _ hr1 hl) hmm hq.symm
     | ok _ r3 =>
      rw [hmm] at hq
      have hq : (exprS F1 n r3).bind (fun y r => (mustS [58] r).bind fun _ r => (exprS F1 n r).bind fun z r => dictS F1 n (ks ++ [y] ++ [z]) r) = X := hq
      have hr3 : r3 <:+ l := by
       by_cases h : ks.length > 0
       ·rw [if_pos h] at hmm; exact (mustS_s _ _ _ _ hmm).trans hr1
       ·rw [if_neg h] at hmm; cases hmm; exact hr1
      refine' S_share [(0, .ptr 0 v 0), (2, .ptr 1 0 0), (6, .ptr 2 0 0)] [psB v l r3 e b d n, exO, dictB w ks, kidB w ks] (fun cont => ?main) ?rest
      case main =>
       by_cases h : ks.length > 0
       ·rw [if_pos h] at hmm
        have hM := PE.ok (mustT v l r1 e b d n [44] [exO, dictB w ks, kidB w ks] hr1 hl) hmm
        refine pa [.k (.bool false), .b true, .b true, .f (.tup []) (fun σ => psB v l r3 e b d n :: σ.tail)] rfl ?_ ?_
        ·(repeat' with_reducible apply AllP_cons) <;> first | exact aC | skip
        exact cont _ (.cons rfl (.cons rfl (.cons rfl (.nil _))))
       ·rw [if_neg h] at hmm
        cases hmm
        refine pa [.k (.bool false), .b true, .b false] rfl ?_ ?_
        ·(repeat' with_reducible apply AllP_cons) <;> first | exact aC | skip
        exact cont _ (.cons rfl (.cons rfl (.cons rfl (.nil _))))
      case rest =>
       have hbx : 0 + ks.length * 5 = (exF ks).length := by rw [exF_len]; omega
       cases hy : exprS F1 n r3 with
       | out => rw [hy] at hq; exact absurd hq.symm hne
       | bad j u =>
        have hS := (he F1 (by omega)).tail v l e b d n r3 [exO, dictB w ks, kidB w ks] hr3 hl hn (by rw [hy]; nofun)
        rw [hy] at hq
        refine S_drawE 3 [] [] rfl rfl rfl rfl rfl rfl ?_ hS hy hq.symm
        (repeat' with_reducible apply AllP_cons) <;> first | exact aC | skip
       | ok y r4 =>
        have hS := PE.ok ((he F1 (by omega)).tail v l e b d n r3 [exO, dictB w ks, kidB w ks] hr3 hl hn (by rw [hy]; nofun)) hy
        rw [hy] at hq
        have hq : (mustS [58] r4).bind (fun _ r => (exprS F1 n r).bind fun z r => dictS F1 n (ks ++ [y] ++ [z]) r) = X := hq
        have hr4 := ((allS F1).expr _ _ _ _ hy).trans hr3
        obtain ⟨yk, yn, yt, ys, ym⟩ := y
        refine pa [.d 3 5 [] (fun σ => psB v l r4 e b d n :: σ.tail) [exA (.mk yk yn yt ys ym)]] rfl ?_ ?_
        ·(repeat' with_reducible apply AllP_cons) <;> first | exact aC | skip
         ·exact ⟨_, hS, rfl⟩
         ·show (ks.length + 1) * 80 ≤ 140737488355328
          omega
        refine S_heap [psB v l r4 e b d n, exO, dictB (w + 1) (ks ++ [.mk yk yn yt ys ym]), kidB (w + 1) (ks ++ [.mk yk yn yt ys ym])] ?_ ?_
        ·unfold dictB kidB
         rw [exF_snoc, List.length_append]; rfl
        cases hz : mustS [58] r4 with
        | out => rw [hz] at hq; exact absurd hq.symm hne
        | bad j u =>
         rw [hz] at hq
         exact S_callE rfl rfl rfl (mustT v l r4 e b d n [58] _ hr4 hl) hz hq.symm
        | ok _ r5 =>
         have hM2 := PE.ok (mustT v l r4 e b d n [58] [exO, dictB (w + 1) (ks ++ [.mk yk yn yt ys ym]), kidB (w + 1) (ks ++ [.mk yk yn yt ys ym])] hr4 hl) hz
         rw [hz] at hq
         have hq : (exprS F1 n r5).bind (fun z r => dictS F1 n (ks ++ [.mk yk yn yt ys ym] ++ [z]) r) = X := hq
         have hr5 := (mustS_s _ _ _ _ hz).trans hr4
         have hln : (ks ++ [Ex.mk yk yn yt ys ym]).length = ks.length + 1 := by simp
         refine pa [.f (.tup []) (fun σ => psB v l r5 e b d n :: σ.tail)] rfl ?_ ?_
         ·(repeat' with_reducible apply AllP_cons) <;> first | exact aC | skip
         generalize ks ++ [Ex.mk yk yn yt ys ym] = ks2 at hq hln ⊢
         have hbx2 : 0 + ks2.length * 5 = (exF ks2).length := by rw [exF_len]; omega
         cases hy2 : exprS F1 n r5 with
         | out => rw [hy2] at hq; exact absurd hq.symm hne
         | bad j u =>
          have hS2 := (he F1 (by omega)).tail v l e b d n r5 [exO, dictB (w + 1) ks2, kidB (w + 1) ks2] hr5 hl hn (by rw [hy2]; nofun)
          rw [hy2] at hq
          refine S_drawE 3 [] [] rfl rfl rfl rfl rfl rfl ?_ hS2 hy2 hq.symm
          (repeat' with_reducible apply AllP_cons) <;> first | exact aC | skip
         | ok z r6 =>
          have hS2 := PE.ok ((he F1 (by omega)).tail v l e b d n r5 [exO, dictB (w + 1) ks2, kidB (w + 1) ks2] hr5 hl hn (by rw [hy2]; nofun)) hy2
          rw [hy2] at hq
          have hq : dictS F1 n (ks2 ++ [z]) r6 = X := hq
          have hr6 := ((allS F1).expr _ _ _ _ hy2).trans hr5
          obtain ⟨zk, zn, zt, zs, zm⟩ := z
          refine pa [.d 3 5 [] (fun σ => psB v l r6 e b d n :: σ.tail) [exA (.mk zk zn zt zs zm)]] rfl ?_ ?_
          ·(repeat' with_reducible apply AllP_cons) <;> first | exact aC | skip
           ·exact ⟨_, hS2, rfl⟩
           ·show (ks2.length + 1) * 80 ≤ 140737488355328
            omega
          refine S_round ⟨F1, ks2 ++ [.mk zk zn zt zs zm], r6, w + 1 + 1⟩ (Nat.lt_succ_self _) ⟨by show F1 ≤ F; omega, hr6, hq, by show (ks2 ++ [_]).length + 2 * F1 ≤ 2 * F; rw [List.length_append, List.length_singleton]; omega⟩ (.cons rfl (.cons rfl (.cons rfl (.nil _)))) ?_
          show _ = [psB v l r6 e b d n, exO, dictB (w + 1 + 1) (ks2 ++ [.mk zk zn zt zs zm]), kidB (w + 1 + 1) (ks2 ++ [.mk zk zn zt zs zm])]
          unfold dictB kidB
          rw [exF_snoc, List.length_append]; rfl
  ·rw [if_neg c6] at hX
   have hm6 := may_no v l r e b d n [123] [exO] hr hl c6
   refine pa [.b false, .k (.bool false), .b false, .k (.bool false), .b false, .k (.bool false), .b false] rfl ?_ ?_
   ·(repeat' with_reducible apply AllP_cons) <;> first | exact aC | skip
   exact S_callE rfl rfl rfl (failT uA v l r e b d n 1 _ hr hl) rfl hX
end Go.Proofs.YtonjhfeabphaaaaGreatDoor
end
