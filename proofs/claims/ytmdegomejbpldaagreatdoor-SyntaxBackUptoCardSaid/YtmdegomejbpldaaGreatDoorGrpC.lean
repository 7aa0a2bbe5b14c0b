/-
  Texts of our own, in one file.
-/
import Derived.Test.YtmdegomejbpldaaGreatDoorGrpB
import Derived.Lib.Bytealg
import Derived.Scope
import Derived.Lib.IndexEntry
section
set_option linter.unusedVariables false
set_option linter.unusedSimpArgs false
set_option maxRecDepth 20000
namespace Go.Proofs.YtmdegomejbpldaaGreatDoor
open Go Go.Ab
def Sx {α : Type} (r : List Tok) (x : Pr α) : Prop := ∀ y u, x = .ok y u → u <:+ r
theorem Sx.out {α : Type} {r : List Tok} : Sx r (.out : Pr α) := nofun
theorem Sx.bad {α : Type} {e : Nat} {r u : List Tok} : Sx r (.bad e u : Pr α) := nofun
theorem Sx.ok {α : Type} {r u : List Tok} {x : α} (h : u <:+ r) : Sx r (.ok x u) := by intro _ _ h'; cases h'; exact h
theorem Sx.bind {α β : Type} {r u : List Tok} {x : Pr α} {f : α → List Tok → Pr β} (h : Sx u x) (hu : u <:+ r) (hf : ∀ y r', Sx r' (f y r')) : Sx r (x.bind f) := by
  cases x with
  | out => exact .out
  | bad e v => exact .bad
  | ok y v => exact fun z w hz => (hf y v z w hz).trans ((h y v rfl).trans hu)
theorem Sx.ite {α : Type} {r : List Tok} {x y : Pr α} {c : Prop} [Decidable c] (h : Sx r x) (h' : Sx r y) : Sx r (if c then x else y) := by
  split
  · exact h
  · exact h'
theorem Sx.mono {α : Type} {r u : List Tok} {x : Pr α} (h : Sx u x) (hu : u <:+ r) : Sx r x := fun y v e => (h y v e).trans hu
theorem suf_tl (r : List Tok) : r.tail <:+ r := List.tail_suffix r
theorem suf_tl2 (r : List Tok) : r.tail.tail <:+ r := (List.tail_suffix _).trans (List.tail_suffix r)
theorem mustS_s (s : List UInt8) (r : List Tok) : Sx r (mustS s r) := .ite (.ok (suf_tl r)) .bad
theorem takeS_s (k : Nat) (r : List Tok) : Sx r (takeS k r) := by
  unfold takeS
  split
  · exact .bad
  · exact .ite (.ok (List.suffix_cons _ _)) .bad
structure AllS (F : Nat) : Prop where
  expr : ∀ n r, Sx r (exprS F n r)
  lev : ∀ k n r, Sx r (levS F k n r)
  loop : ∀ k n x r, Sx r (loopS F k n x r)
  post : ∀ n x r, Sx r (postS F n x r)
  call : ∀ n ks ns r, Sx r (callS F n ks ns r)
  atom : ∀ n r, Sx r (atomS F n r)
  list : ∀ n r, Sx r (listS F n r)
  item : ∀ n ks r, Sx r (itemS F n ks r)
  dict : ∀ n ks r, Sx r (dictS F n ks r)
theorem allS (F : Nat) : AllS F := by
  induction F with
  | zero => exact ⟨fun _ _ => .out, fun _ _ _ => .out, fun _ _ _ _ => .out, fun _ _ _ => .out, fun _ _ _ _ => .out, fun _ _ => .out, fun _ _ => .out, fun _ _ _ => .out, fun _ _ _ => .out⟩
  | succ F ih =>
    have bin : ∀ {k n : Nat} {r : List Tok}, Sx r ((levS F (k + 1) n r).bind fun x r => loopS F k n x r) := fun {k n r} => (ih.lev (k + 1) n r).bind (List.suffix_refl _) fun y u => ih.loop k n y u
    refine ⟨?_, ?_, ?_, ?_, ?_, ?_, ?_, ?_, ?_⟩
    · intro n r
      rw [exprS]
      exact .ite .bad (ih.lev 0 _ r)
    · intro k n r
      unfold levS
      split
      · exact .ite (.ite .bad ((ih.lev 2 _ r.tail).bind (suf_tl r) fun y u => .ok (List.suffix_refl _)))
          ((ih.lev 3 n r).bind (List.suffix_refl _) fun y u => .ite ((ih.lev 3 n u.tail).bind (suf_tl u) fun z v => .ok (List.suffix_refl _)) (.ok (List.suffix_refl _)))
      · exact .ite (.ite .bad ((ih.lev 5 _ r.tail).bind (suf_tl r) fun y u => .ok (List.suffix_refl _)))
          ((ih.atom n r).bind (List.suffix_refl _) fun y u => ih.post n y u)
      · exact bin
    · intro k n x r
      rw [loopS]
      exact .ite ((ih.lev (k + 1) n r.tail).bind (suf_tl r) fun y u => ih.loop k n _ u) (.ok (List.suffix_refl _))
    · intro n x r
      rw [postS]
      exact .ite ((ih.call n _ _ r.tail).bind (suf_tl r) fun y u => ih.post n _ u)
        (.ite ((ih.expr n r.tail).bind (suf_tl r) fun y u => (mustS_s _ u).bind (List.suffix_refl _) fun _ v => ih.post n _ v) (.ok (List.suffix_refl _)))
    · intro n ks ns r
      rw [callS]
      have hm : Sx r (if ks.length > 1 then mustS [44] r else .ok () r) := .ite (mustS_s _ r) (.ok (List.suffix_refl _))
      exact .ite (.ok (suf_tl r)) (hm.bind (List.suffix_refl _) fun _ u => .ite (.ite .bad ((ih.expr n u.tail.tail).bind (suf_tl2 u) fun y v => ih.call n _ _ v)) (.ite .bad ((ih.expr n u).bind (List.suffix_refl _) fun y v => ih.call n _ _ v)))
    · intro n r
      cases r with
      | nil => exact .bad
      | cons t u =>
        have hu : u <:+ t :: u := List.suffix_cons t u
        exact .ite (.ok hu) (.ite (.ok hu) (.ite (.ok hu) (.ite (.ok hu) (.ite (.ok hu) (.ite (.ok hu) (.ite ((ih.expr n u).bind hu fun y v => (mustS_s _ v).bind (List.suffix_refl _) fun _ w => .ok (List.suffix_refl _))
          (.ite ((ih.list n u).mono hu) (.ite ((ih.dict n _ u).mono hu) .bad))))))))
    · intro n r
      rw [listS]
      exact .ite (.ok (suf_tl r)) ((ih.expr n r).bind (List.suffix_refl _) fun y u => .ite ((takeS_s _ _).bind (suf_tl u) fun t v => (mustS_s _ v).bind (List.suffix_refl _) fun _ w => (ih.expr n w).bind (List.suffix_refl _) fun z x =>
        .ite ((ih.expr n x.tail).bind (suf_tl x) fun q p => (mustS_s _ p).bind (List.suffix_refl _) fun _ o => .ok (List.suffix_refl _)) ((mustS_s _ x).bind (List.suffix_refl _) fun _ o => .ok (List.suffix_refl _))) (ih.item n _ u))
    · intro n ks r
      rw [itemS]
      exact .ite (.ok (suf_tl r)) ((mustS_s _ r).bind (List.suffix_refl _) fun _ u => (ih.expr n u).bind (List.suffix_refl _) fun y v => ih.item n _ v)
    · intro n ks r
      rw [dictS]
      have hm : Sx r (if ks.length > 0 then mustS [44] r else .ok () r) := .ite (mustS_s _ r) (.ok (List.suffix_refl _))
      exact .ite (.ok (suf_tl r)) (hm.bind (List.suffix_refl _) fun _ u => (ih.expr n u).bind (List.suffix_refl _) fun y v => (mustS_s _ v).bind (List.suffix_refl _) fun _ w => (ih.expr n w).bind (List.suffix_refl _) fun z x => ih.dict n _ x)
theorem paramS_s (F : Nat) : ∀ ns r, Sx r (paramS F ns r) := by
  induction F with
  | zero => intro _ _; exact .out
  | succ F ih =>
    intro ns r
    rw [paramS]
    exact .ite .bad ((takeS_s 1 r).bind (List.suffix_refl _) fun t u => .ite ((ih _ u.tail).mono (suf_tl u)) (.ok (List.suffix_refl _)))
theorem namesS_s (F : Nat) : ∀ ns r, Sx r (namesS F ns r) := by
  induction F with
  | zero => intro _ _; exact .out
  | succ F ih =>
    intro ns r
    rw [namesS]
    exact .ite .bad ((takeS_s 3 r).bind (List.suffix_refl _) fun t u => .ite ((ih _ u.tail).mono (suf_tl u)) (.ok (List.suffix_refl _)))
theorem loadS_s (F b : Nat) (r : List Tok) : Sx r (loadS F b r) := by
  unfold loadS
  exact .ite .bad ((mustS_s _ _).bind (suf_tl r) fun _ u => (takeS_s _ _).bind (List.suffix_refl _) fun t v => (mustS_s _ _).bind (List.suffix_refl _) fun _ w => (namesS_s F _ w).bind (List.suffix_refl _) fun ns x => (mustS_s _ _).bind (List.suffix_refl _) fun _ y => .ok (List.suffix_refl _))
theorem smallS_s (F b d : Nat) (r : List Tok) : Sx r (smallS F b d r) := by
  unfold smallS
  exact .ite (.ok (suf_tl r)) (.ite (.ite .bad (.ite (((allS F).expr 0 r.tail).bind (suf_tl r) fun x u => .ok (List.suffix_refl _)) (.ok (suf_tl r)))) (.ite (loadS_s F b r) (.ite (((allS F).expr 0 _).bind (suf_tl2 r) fun x u => .ok (List.suffix_refl _)) (((allS F).expr 0 r).bind (List.suffix_refl _) fun x u => .ok (List.suffix_refl _)))))
structure AllW (F : Nat) : Prop where
  stmts : ∀ top b d l r, Sx r (stmtsS F top b d l r)
  block : ∀ b d r, Sx r (blockS F b d r)
  stmt : ∀ b d r, Sx r (stmtS F b d r)
theorem allW (F : Nat) : AllW F := by
  induction F with
  | zero => exact ⟨fun _ _ _ _ _ => .out, fun _ _ _ => .out, fun _ _ _ => .out⟩
  | succ F ih =>
    refine ⟨?_, ?_, ?_⟩
    · intro top b d l r
      rw [stmtsS]
      exact .ite (.ok (List.suffix_refl _)) ((ih.stmt b d r).bind (List.suffix_refl _) fun s u => ih.stmts top b d _ u)
    · intro b d r
      rw [blockS]
      exact (mustS_s _ _).bind (List.suffix_refl _) fun _ u => (takeS_s _ _).bind (List.suffix_refl _) fun _ v => (takeS_s _ _).bind (List.suffix_refl _) fun _ w => (ih.stmts false _ _ _ w).bind (List.suffix_refl _) fun l x => (takeS_s _ _).bind (List.suffix_refl _) fun _ y => .ok (List.suffix_refl _)
    · intro b d r
      rw [stmtS]
      refine .ite (.ite .bad ((takeS_s _ _).bind (suf_tl r) fun t u => (mustS_s _ _).bind (List.suffix_refl _) fun _ v => ?_)) (.ite ?_ (.ite ?_ ?_))
      · have hm : Sx v (if hdK v = 1 then paramS F [] v else .ok [] v) := .ite (paramS_s F _ v) (.ok (List.suffix_refl _))
        exact hm.bind (List.suffix_refl _) fun ns w => (mustS_s _ _).bind (List.suffix_refl _) fun _ x => (ih.block _ _ x).bind (List.suffix_refl _) fun l y => .ok (List.suffix_refl _)
      · exact ((allS F).expr 0 _).bind (suf_tl r) fun x u => (ih.block _ _ u).bind (List.suffix_refl _) fun l v => .ite ((ih.block _ _ v.tail).bind (suf_tl v) fun m w => .ok (List.suffix_refl _)) (.ok (List.suffix_refl _))
      · exact (takeS_s _ _).bind (suf_tl r) fun t u => (mustS_s _ _).bind (List.suffix_refl _) fun _ v => ((allS F).expr 0 v).bind (List.suffix_refl _) fun x w => (ih.block _ _ w).bind (List.suffix_refl _) fun l y => .ok (List.suffix_refl _)
      · exact (smallS_s F b d r).bind (List.suffix_refl _) fun s u => (takeS_s _ _).bind (List.suffix_refl _) fun _ v => .ok (List.suffix_refl _)
end Go.Proofs.YtmdegomejbpldaaGreatDoor
end
section
set_option linter.unusedVariables false
set_option linter.unusedSimpArgs false
set_option maxRecDepth 20000
namespace Go.Proofs.YtmdegomejbpldaaGreatDoor
open Go Go.Ab
def texts (l : List (List UInt8)) : List AV := l.map .str
theorem texts_any {st : Bool} (l : List (List UInt8)) : ∀ x ∈ texts l, Free st x := by
  intro x hx
  obtain ⟨y, _, rfl⟩ := List.mem_map.1 hx
  exact .str
theorem texts_len (l : List (List UInt8)) : (texts l).length = l.length := by simp [texts]
theorem texts_get {l : List (List UInt8)} {i : Nat} (h : i < l.length) : (texts l)[i]? = some (.str l[i]) := by simp [texts, h]
end Go.Proofs.YtmdegomejbpldaaGreatDoor
end
section
set_option linter.unusedVariables false
set_option linter.unusedSimpArgs false
set_option maxRecDepth 20000
namespace Go.Proofs.YtmdegomejbpldaaGreatDoor
open Go Go.Ab
theorem isDigit_ok (c : UInt8) : Calc cx 71 [.int .u8 (c.toNat : Nat)] (.bool (isDg c)) :=
  pure_intro (fun a w => Tryz.call71 a w) Tryz.func71 rfl Tryz.ntmps71 rfl .bool fun B => by
    refine ab 1000 rfl trivial ?_
    refine S_guard rfl rfl rfl rfl (fun h => ?_) (fun h => ?_)
    · have h : 48 ≤ c.toNat := by have : (48 : Int) ≤ (c.toNat : Int) := of_decide_eq_true h; omega
      refine ab 1000 rfl trivial ?_
      refine S_retc .bool rfl trivial ?_
      rw [isDg, decide_eq_true h, Bool.true_and]
      exact congrArg AV.bool (decide_eq_decide.2 (by omega))
    · have h : ¬ 48 ≤ c.toNat := by have : ¬ (48 : Int) ≤ (c.toNat : Int) := of_decide_eq_false h; omega
      refine ab 1000 rfl trivial ?_
      refine S_retc .bool rfl trivial ?_
      rw [isDg, decide_eq_false h, Bool.false_and]; rfl
theorem isLetter_ok (c : UInt8) : Calc cx 68 [.int .u8 (c.toNat : Nat)] (.bool (isLet c)) :=
  pure_intro (fun a w => Tryz.call68 a w) Tryz.func68 rfl Tryz.ntmps68 rfl .bool fun B => by
    obtain ⟨n, hn⟩ : ∃ n, n = c.toNat := ⟨_, rfl⟩
    have hr : isLet c = (decide (97 ≤ n ∧ n ≤ 122) || decide (65 ≤ n ∧ n ≤ 90) || decide (n = 95)) := by
      have h95 : (c == 95) = decide (n = 95) := by
        rw [Bool.eq_iff_iff, beq_iff_eq, decide_eq_true_iff, hn]
        exact ⟨fun h => by rw [h]; rfl, fun h => UInt8.toNat_inj.1 h⟩
      rw [isLet, h95, ← hn]; simp only [Bool.decide_and]
    rw [hr, ← hn]
    have dI : ∀ {p q : Prop} [Decidable p] [Decidable q], (p ↔ q) → AV.bool (decide p) = .bool (decide q) := fun h => congrArg AV.bool (decide_eq_decide.2 h)
    have dT : ∀ {p : Prop} [Decidable p], p → AV.bool true = .bool (decide p) := fun h => by rw [decide_eq_true h]
    have dF : ∀ {p : Prop} [Decidable p], ¬ p → AV.bool false = .bool (decide p) := fun h => by rw [decide_eq_false h]
    refine ab 1000 rfl trivial ?_
    refine S_split 3 (fun fr σ => Weak fr [(0, .int .u8 (n : Nat)), (8, .bool (decide (97 ≤ n ∧ n ≤ 122)))] ∧ σ = []) ?_ ?_
    · refine S_guard rfl rfl rfl rfl (fun h => ?_) (fun h => ?_)
      · have h : (97 : Int) ≤ (n : Int) := of_decide_eq_true h
        refine ab 1000 rfl trivial ?_
        exact S_inv ⟨(.cons rfl (.cons (dI (by omega)) (.nil _))), rfl⟩
      · have h : ¬ (97 : Int) ≤ (n : Int) := of_decide_eq_false h
        refine ab 1000 rfl trivial ?_
        exact S_inv ⟨(.cons rfl (.cons (dF (by omega)) (.nil _))), rfl⟩
    rintro fr σ ⟨hw, rfl⟩
    refine S_opsW hw ?_
    refine ab 1000 rfl trivial ?_
    refine S_split 7 (fun fr σ => Weak fr [(0, .int .u8 (n : Nat)), (16, .bool (decide ((97 ≤ n ∧ n ≤ 122) ∨ (65 ≤ n ∧ n ≤ 90))))] ∧ σ = []) ?_ ?_
    · refine S_guard rfl rfl rfl rfl (fun h => ?_) (fun h => ?_)
      · have h : 97 ≤ n ∧ n ≤ 122 := of_decide_eq_true h
        refine ab 1000 rfl trivial ?_
        exact S_inv ⟨(.cons rfl (.cons (dT (.inl h)) (.nil _))), rfl⟩
      · have h : ¬ (97 ≤ n ∧ n ≤ 122) := of_decide_eq_false h
        refine ab 1000 rfl trivial ?_
        refine S_guard rfl rfl rfl rfl (fun h2 => ?_) (fun h2 => ?_)
        · have h2 : (65 : Int) ≤ (n : Int) := of_decide_eq_true h2
          refine ab 1000 rfl trivial ?_
          exact S_inv ⟨(.cons rfl (.cons (dI (by omega)) (.nil _))), rfl⟩
        · have h2 : ¬ (65 : Int) ≤ (n : Int) := of_decide_eq_false h2
          refine ab 1000 rfl trivial ?_
          exact S_inv ⟨(.cons rfl (.cons (dF (by omega)) (.nil _))), rfl⟩
    rintro fr σ ⟨hw, rfl⟩
    refine S_opsW hw ?_
    refine ab 1000 rfl trivial ?_
    refine S_guard rfl rfl rfl rfl (fun h => ?_) (fun h => ?_)
    · have h : (97 ≤ n ∧ n ≤ 122) ∨ (65 ≤ n ∧ n ≤ 90) := of_decide_eq_true h
      refine ab 1000 rfl trivial ?_
      refine S_retc .bool rfl trivial ?_
      rw [← Bool.decide_or, decide_eq_true h]; rfl
    · have h : ¬ ((97 ≤ n ∧ n ≤ 122) ∨ (65 ≤ n ∧ n ≤ 90)) := of_decide_eq_false h
      refine ab 1000 rfl trivial ?_
      refine S_retc .bool rfl trivial ?_
      rw [← Bool.decide_or, decide_eq_false h, Bool.false_or]
      show AV.bool ((n : Int) == 95) = _
      congr 1
      rw [Bool.eq_iff_iff, beq_iff_eq, decide_eq_true_iff]; omega
end Go.Proofs.YtmdegomejbpldaaGreatDoor
end
section
set_option linter.unusedVariables false
set_option linter.unusedSimpArgs false
namespace Go.Ab
open Go
section
variable {cx : Cx} {n : Nat} {B : Bs} {k : List AI} {Q : Post} {fr : Fr} {σ : Heap}
def runV (cx : Cx) (K : List Nat) (n : Nat) (all : Array Oper) (ops : List Oper) (σ : Heap) (jv : Nat) : List Oper → Nat → Fr → List AV → Option (List Prop × List AV × Fr)
  | [], _, fr, rs => some ([], [], fr)
  | o :: r, i, fr, rs => match oneD cx K n all σ o (restr ops o fr) rs with
    | some (C, v, rs') => match Nat.beq i jv with
      | true => match rs' with
        | v' :: rs'' => match runV cx K n all ops σ jv r (i + 1) (setA o.dst v' fr) rs'' with
          | some (D, vs, fr') => some (C ++ ((v = v') :: D), v' :: vs, fr')
          | none => none
        | [] => none
      | false => forceV v fun v => match runV cx K n all ops σ jv r (i + 1) (setA o.dst v fr) rs' with
        | some (D, vs, fr') => some (C ++ D, v :: vs, fr')
        | none => none
    | none => none
theorem runV_spec {jv : Nat} {K : List Nat} {all : Array Oper} {ops : List Oper} : ∀ {l : List Oper} {i : Nat} {fr fr' : Fr} {rs vals : List AV} {C : List Prop}, runV cx K n all ops σ jv l i fr rs = some (C, vals, fr') → AllP C →
    vals.length = l.length ∧ fr' = ovl l vals fr ∧ ∀ (j : Nat) (o : Oper) (v : AV), l[j]? = some o → vals[j]? = some v → StepD cx n all σ K (restr ops o (ovl (l.take j) (vals.take j) fr)) o v
  | [], i, fr, fr', rs, vals, C, h, hC => by
    simp only [runV, Option.some.injEq, Prod.mk.injEq] at h
    obtain ⟨rfl, rfl, rfl⟩ := h
    exact ⟨rfl, rfl, fun j o v h => by simp at h⟩
  | o :: l, i, fr, fr', rs, vals, C, h, hC => by
    simp only [runV] at h
    split at h
    case h_2 => cases h
    rename_i C1 v rs' h1
    split at h
    · split at h
      case h_2 => cases h
      rename_i v' rs''
      split at h
      case h_2 => cases h
      rename_i D vs fr1 h2
      simp only [Option.some.injEq, Prod.mk.injEq] at h
      obtain ⟨rfl, rfl, rfl⟩ := h
      obtain ⟨hC1, hD1⟩ := AllP_append hC
      obtain ⟨hv, hD⟩ := hD1
      subst hv
      obtain ⟨k1, k2, k3⟩ := runV_spec h2 hD
      refine ⟨by simp [k1], by rw [k2]; rfl, fun j oj vj hj hvj => ?_⟩
      cases j with
      | zero =>
        simp only [List.getElem?_cons_zero, Option.some.injEq] at hj hvj
        subst hj; subst hvj
        exact oneD_spec h1 hC1
      | succ j =>
        simp only [List.getElem?_cons_succ] at hj hvj
        exact k3 j oj vj hj hvj
    · rw [forceV_eq] at h
      split at h
      case h_2 => cases h
      rename_i D vs fr1 h2
      simp only [Option.some.injEq, Prod.mk.injEq] at h
      obtain ⟨rfl, rfl, rfl⟩ := h
      obtain ⟨hC1, hD⟩ := AllP_append hC
      obtain ⟨k1, k2, k3⟩ := runV_spec h2 hD
      refine ⟨by simp [k1], by rw [k2]; rfl, fun j oj vj hj hvj => ?_⟩
      cases j with
      | zero =>
        simp only [List.getElem?_cons_zero, Option.some.injEq] at hj hvj
        subst hj; subst hvj
        exact oneD_spec h1 hC1
      | succ j =>
        simp only [List.getElem?_cons_succ] at hj hvj
        exact k3 j oj vj hj hvj
theorem S_drawV {id : Nat} (jv : Nat) {ops : Array Oper} {vals : List AV} {C : List Prop} {fr' : Fr} (m : Nat) (K : List Nat) (rs : List AV) (hP : cx.P.follows .mixedOrders = true) (hchk : drawOk ops.toList m = true) (hmN : Nat.ble m ops.size = true)
    (hrun : runV cx K n ops ops.toList σ jv (ops.toList.take m) 0 fr rs = some (C, vals, fr')) (hC : AllP C)
    (hk : S cx n B (.ops ops (ops.toList.drop m) [] :: k) Q fr' σ) : S cx n B (.code (.region id ops true) :: k) Q fr σ := by
  intro r a w hi hf hd hx
  obtain ⟨c1, c2, c3, c4, c5⟩ := drawOk_spec hchk
  obtain ⟨k1, k2, k3⟩ := runV_spec hrun hC
  have hmN' := Nat.le_of_ble_eq_true hmN
  have hlen : vals.length = m := by rw [k1]; simp; omega
  obtain ⟨hi1, hx1⟩ := hi.heap_eq (w' := { w with drawn := w.drawn + 1 }) rfl rfl rfl rfl
  have hf1 := hf.mono (hx1.grow hi)
  have nl : ∀ {j : Nat}, ¬ Listed (Array.replicate ops.size false) j := by
    intro j hj
    unfold Listed at hj
    rw [Array.getD_eq_getD_getElem?, Array.getElem?_replicate] at hj
    split at hj <;> simp at hj
  refine wp_region_any hP ?_
  refine wpAny_front (cx := cx) (n := n) (B := B) (fr := fr) (σ := σ) (m := m) (vals := vals) (K := K) hmN' hlen c1 c2 c3 c4 c5 (fun j o v hj ho hv => ?_) (fun r a w hi hf hd hx => ?_) ops.size _ r a _ (by simp) ?_ (fun j i hj => ?_) (fun j _ => ?_) ⟨hf1.size, fun j d v _ hj => ?_, fun t _ => hf1.get t, hf1.defs⟩ hi1 hd (hx.trans hx1)
  · have h := k3 j o v (by rw [List.getElem?_take_of_lt hj]; exact ho) hv
    rw [List.take_take, Nat.min_eq_left (by omega)] at h
    exact h
  · rw [k2] at hk
    exact hk r a w hi hf hd hx
  · unfold unl; simp [List.countP_replicate]
  · exact absurd hj nl
  · exact nl
  · exact absurd hj nl
end
end Go.Ab
end
section
set_option linter.unusedVariables false
set_option linter.unusedSimpArgs false
set_option maxRecDepth 20000
namespace Go.Proofs.YtmdegomejbpldaaGreatDoor
open Go Go.Ab
theorem byte_eq (c : UInt8) (n : Nat) (h : n < 256) : ((c.toNat : Int) == (n : Int)) = (c == UInt8.ofNat n) := by
  rw [Bool.eq_iff_iff, beq_iff_eq, beq_iff_eq]
  refine ⟨fun h1 => UInt8.toNat_inj.1 ?_, fun h1 => ?_⟩
  · rw [UInt8.toNat_ofNat']; omega
  · rw [h1, UInt8.toNat_ofNat']; omega
theorem getD_byte {s : List UInt8} {j : Nat} (h : j < s.length) : s.getD j 0 = s[j] := by simp [List.getD, h]
def spB (v : Nat) (s : List UInt8) (i o : Nat) (ins out : AV) : Nat × Option Box := (v, some (.cells [.str s, .int .i64 i, .int .i64 o, ins, out] ⟨false, some 64⟩))
theorem skip_ok (v a b : Nat) (xa xb : Box) (s : List UInt8) (i o : Nat) (ins out : AV) (hi : i ≤ s.length) (hs : s.length ≤ 1048576) :
    CallOk cx 26 [.ptr 0 v 0] [spB v s i o ins out, (a, some xa), (b, some xb)] (fun r σ => r = .ret (.tup []) ∧ σ = [spB v s (gapC s i) o ins out, (a, some xa), (b, some xb)]) :=
  callOk_intro (fun a w => Tryz.call26 a w) Tryz.func26 rfl Tryz.ntmps26 rfl fun B => by
    refine ab 1000 rfl trivial ?_
    refine S_while (α := Nat) (fun j => [(0, .ptr 0 v 0)]) (fun j => [spB v s j o ins out, (a, some xa), (b, some xb)]) (fun j => j ≤ s.length ∧ gapE s j = gapE s i) (fun j => s.length - j) i
      ⟨hi, rfl⟩ (.cons rfl (.nil _)) rfl ?_
    rintro j ⟨hj, hN⟩
    have hj : j ≤ s.length := hj
    refine ab 1000 rfl trivial ?_
    by_cases hlt : j < s.length
    · have c1 : (0 : Int) ≤ (j : Int) ∧ (j : Int) < (s.length : Int) := by omega
      refine S_drawV 10 21 [12] [.bool true] rfl rfl rfl rfl ⟨rfl, rfl, rfl, rfl, rfl, rfl, rfl, rfl, rfl, rfl, rfl, rfl, rfl, congrArg AV.bool (decide_eq_true (by omega)), rfl, rfl, rfl, rfl, rfl, rfl, rfl, rfl, rfl, rfl, rfl, c1.1, c1.2, rfl, trivial⟩ ?_
      refine ab 1000 rfl trivial ?_
      have hgc : (((s.getD (j : Int).toNat 0).toNat : Nat) : Int) = ((s[j].toNat : Nat) : Int) := by rw [Int.toNat_natCast, getD_byte hlt]
      refine S_cond rfl (fun hb => ?_) (fun hb => ?_)
      · have hb : (s[j] == 32) = true := by
          have h : ((((s.getD (j : Int).toNat 0).toNat : Nat) : Int) == 32) = true := hb
          rw [hgc] at h; exact (byte_eq s[j] 32 (by decide)).symm.trans h
        refine ab 1000 rfl ⟨Nat.le_of_ble_eq_true rfl, rfl, rfl, trivial⟩ ?_
        refine S_round (j + 1) (by show s.length - (j + 1) < s.length - j; omega) ⟨hlt, by rw [← hN, gapE, gapE, stopAt_yes hlt hb]⟩ (.cons rfl (.nil _)) ?_
        show [(v, some (Box.cells [.str s, .int .i64 (IntKind.i64.wrap ((j : Int) + 1)), .int .i64 o, ins, out] _)), _, _] = _
        rw [show AV.int .i64 (IntKind.i64.wrap ((j : Int) + 1)) = .int .i64 ((j + 1 : Nat) : Int) from ai64 rfl (by omega)]; rfl
      · have hb : (s[j] == 32) = false := by
          have h : ((((s.getD (j : Int).toNat 0).toNat : Nat) : Int) == 32) = false := hb
          rw [hgc] at h; exact (byte_eq s[j] 32 (by decide)).symm.trans h
        have hg : gapE s i = j := by rw [← hN, gapE, stopAt_no hlt hb]
        have hgC : gapC s i = if s[j] = 35 then stopAt (fun c => !(c == 10)) s j else j := by
          rw [gapC, hg, List.getElem?_eq_getElem hlt]; simp only [Option.some.injEq]
        rw [hgC]
        refine ab 1000 rfl trivial ?_
        refine S_drawV 10 21 [41] [.bool true] rfl rfl rfl rfl ⟨rfl, rfl, rfl, rfl, rfl, rfl, rfl, rfl, rfl, rfl, rfl, rfl, rfl, congrArg AV.bool (decide_eq_true (by omega)), rfl, rfl, rfl, rfl, rfl, rfl, rfl, rfl, rfl, rfl, rfl, c1.1, c1.2, rfl, trivial⟩ ?_
        refine ab 1000 rfl trivial ?_
        refine S_cond rfl (fun hd => ?_) (fun hd => ?_)
        · have hd : (s[j] == 35) = true := by
            have h : ((((s.getD (j : Int).toNat 0).toNat : Nat) : Int) == 35) = true := hd
            rw [hgc] at h; exact (byte_eq s[j] 35 (by decide)).symm.trans h
          rw [if_pos (by simpa using hd)]
          refine ab 1000 rfl trivial ?_
          refine S_while (α := Nat) (fun m => [(0, .ptr 0 v 0)]) (fun m => [spB v s m o ins out, (a, some xa), (b, some xb)]) (fun m => m ≤ s.length ∧ stopAt (fun c => !(c == 10)) s m = stopAt (fun c => !(c == 10)) s j) (fun m => s.length - m) j
            ⟨hj, rfl⟩ (.cons rfl (.nil _)) rfl ?_
          rintro m ⟨hm, hM⟩
          have hm : m ≤ s.length := hm
          refine ab 1000 rfl trivial ?_
          by_cases hml : m < s.length
          · have c2 : (0 : Int) ≤ (m : Int) ∧ (m : Int) < (s.length : Int) := by omega
            have hgm : (((s.getD (m : Int).toNat 0).toNat : Nat) : Int) = ((s[m].toNat : Nat) : Int) := by rw [Int.toNat_natCast, getD_byte hml]
            refine S_drawV 10 21 [63] [.bool true] rfl rfl rfl rfl ⟨rfl, rfl, rfl, rfl, rfl, rfl, rfl, rfl, rfl, rfl, rfl, rfl, rfl, congrArg AV.bool (decide_eq_true (by omega)), rfl, rfl, rfl, rfl, rfl, rfl, rfl, rfl, rfl, rfl, rfl, c2.1, c2.2, rfl, trivial⟩ ?_
            refine ab 1000 rfl trivial ?_
            refine S_cond rfl (fun he => ?_) (fun he => ?_)
            · have he : (!(s[m] == 10)) = true := by
                have h : (!((((s.getD (m : Int).toNat 0).toNat : Nat) : Int) == 10)) = true := he
                rw [hgm] at h; exact (congrArg not (byte_eq s[m] 10 (by decide))).symm.trans h
              refine ab 1000 rfl ⟨Nat.le_of_ble_eq_true rfl, rfl, rfl, trivial⟩ ?_
              refine S_round (m + 1) (by show s.length - (m + 1) < s.length - m; omega) ⟨hml, by rw [← hM, stopAt_yes hml he]⟩ (.cons rfl (.nil _)) ?_
              show [(v, some (Box.cells [.str s, .int .i64 (IntKind.i64.wrap ((m : Int) + 1)), .int .i64 o, ins, out] _)), _, _] = _
              rw [show AV.int .i64 (IntKind.i64.wrap ((m : Int) + 1)) = .int .i64 ((m + 1 : Nat) : Int) from ai64 rfl (by omega)]; rfl
            · have he : (!(s[m] == 10)) = false := by
                have h : (!((((s.getD (m : Int).toNat 0).toNat : Nat) : Int) == 10)) = false := he
                rw [hgm] at h; exact (congrArg not (byte_eq s[m] 10 (by decide))).symm.trans h
              rw [← hM, stopAt_no hml he]
              refine ab 1000 rfl trivial ?_
              exact S_nil ⟨_, _, rfl, trivial, rfl, rfl⟩
          · refine S_drawV 10 21 [63] [.bool false] rfl rfl rfl rfl ⟨rfl, rfl, rfl, rfl, rfl, rfl, rfl, rfl, rfl, rfl, rfl, rfl, rfl, congrArg AV.bool (decide_eq_false (by omega)), trivial⟩ ?_
            refine ab 1000 rfl trivial ?_
            refine S_cond (b := false) rfl (fun h => by cases h) (fun _ => ?_)
            rw [← hM, stopAt_end (by omega)]
            refine ab 1000 rfl trivial ?_
            exact S_nil ⟨_, _, rfl, trivial, rfl, rfl⟩
        · have hd : (s[j] == 35) = false := by
            have h : ((((s.getD (j : Int).toNat 0).toNat : Nat) : Int) == 35) = false := hd
            rw [hgc] at h; exact (byte_eq s[j] 35 (by decide)).symm.trans h
          rw [if_neg (by simpa using hd)]
          refine ab 1000 rfl trivial ?_
          exact S_nil ⟨_, _, rfl, trivial, rfl, rfl⟩
    · have hg : gapE s i = j := by rw [← hN, gapE, stopAt_end (by omega)]
      have hgC : gapC s i = j := by rw [gapC, hg, List.getElem?_eq_none (by omega)]; rfl
      rw [hgC]
      refine S_drawV 10 21 [12] [.bool false] rfl rfl rfl rfl ⟨rfl, rfl, rfl, rfl, rfl, rfl, rfl, rfl, rfl, rfl, rfl, rfl, rfl, congrArg AV.bool (decide_eq_false (by omega)), trivial⟩ ?_
      refine ab 1000 rfl trivial ?_
      refine S_cond (b := false) rfl (fun h => by cases h) (fun _ => ?_)
      refine ab 1000 rfl trivial ?_
      refine S_drawV 10 21 [41] [.bool false] rfl rfl rfl rfl ⟨rfl, rfl, rfl, rfl, rfl, rfl, rfl, rfl, rfl, rfl, rfl, rfl, rfl, congrArg AV.bool (decide_eq_false (by omega)), trivial⟩ ?_
      refine ab 1000 rfl trivial ?_
      refine S_cond (b := false) rfl (fun h => by cases h) (fun _ => ?_)
      refine ab 1000 rfl trivial ?_
      exact S_nil ⟨_, _, rfl, trivial, rfl, rfl⟩
end Go.Proofs.YtmdegomejbpldaaGreatDoor
end
section
set_option linter.unusedVariables false
set_option linter.unusedSimpArgs false
namespace Go.Ab
open Go
def Rl.fix (r : Rl) (b : Nat) : Rl := { r with I := fun k => r.I k ∨ k = b }
theorem Inv.fix {cx : Cx} {r : Rl} {σ : Heap} {w : World} {b : Nat} (hi : Inv cx r σ w) (hl : ¬ Live r σ b) (hb : b < w.heap.size) : Inv cx (r.fix b) σ w := by
  have g : Grow r w (r.fix b) w := ⟨fun _ h => h, fun _ h => .inl h, fun _ _ _ h => h, fun _ _ => rfl, fun _ c _ f h => ⟨c, f, h, rfl⟩⟩
  refine ⟨fun id ver x h => ?_, hi.lt, hi.inj, fun k hk hI => ?_, fun k hI => ?_, fun k h => .inl (hi.SI k h), hi.glob.mono g hi.SI⟩
  · rcases hi.box id ver x h with ⟨k, o, h1, h2⟩ | h1
    · exact .inl ⟨k, o, h1, h2.mono g rfl⟩
    · exact .inr h1
  · rcases hI with h | rfl
    · exact hi.imm k hk h
    · exact hl hk
  · rcases hI with h | rfl
    · exact hi.Ilt k h
    · exact hb
theorem Inv.freeze {cx : Cx} {r : Rl} {σ : Heap} {w : World} {id cur b o : Nat} {x : Box} (hi : Inv cx r σ w) (hσ : σ[id]? = some (cur, some x)) (hρ : r.ρ id cur = some (b, o)) :
    Inv cx (r.fix b) (σ.set id (cur, none)) w ∧ Ext r σ w (r.fix b) (σ.set id (cur, none)) w := by
  obtain ⟨q1, q2⟩ := hi.kill (w' := w) hσ (fun _ _ => rfl) rfl (fun b c t f h => ⟨c, f, h, rfl⟩) rfl rfl rfl
  have hlive : Live r σ b := ⟨id, cur, x, o, hσ, hρ⟩
  have hid : id < σ.length := by
    rcases Nat.lt_or_ge id σ.length with h | h
    · exact h
    · rw [List.getElem?_eq_none h] at hσ; cases hσ
  have hnl : ¬ Live r (σ.set id (cur, none)) b := by
    rintro ⟨j, v, y, o', h1, h2⟩
    rw [List.getElem?_set] at h1
    by_cases hj : id = j
    · subst hj; rw [if_pos rfl] at h1; simp [hid] at h1
    · rw [if_neg hj] at h1
      exact hj (hi.inj _ _ _ _ _ _ _ _ _ hσ h1 hρ h2)
  refine ⟨q1.fix hnl (hi.lt _ _ _ _ hρ).2, ⟨q2.S, fun k h => .inl h, q2.Sf, fun k h => ?_, q2.ρ, q2.hs, q2.σl, q2.same, fun k h => ?_, q2.size, q2.os, q2.output, q2.tape, q2.blk⟩⟩
  · rcases h with h | rfl
    · exact .inl h
    · exact .inr (.inl hlive)
  · exact q2.liv k h
section
variable {cx : Cx} {n : Nat} {B : Bs} {k : List AI} {Q : Post} {fr : Fr} {σ : Heap}
end
end Go.Ab
end
section
set_option linter.unusedVariables false
set_option linter.unusedSimpArgs false
namespace Go.Ab
open Go
inductive Low (k : Nat) : AV → Prop
  | top : Low k .top
  | bool {b} : Low k (.bool b)
  | int {t n} : Low k (.int t n)
  | str {s} : Low k (.str s)
  | nilp : Low k .nilp
  | nils : Low k .nils
  | nilm : Low k .nilm
  | nilf : Low k .nilf
  | nili : Low k .nili
  | mark {vs} : Low k (.mark vs)
  | ptr {id ver off} (h : id < k) : Low k (.ptr id ver off)
  | eptr {id ver off} (h : id < k) : Low k (.eptr id ver off)
  | ms {id ver off len sz full} (h : id < k) : Low k (.ms id ver off len sz full)
  | map {id ver} (h : id < k) : Low k (.map id ver)
  | rp {b cs} (hx : ∀ x ∈ cs, Low k x) : Low k (.rp b cs)
  | sl {b fl sz xs} (hx : ∀ x ∈ xs, Low k x) : Low k (.sl b fl sz xs)
  | iface {t v} (h : Low k v) : Low k (.iface t v)
  | agg {cs} (h : ∀ x ∈ cs, Low k x) : Low k (.agg cs)
  | tup {cs} (h : ∀ x ∈ cs, Low k x) : Low k (.tup cs)
  | func {fn a b} (h : ∀ x ∈ a, Low k x) (h' : ∀ x ∈ b, Low k x) : Low k (.func fn a b)
theorem Low.free {k : Nat} {st : Bool} {a : AV} (h : Free st a) : Low k a := by
  induction h with
  | top => exact .top
  | bool => exact .bool
  | int => exact .int
  | str => exact .str
  | nilp => exact .nilp
  | nils => exact .nils
  | nilm => exact .nilm
  | nilf => exact .nilf
  | nili => exact .nili
  | rp _ _ ih => exact .rp ih
  | sl _ _ ih => exact .sl ih
  | iface _ ih => exact .iface ih
  | agg _ ih => exact .agg ih
  | tup _ ih => exact .tup ih
  | func _ _ ih1 ih2 => exact .func ih1 ih2
theorem Low.cells {k : Nat} {a : AV} (h : Low k a) : ∀ x ∈ a.cells, Low k x := by
  cases a with
  | agg cs => cases h; assumption
  | _ => intro x hx; simp only [AV.cells, List.mem_singleton] at hx; subst hx; exact h
theorem VRel.low {k : Nat} {r r' : Rl} {w : World} {v : Value} {a : AV} (h : VRel r w v a) (hl : Low k a) (hS : ∀ b, r.S b → r'.S b) (hI : ∀ b, r.I b → r'.I b) (hρ : ∀ id ver p, id < k → r.ρ id ver = some p → r'.ρ id ver = some p) : VRel r' w v a := by
  induction h with
  | top => exact .top
  | mark => exact .mark
  | bool => exact .bool
  | int => exact .int
  | str h => exact .str h
  | nilp => exact .nilp
  | ptr h => cases hl with | ptr hk => exact .ptr (hρ _ _ _ hk h)
  | eptr h => cases hl with | eptr hk => exact .eptr (hρ _ _ _ hk h)
  | rp hI' hS' f hc _ ih => cases hl with | rp hx => exact .rp (hI _ hI') (fun h => hS _ (hS' h)) f hc (fun i hi => ih i hi (hx _ (List.getElem_mem hi)))
  | nils => exact .nils
  | sl0 h => exact .sl0 h
  | sl hn hc0 hf' hI' hS' hsz f hc _ ih =>
    cases hl with
    | sl hx => exact .sl hn hc0 hf' (hI _ hI') (fun h => hS _ (hS' h)) hsz f hc (fun e he j hj => ih e he j hj ((hx _ (List.getElem_mem he)).cells _ (List.getElem_mem hj)))
  | ms0 => exact .ms0
  | ms h hcap hn hf' => cases hl with | ms hk => exact .ms (hρ _ _ _ hk h) hcap hn hf'
  | nilm => exact .nilm
  | map h => cases hl with | map hk => exact .map (hρ _ _ _ hk h)
  | func h1 _ h2 _ ih1 ih2 =>
    cases hl with
    | func ha hb => exact .func h1 (fun i hi => ih1 i hi (ha _ (List.getElem_mem hi))) h2 (fun i hi => ih2 i hi (hb _ (List.getElem_mem hi)))
  | nilf => exact .nilf
  | iface _ ih => cases hl with | iface h => exact .iface (ih h)
  | nili => exact .nili
  | agg hn _ ih => cases hl with | agg h => exact .agg hn (fun i hi => ih i hi (h _ (List.getElem_mem hi)))
  | tup hn _ ih => cases hl with | tup h => exact .tup hn (fun i hi => ih i hi (h _ (List.getElem_mem hi)))
inductive LowBox (k : Nat) : Box → Prop
  | cells {cs g} (h : ∀ x ∈ cs, Low k x) : LowBox k (.cells cs g)
  | map {kvs st} (h : ∀ p ∈ kvs, Low k p.1 ∧ Low k p.2) : LowBox k (.map kvs st)
  | miter {id ver since seen last} (h : id < k) : LowBox k (.miter id ver since seen last)
  | siter {s pos} : LowBox k (.siter s pos)
theorem BoxRel.low {P : Program} {k : Nat} {r r' : Rl} {w : World} {b o : Nat} {x : Box} (h : BoxRel P r w b o x) (hl : LowBox k x) (hS : ∀ b, r.S b → r'.S b) (hI : ∀ b, r.I b → r'.I b) (hρ : ∀ id ver p, id < k → r.ρ id ver = some p → r'.ρ id ver = some p) : BoxRel P r' w b o x := by
  cases hl with
  | cells hx =>
    obtain ⟨c, t, lo, hi, h1, h2, h3⟩ := h
    refine ⟨c, t, lo, hi, h1, fun i hi => ?_, h3⟩
    obtain ⟨v, hv, hr⟩ := h2 i hi
    exact ⟨v, hv, hr.low (hx _ (List.getElem_mem hi)) hS hI hρ⟩
  | map hx =>
    obtain ⟨h0, es, clock, h1, h2, h3, h4⟩ := h
    refine ⟨h0, es, clock, h1, h2, fun i hi => ?_, h4⟩
    obtain ⟨e, he, hk, hv⟩ := h3 i hi
    have := hx _ (List.getElem_mem hi)
    exact ⟨e, he, hk.low this.1 hS hI hρ, hv.low this.2 hS hI hρ⟩
  | siter => exact h
  | miter hk =>
    obtain ⟨h0, mb, h1, h2⟩ := h
    exact ⟨h0, mb, hρ _ _ _ hk h1, h2⟩
inductive FzT (k : Nat) (σ : Heap) : AV → AV → Prop
  | low {a} (h : Low k a) : FzT k σ a a
  | nils {b fl sz} : FzT k σ .nils (.sl b fl sz [])
  | ms {id ver off len sz full cs g xs ys} (hk : k ≤ id) (hb : boxAt σ id = some (ver, cs, g)) (hle : off + len * sz ≤ cs.length) (hx : (cs.drop off).take (len * sz) = ys) (hsz : ∀ x ∈ xs, x.cells.length = sz) (hl : xs.length = len)
      (hxy : ys.length = (xs.flatMap AV.cells).length) (hf : ∀ i (h : i < ys.length) (h' : i < (xs.flatMap AV.cells).length), FzT k σ ys[i] (xs.flatMap AV.cells)[i]) : FzT k σ (.ms id ver off len sz full) (.sl true false sz xs)
  | agg {az bs} (hl : az.length = bs.length) (h : ∀ i (h : i < az.length) (h' : i < bs.length), FzT k σ az[i] bs[i]) : FzT k σ (.agg az) (.agg bs)
  | tup {az bs} (hl : az.length = bs.length) (h : ∀ i (h : i < az.length) (h' : i < bs.length), FzT k σ az[i] bs[i]) : FzT k σ (.tup az) (.tup bs)
theorem FzT.ms1 {k : Nat} {σ : Heap} {id ver len : Nat} {full : Bool} {xs : List AV} {g : Tag} (hk : k ≤ id) (hb : boxAt σ id = some (ver, xs, g)) (ho : ∀ x ∈ xs, x.one = true) (hl : xs.length = len) (hf : ∀ x ∈ xs, Low k x) :
    FzT k σ (.ms id ver 0 len 1 full) (.sl true false 1 xs) := by
  have e := ones_flat ho
  refine .ms (ys := xs) hk hb (by omega) (by rw [List.drop_zero, List.take_of_length_le (by omega)]) (fun x hx => by rw [one_cells (ho x hx)]; rfl) hl (by rw [e]) (fun i h h' => ?_)
  have : (xs.flatMap AV.cells)[i] = xs[i] := by simp only [e]
  rw [this]
  exact .low (hf _ (List.getElem_mem h))
theorem FzT.msN {k : Nat} {σ : Heap} {id ver len sz : Nat} {full : Bool} {xs : List AV} {g : Tag} (hk : k ≤ id) (hb : boxAt σ id = some (ver, xs.flatMap AV.cells, g)) (hsz : ∀ x ∈ xs, x.cells.length = sz) (hl : xs.length = len) (hf : ∀ x ∈ xs, Low k x) :
    FzT k σ (.ms id ver 0 len sz full) (.sl true false sz xs) := by
  have e := flatMap_cells_length hsz
  refine .ms (ys := xs.flatMap AV.cells) hk hb (by rw [e, hl]; omega) (by rw [List.drop_zero, List.take_of_length_le (by rw [e, hl]; omega)]) hsz hl rfl (fun i h h' => ?_)
  have hm := List.getElem_mem h
  obtain ⟨x, hx1, hx2⟩ := List.mem_flatMap.1 hm
  exact .low ((hf x hx1).cells _ hx2)
theorem FzT.rel {k : Nat} {cx : Cx} {r r' : Rl} {σ : Heap} {w : World} (hi : Inv cx r σ w) (hS : ∀ b, r.S b → r'.S b) (hI : ∀ b, r.I b → r'.I b) (hρ : ∀ id ver p, id < k → r.ρ id ver = some p → r'.ρ id ver = some p)
    (hL : ∀ (id ver : Nat) x b o, k ≤ id → σ[id]? = some (ver, some x) → r.ρ id ver = some (b, o) → r'.I b ∧ r'.S b) {a a' : AV} (hz : FzT k σ a a') : ∀ {v : Value}, VRel r w v a → VRel r' w v a' := by
  induction hz with
  | low h => intro v hv; exact hv.low h hS hI hρ
  | nils => intro v hv; cases hv; exact .sl0 (fun _ => rfl)
  | ms hk hb hle hx hsz hl hxy hf ih =>
    intro v hv
    cases hv with
    | ms0 =>
      obtain rfl := List.eq_nil_of_length_eq_zero hl
      exact .sl0 (fun h => by cases h)
    | ms hρ' hcap hn hff =>
      have hbr := hi.cells hb rfl hρ'
      obtain ⟨k1, k2⟩ := hL _ _ _ _ _ hk (boxAt_some hb) hρ'
      rename_i off0 len0 sz0 _ cs0 _ xs0 ys0 b0 o1 cap0
      have hc := (hbr.cells'.drop off0).take (len0 * sz0)
      rw [hx] at hc
      refine Cells.sl hl.symm hn (fun h => by cases h) k1 (fun _ => k2) hsz (fun i hi' => ?_)
      obtain ⟨u, q1, q2⟩ := hc i (by omega)
      exact ⟨u, q1, ih i (by omega) hi' q2⟩
  | agg hl h ih =>
    intro v hv
    cases hv with
    | agg hn h2 => exact .agg (by omega) (fun i hi => ih i (by omega) hi (h2 i (by omega)))
  | tup hl h ih =>
    intro v hv
    cases hv with
    | tup hn h2 => exact .tup (by omega) (fun i hi => ih i (by omega) hi (h2 i (by omega)))
def LowH (k : Nat) (σ : Heap) : Prop := ∀ (id ver : Nat) x, id < k → σ[id]? = some (ver, some x) → LowBox k x
theorem LowH.of {k : Nat} {σ : Heap} (h : ∀ e ∈ σ.take k, ∀ x, e.2 = some x → LowBox k x) : LowH k σ := fun id ver x hk hid =>
  h (ver, some x) (by
    rw [List.mem_iff_getElem?]
    exact ⟨id, by rw [List.getElem?_take, if_pos hk]; exact hid⟩) x rfl
def TR (k0 : Nat) (R : Out → Heap → Prop) (o : Out) (σ : Heap) : Prop :=
  ∃ k, k0 ≤ k ∧ LowH k σ ∧ match o with
    | .ret v => ∃ res, FzT k σ v res ∧ R (.ret res) (σ.take k)
    | .panic v => Low k v ∧ R (.panic v) (σ.take k)
theorem trunc {cx : Cx} {r r' : Rl} {σ σ' : Heap} {w w' : World} {k : Nat} (hi : Inv cx r σ w) (hi' : Inv cx r' σ' w') (hx : Ext r σ w r' σ' w') (hk : σ.length ≤ k) (hl : LowH k σ') :
    ∃ r'', Inv cx r'' (σ'.take k) w' ∧ Ext r σ w r'' (σ'.take k) w' ∧ (∀ v a, Low k a → VRel r' w' v a → VRel r'' w' v a) ∧ ∀ v a a', FzT k σ' a a' → VRel r' w' v a → VRel r'' w' v a' := by
  let F : Nat → Prop := fun b => ∃ (id ver : Nat) (x : Box) (o : Nat), k ≤ id ∧ σ'[id]? = some (ver, some x) ∧ r'.ρ id ver = some (b, o)
  let r2 : Rl := { S := fun b => r'.S b ∨ F b, I := fun b => r'.I b ∨ F b, ρ := fun id ver => if id < k then r'.ρ id ver else none }
  have hS : ∀ b, r'.S b → r2.S b := fun b h => Or.inl h
  have hI : ∀ b, r'.I b → r2.I b := fun b h => Or.inl h
  have hρ : ∀ id ver p, id < k → r'.ρ id ver = some p → r2.ρ id ver = some p := fun id ver p h1 h2 => by simp only [r2, if_pos h1]; exact h2
  have hρ2 : ∀ {id ver p}, r2.ρ id ver = some p → id < k ∧ r'.ρ id ver = some p := by
    intro id ver p h
    simp only [r2] at h
    split at h
    · exact ⟨by assumption, h⟩
    · cases h
  have hget : ∀ {id : Nat} {e : Nat × Option Box}, (σ'.take k)[id]? = some e → id < k ∧ σ'[id]? = some e := by
    intro id e h
    rw [List.getElem?_take] at h
    split at h
    · exact ⟨by assumption, h⟩
    · cases h
  have hnew : ∀ b, F b → w.heap.size ≤ b := by
    rintro b ⟨id, ver, x, o, h1, h2, h3⟩
    rcases hx.blk id ver b o h3 with ⟨v1, o1, h4⟩ | h4
    · obtain ⟨⟨cur, y, h5, _⟩, _⟩ := hi.lt _ _ _ _ h4
      rw [List.getElem?_eq_none (by omega)] at h5; cases h5
    · exact h4
  have hF : ∀ b, F b → b < w'.heap.size := by
    rintro b ⟨id, ver, x, o, h1, h2, h3⟩
    exact (hi'.lt _ _ _ _ h3).2
  have hlive : ∀ b, Live r2 (σ'.take k) b → Live r' σ' b ∧ ¬ F b := by
    rintro b ⟨id, ver, x, o, h1, h2⟩
    obtain ⟨h3, h4⟩ := hget h1
    obtain ⟨_, h5⟩ := hρ2 h2
    refine ⟨⟨id, ver, x, o, h4, h5⟩, ?_⟩
    rintro ⟨id', ver', x', o', q1, q2, q3⟩
    have := hi'.inj _ _ _ _ _ _ _ _ _ h4 q2 h5 q3
    omega
  refine ⟨r2, ⟨fun id ver x h => ?_, fun id ver b o h => ?_, fun id id' ver ver' x x' b o o' h1 h2 h3 h4 => hi'.inj id id' ver ver' x x' b o o' (hget h1).2 (hget h2).2 (hρ2 h3).2 (hρ2 h4).2, fun b h hb => ?_, fun b hb => ?_, fun b hb => ?_, ?_⟩,
    ⟨fun b h => .inl (hx.S b h), fun b h => .inl (hx.I b h), fun b hb => ?_, fun b hb => ?_, fun id ver p h => ?_, hx.hs, ?_, hx.same, fun b h => hx.liv b (hlive b h).1, hx.size, hx.os, hx.output, hx.tape, fun id ver b o h => hx.blk id ver b o (hρ2 h).2⟩, fun v a h hv => hv.low h hS hI hρ, fun v a a' h hv => ?_⟩
  · obtain ⟨h1, h2⟩ := hget h
    rcases hi'.box id ver x h2 with ⟨b, o, h3, h4⟩ | ⟨h3, h4⟩
    · exact .inl ⟨b, o, hρ _ _ _ h1 h3, h4.low (hl id ver x h1 h2) hS hI hρ⟩
    · exact .inr ⟨by simp only [r2, if_pos h1]; exact h3, h4⟩
  · obtain ⟨h1, h2⟩ := hρ2 h
    obtain ⟨⟨cur, x, h3, h4⟩, h5⟩ := hi'.lt id ver b o h2
    exact ⟨⟨cur, x, by rw [List.getElem?_take, if_pos h1]; exact h3, h4⟩, h5⟩
  · obtain ⟨h1, h2⟩ := hlive b h
    rcases hb with hb | hb
    · exact hi'.imm b h1 hb
    · exact h2 hb
  · rcases hb with hb | hb
    · exact hi'.Ilt b hb
    · exact hF b hb
  · rcases hb with hb | hb
    · exact .inl (hi'.SI b hb)
    · exact .inr hb
  · exact hi'.glob.free (r' := r2) hS (fun b hb => hb.elim (fun h => .inl (hi'.SI b h)) .inr)
  · rcases hb with hb | hb
    · exact hx.Sf b hb
    · exact .inr (hnew b hb)
  · rcases hb with hb | hb
    · exact hx.If b hb
    · exact .inr (.inr (hnew b hb))
  · obtain ⟨⟨cur, x, h1, _⟩, _⟩ := hi.lt id ver p.1 p.2 h
    refine hρ _ _ _ ?_ (hx.ρ _ _ _ h)
    rcases Nat.lt_or_ge id σ.length with h' | h'
    · omega
    · rw [List.getElem?_eq_none h'] at h1; cases h1
  · have := hx.σl
    rw [List.length_take]; omega
  · exact h.rel hi' hS hI hρ (fun id ver x b o h1 h2 h3 => ⟨.inr ⟨id, ver, x, o, h1, h2, h3⟩, .inr ⟨id, ver, x, o, h1, h2, h3⟩⟩) hv
theorem callOk_trunc {cx : Cx} {f : FuncId} {args : List AV} {σ : Heap} {R : Out → Heap → Prop} (h : CallOk cx f args σ (TR σ.length R)) : CallOk cx f args σ R := by
  refine ⟨h.1, fun r w vs hi hv => ?_⟩
  refine (h.2 r w vs hi hv).mono fun e w' ⟨o, σ', r', ⟨k, hk, hl, hR⟩, hor, hi', hx'⟩ => ?_
  obtain ⟨r2, q1, q2, q3, q4⟩ := trunc hi hi' hx' hk hl
  cases o with
  | ret v =>
    obtain ⟨res, hz, hR⟩ := hR
    cases e with
    | returned u => exact ⟨.ret res, _, r2, hR, q4 _ _ _ hz hor, q1, q2⟩
    | panicked chain => exact hor.elim
    | outgrown => exact hor.elim
  | panic v =>
    obtain ⟨hz, hR⟩ := hR
    cases e with
    | returned u => exact hor.elim
    | panicked chain =>
      obtain ⟨u, hu1, hu2⟩ := hor
      exact ⟨.panic v, _, r2, hR, ⟨u, hu1, q3 _ _ hz hu2⟩, q1, q2⟩
    | outgrown => exact hor.elim
theorem callOk_introT {cx : Cx} {f : FuncId} {fn : Func} {c : Code} {n : Nat} {args : List AV} {σ : Heap} {R : Out → Heap → Prop} (he : Enters cx.P f) (hf : cx.P.funcs[f]? = some fn) (hb : fn.body = some c) (hn : fn.ntmps = n) (ha : Nat.ble args.length n = true)
    (h : ∀ B, S cx n B [.code c] (retQ cx fn (TR σ.length R)) (enterFr 0 args) σ) : CallOk cx f args σ R :=
  callOk_trunc (callOk_intro he hf hb hn ha h)
end Go.Ab
end
section
set_option linter.unusedVariables false
set_option linter.unusedSimpArgs false
namespace Go.Ab
open Go
def StepX (cx : Cx) (n : Nat) (all : Array Oper) (σ σ' : Heap) (K : List Nat) (fr : Fr) (o : Oper) (v : AV) : Prop :=
  dstOk n o.dst = true ∧ ((guardA all o K fr = some false ∧ v = .tup [] ∧ σ' = σ) ∨ (guardA all o K fr = some true ∧ ∀ r a w, Inv cx r σ w → FRel r w n fr a → ∀ Q, o.wp cx.P a w (fun a' w' => ∃ r' v', a' = a.put o.dst v' ∧ VRel r' w' v' v ∧ Inv cx r' σ' w' ∧ Ext r σ w r' σ' w') Q))
theorem StepD.x {cx : Cx} {n : Nat} {all : Array Oper} {σ : Heap} {K : List Nat} {fr : Fr} {o : Oper} {v : AV} (h : StepD cx n all σ K fr o v) : StepX cx n all σ σ K fr o v := by
  refine ⟨h.1, ?_⟩
  rcases h.2 with ⟨h1, h2⟩ | h1
  · exact .inl ⟨h1, h2, rfl⟩
  · exact .inr h1
def hpC (σ σ' : Heap) (jc : Nat) (listed : Array Bool) : Heap := bif listed.getD jc false then σ' else σ
theorem hpC_in {σ σ' : Heap} {jc : Nat} {listed : Array Bool} (h : Listed listed jc) : hpC σ σ' jc listed = σ' := by
  have h : listed.getD jc false = true := h
  unfold hpC; rw [h]; rfl
theorem hpC_out {σ σ' : Heap} {jc : Nat} {listed : Array Bool} (h : listed.getD jc false = false) : hpC σ σ' jc listed = σ := by
  unfold hpC; rw [h]; rfl
theorem hpC_set {σ σ' : Heap} {i : Nat} {listed : Array Bool} (h : i < listed.size) : hpC σ σ' i (listed.setIfInBounds i true) = σ' :=
  hpC_in ((listed_set h).2 (.inl rfl))
theorem hpC_same {σ σ' : Heap} {i jc : Nat} {listed : Array Bool} (h : i < listed.size) (hn : i ≠ jc) : hpC σ σ' jc (listed.setIfInBounds i true) = hpC σ σ' jc listed := by
  unfold hpC
  have : (listed.setIfInBounds i true).getD jc false = listed.getD jc false := by
    simp only [Array.getD_eq_getD_getElem?, Array.getElem?_setIfInBounds, if_neg hn]
  rw [this]
section
variable {cx : Cx} {n : Nat} {B : Bs} {k : List AI} {Q : Post} {fr : Fr} {σ : Heap}
theorem wpAny_frontC {σ' : Heap} {jc : Nat} {ops : Array Oper} {m : Nat} {vals : List AV} {K : List Nat} {Q' : Exit → Act → World → Prop} (hjc : jc < m) (hmN : m ≤ ops.size) (hlen : vals.length = m)
    (hread : ∀ j o t, j < m → ops.toList[j]? = some o → t ∈ slotsOf ops.toList o → readOk ops.toList m j t = true)
    (huniq : ∀ i j d, i < m → j < m → dstOf ops.toList i = some d → dstOf ops.toList j = some d → i = j)
    (hch : ∀ j, m < j → j < ops.size → edge ops.toList j (j - 1) = true) (hlo : ∀ j i, edge ops.toList j i = true → i < j)
    (hcl : m < ops.size → ∀ i, i < m → ∃ k, i < k ∧ k ≤ m ∧ edge ops.toList k i = true)
    (hstep : ∀ (j : Nat) o v, j < m → ops.toList[j]? = some o → vals[j]? = some v → (j ≠ jc → ∀ b : Bool, StepX cx n ops (bif b then σ' else σ) (bif b then σ' else σ) K (restr ops.toList o (ovl (ops.toList.take j) (vals.take j) fr)) o v) ∧ (j = jc → StepX cx n ops σ σ' K (restr ops.toList o (ovl (ops.toList.take j) (vals.take j) fr)) o v))
    (hend : ∀ r a w, Inv cx r σ' w → FRel r w n (ovl (ops.toList.take m) vals fr) a → Dfs B a → Ext B.r B.σ B.w r σ' w → wpList cx.P ops Q' (ops.toList.drop m) a w) :
    ∀ (f : Nat) (listed : Array Bool) (r : Rl) (a : Act) (w : World), listed.size = ops.size → unl listed = f → Down ops.toList listed → (∀ j, m ≤ j → ¬ Listed listed j) →
      FL r w n fr ops.toList m vals listed a → Inv cx r (hpC σ σ' jc listed) w → Dfs B a → Ext B.r B.σ B.w r (hpC σ σ' jc listed) w → wpAny cx.P .any ops Q' f listed a w := by
  have ovlN : ∀ i, i ≤ m → ∀ vs, (ovl (ops.toList.take i) (vals.take i) fr).get n = .mark vs → fr.get n = .mark vs := by
    intro i him vs hm
    rcases ovl_get (ops.toList.take i) (vals.take i) fr n (by simp [hlen]; omega) with ⟨i', o', v', k1, k2, k3, k4⟩ | ⟨k1, k2⟩
    · exfalso
      have hi'i : i' < i := by
        rcases Nat.lt_or_ge i' i with h' | h'
        · exact h'
        · rw [List.getElem?_eq_none (by simp; omega)] at k1; cases k1
      rw [List.getElem?_take_of_lt hi'i] at k1 k3
      have hds : dstOk n o'.dst = true := by
        by_cases hij : i' = jc
        · exact ((hstep i' o' v' (by omega) k1 k3).2 hij).1
        · exact ((hstep i' o' v' (by omega) k1 k3).1 hij false).1
      rw [k2] at hds
      have := blt_lt hds
      omega
    · rw [← k2]; exact hm
  have fin : ∀ (f : Nat) (listed : Array Bool) (r : Rl) (a : Act) (w : World), listed.size = ops.size → unl listed = f → (∀ j, j < m → Listed listed j) → (∀ j, m ≤ j → ¬ Listed listed j) →
      FL r w n fr ops.toList m vals listed a → Inv cx r (hpC σ σ' jc listed) w → Dfs B a → Ext B.r B.σ B.w r (hpC σ σ' jc listed) w → wpAny cx.P .any ops Q' f listed a w := by
    intro f listed r a w hs hf hall hno hfl hi hd hx
    rw [hpC_in (hall jc hjc)] at hi hx
    have hcount : unl listed + m = ops.size := by
      have hl : listed.toList = List.replicate m true ++ List.replicate (ops.size - m) false := by
        apply List.ext_getElem
        · simp; omega
        · intro j h1 h2
          have hj : j < listed.size := by simpa using h1
          have h3 : listed.getD j false = listed.toList[j] := by simp [Array.getD_eq_getD_getElem?, hj]
          by_cases hjm : j < m
          · rw [List.getElem_append_left (by simpa using hjm), List.getElem_replicate, ← h3]; exact hall j hjm
          · rw [List.getElem_append_right (by simp; omega), List.getElem_replicate, ← h3]
            have := hno j (by omega)
            unfold Listed at this
            simpa using this
      unfold unl
      rw [hl, List.countP_append, List.countP_replicate, List.countP_replicate]
      simp; omega
    refine wpAny_tail hch hlo f m listed a w (by omega) (Nat.le_refl m) hs (fun i hi' => ⟨fun h => ?_, fun h => hall i h⟩) (hend r a w hi ⟨hfl.size, fun t => ?_, fun vs hm => ?_⟩ hd hx)
    case refine_3 =>
      refine hfl.defs vs (ovlN m (Nat.le_refl _) vs ?_)
      rw [show vals.take m = vals from List.take_of_length_le (by omega)]
      exact hm
    · rcases Nat.lt_or_ge i m with h' | h'
      · exact h'
      · exact absurd h (hno i h')
    · rcases ovl_get (ops.toList.take m) vals fr t (by simp [hlen]; omega) with ⟨i, o, v, h1, h2, h3, h4⟩ | ⟨h1, h2⟩
      · rw [h4]
        have him : i < m := by
          rcases Nat.lt_or_ge i m with h' | h'
          · exact h'
          · rw [List.getElem?_eq_none (by simp; omega)] at h1; cases h1
        rw [List.getElem?_take_of_lt him] at h1
        exact hfl.done i t v him (hall i him) (by simp [dstOf, h1, h2]) h3
      · rw [h2]
        refine hfl.rest t (fun j hj _ hdj => ?_)
        obtain ⟨o, ho, hod⟩ := Option.bind_eq_some_iff.1 hdj
        exact h1 j o (by rw [List.getElem?_take_of_lt hj]; exact ho) hod
  intro f
  induction f with
  | zero =>
    intro listed r a w hs hf hdn hno hfl hi hd hx
    refine fin 0 listed r a w hs hf (fun j hj => ?_) hno hfl hi hd hx
    rcases hb : listed.getD j false with _ | _
    · have := unl_set (by omega) hb
      omega
    · exact hb
  | succ f ih =>
    intro listed r a w hs hf hdn hno hfl hi hd hx
    by_cases hall : ∀ j, j < m → Listed listed j
    · exact fin (f + 1) listed r a w hs hf hall hno hfl hi hd hx
    have hex : ∃ j, j < m ∧ ¬ Listed listed j := by
      apply Classical.byContradiction
      intro h
      exact hall (fun j hj => Classical.byContradiction fun hl => h ⟨j, hj, hl⟩)
    refine ⟨fun h0 => ?_, fun i hir => ?_⟩
    · obtain ⟨j, h1, h2, h3⟩ := exists_least m hex
      have hjr : j ∈ Region.ready .any ops listed := by
        refine mem_ready.2 ⟨?_, ops[j]'(by omega), Array.getElem?_eq_getElem _, fun e he hb => ?_⟩
        · rw [listed_true (by omega)]; simpa [Listed] using h2
        · have h4 : e.on < j := hlo j e.on (edge_iff.2 ⟨ops[j]'(by omega), Array.getElem?_eq_getElem _, e, he, hb, rfl⟩)
          exact Classical.byContradiction fun h5 => h3 e.on h4 h5
      rw [h0] at hjr; cases hjr
    · obtain ⟨h0, o, ho, hedges⟩ := mem_ready.1 hir
      have hilt := (Array.getElem?_eq_some_iff.1 ho).1
      rw [listed_true (by omega)] at h0
      have hed : ∀ j, edge ops.toList i j = true → Listed listed j := by
        intro j hj
        obtain ⟨o', ho', e, he, hb, hon⟩ := edge_iff.1 hj
        rw [ho] at ho'; cases ho'
        rw [← hon]; exact hedges e he hb
      have him : i < m := by
        rcases Nat.lt_or_ge i m with h' | h'
        · exact h'
        · exfalso
          rcases Nat.eq_or_lt_of_le h' with h'' | h''
          · subst h''
            refine hall (fun j hj => ?_)
            have key : ∀ d j, d + j = m → j < m → Listed listed j := by
              intro d
              induction d using Nat.strongRecOn with
              | _ d ihd =>
                intro j hdj hj
                obtain ⟨k, h1, h2, h3⟩ := hcl hilt j hj
                rcases Nat.eq_or_lt_of_le h2 with h4 | h4
                · subst h4; exact hed j h3
                · exact hdn k j (ihd (m - k) (by omega) k (by omega) h4) h3
            exact key (m - j) j (by omega) hj
          · exact hno (i - 1) (by omega) (hed _ (hch i h'' hilt))
      have hol : ops.toList[i]? = some o := by simpa using ho
      obtain ⟨v, hv⟩ : ∃ v, vals[i]? = some v := ⟨vals[i]'(by omega), List.getElem?_eq_getElem _⟩
      have hX : StepX cx n ops (hpC σ σ' jc listed) (hpC σ σ' jc (listed.setIfInBounds i true)) K (restr ops.toList o (ovl (ops.toList.take i) (vals.take i) fr)) o v := by
        by_cases hij : i = jc
        · subst hij
          rw [hpC_out h0, hpC_set (by omega)]
          exact (hstep i o v him hol hv).2 rfl
        · rw [hpC_same (by omega) hij]
          exact (hstep i o v him hol hv).1 hij (listed.getD jc false)
      obtain ⟨hdst, hst⟩ := hX
      have hnl : ¬ Listed listed i := by simp [Listed, h0]
      have hfr : FRel r w n (restr ops.toList o (ovl (ops.toList.take i) (vals.take i) fr)) a := by
        refine ⟨hfl.size, fun t => ?_, fun vs hm => ?_⟩
        case refine_2 =>
          unfold restr at hm
          rcases restr_get (slotsOf ops.toList o) (ovl (ops.toList.take i) (vals.take i) fr) n with h | ⟨h1, h2⟩
          · rw [h] at hm; cases hm
          · rw [h2] at hm
            exact hfl.defs vs (ovlN i (by omega) vs hm)
        unfold restr
        rcases restr_get (slotsOf ops.toList o) (ovl (ops.toList.take i) (vals.take i) fr) t with h | ⟨h1, h2⟩
        · rw [h]; exact .top
        · rw [h2]
          have hro := hread i o t him hol h1
          have hrd : ∀ i', i' < m → dstOf ops.toList i' = some t → (i' < i → edge ops.toList i i' = true) ∧ (i < i' → edge ops.toList i' i = true) := by
            intro i' hi' hd'
            have := allB_mem hro _ (List.mem_map.2 ⟨i', List.mem_range.2 hi', rfl⟩)
            rw [eqDst_iff.2 hd'] at this
            simp only at this
            constructor
            · intro hlt
              rw [lt_blt hlt] at this
              exact this
            · intro hlt
              rw [show Nat.blt i' i = false by cases hbb : Nat.blt i' i with | false => rfl | true => (have := blt_lt hbb; omega), show Nat.beq i' i = false by cases hbb : Nat.beq i' i with | false => rfl | true => (have := Nat.eq_of_beq_eq_true hbb; omega)] at this
              exact this
          rcases ovl_get (ops.toList.take i) (vals.take i) fr t (by simp [hlen]; omega) with ⟨i', o', v', k1, k2, k3, k4⟩ | ⟨k1, k2⟩
          · rw [k4]
            have hi'i : i' < i := by
              rcases Nat.lt_or_ge i' i with h' | h'
              · exact h'
              · rw [List.getElem?_eq_none (by simp; omega)] at k1; cases k1
            rw [List.getElem?_take_of_lt hi'i] at k1 k3
            have hd' : dstOf ops.toList i' = some t := by simp only [dstOf, k1, Option.bind_some, k2]
            exact hfl.done i' t v' (by omega) (hed _ ((hrd i' (by omega) hd').1 hi'i)) hd' k3
          · rw [k2]
            refine hfl.rest t (fun j hj hlj hdj => ?_)
            rcases Nat.lt_trichotomy j i with h' | h' | h'
            · obtain ⟨oj, hoj, hod⟩ := Option.bind_eq_some_iff.1 hdj
              exact k1 j oj (by rw [List.getElem?_take_of_lt h']; exact hoj) hod
            · subst h'; exact hnl hlj
            · exact hnl (hdn j i hlj ((hrd j hj hdj).2 h'))
      have next : ∀ (r' : Rl) (w' : World) (v' : Value), VRel r' w' v' v → Inv cx r' (hpC σ σ' jc (listed.setIfInBounds i true)) w' → Ext r (hpC σ σ' jc listed) w r' (hpC σ σ' jc (listed.setIfInBounds i true)) w' → wpAny cx.P .any ops Q' f (listed.setIfInBounds i true) (a.put o.dst v') w' := by
        intro r' w' v' hv' hi' hx'
        have hun := unl_set (by omega) h0
        refine ih _ r' _ w' (by simpa using hs) (by omega) (fun j l hj he => ?_) (fun j hj hl => ?_) ⟨?_, fun j d u hj hl hdj hu => ?_, fun t ht => ?_, fun vs hm => by rw [Act.put_defers]; exact (hfl.defs vs hm).mono (hx'.grow hi)⟩ hi' (hd.put _ _) (hx.trans hx')
        · rw [listed_set (by omega)] at hj ⊢
          rcases hj with rfl | hj
          · exact .inr (hed l he)
          · exact .inr (hdn j l hj he)
        · rw [listed_set (by omega)] at hl
          rcases hl with rfl | hl
          · omega
          · exact hno j hj hl
        · cases hod : o.dst <;> simp [Act.put, hfl.size]
        · have hg := hx'.grow hi
          rw [listed_set (by omega)] at hl
          by_cases hji : j = i
          · subst hji
            rw [hv] at hu; cases hu
            have hod : o.dst = some d := by simpa [dstOf, hol] using hdj
            rw [hod]
            rw [hod] at hdst
            simp only [Act.put]
            rw [getD_setIfInBounds (by rw [hfl.size]; exact blt_lt hdst), if_pos rfl]
            exact hv'
          · have hl' := hl.resolve_left hji
            have hold := (hfl.done j d u hj hl' hdj hu).mono hg
            cases hod : o.dst with
            | none => exact hold
            | some d' =>
              have hne : d' ≠ d := fun e => hji (huniq j i d hj him hdj (by subst e; simp [dstOf, hol, hod]))
              rw [hod] at hdst
              simp only [Act.put]
              rw [getD_setIfInBounds (by rw [hfl.size]; exact blt_lt hdst), if_neg hne]
              exact hold
        · have hg := hx'.grow hi
          have hold := (hfl.rest t (fun j hj hl => ht j hj ((listed_set (by omega)).2 (.inr hl)))).mono hg
          have hti := ht i him ((listed_set (by omega)).2 (.inl rfl))
          cases hod : o.dst with
          | none => exact hold
          | some d' =>
            have hne : d' ≠ t := fun e => hti (by subst e; simp [dstOf, hol, hod])
            rw [hod] at hdst
            simp only [Act.put]
            rw [getD_setIfInBounds (by rw [hfl.size]; exact blt_lt hdst), if_neg hne]
            exact hold
      unfold wpOp
      simp only [ho]
      rcases hst with ⟨hg, rfl, hσ⟩ | ⟨hg, hgo⟩
      · rw [guardA_wanted (cx := cx) hfr hg]
        simp only [Bool.false_eq_true, if_false]
        exact next r w undef (.tup rfl (fun i h => absurd h (by simp))) (by rw [hσ]; exact hi) (by rw [hσ]; exact Ext.refl _ _ _)
      · rw [guardA_wanted (cx := cx) hfr hg]
        simp only [if_true]
        refine .inl (Oper.wp_mono (fun a' w' h => ?_) (hgo r a w hi hfr Q'))
        obtain ⟨r', v', rfl, h2, h3, h4⟩ := h
        exact next r' w' v' h2 h3 h4
def noA : List Nat → Bool
  | [] => false
  | n :: _ => Nat.beq n 1000001
def aOpK (cx : Cx) (K : List Nat) (dst : Option Nat) (o : Op) (fr : Fr) (σ : Heap) : Option (List Prop × AV × Heap) := match noA K with
  | true => none
  | false => aOp cx [] dst o fr σ
theorem aOpK_some {cx : Cx} {K : List Nat} {dst : Option Nat} {o : Op} {fr : Fr} {σ : Heap} {y : List Prop × AV × Heap} (h : aOpK cx K dst o fr σ = some y) : aOp cx [] dst o fr σ = some y := by
  unfold aOpK at h
  split at h
  · cases h
  · exact h
def runC (cx : Cx) (K : List Nat) (n : Nat) (all : Array Oper) (ops : List Oper) (σ σ' : Heap) (jc : Nat) : List Oper → Nat → Fr → List AV → Option (List Prop × List AV × Fr)
  | [], _, fr, rs => some ([], [], fr)
  | o :: r, i, fr, rs => match Nat.beq i jc with
    | true => match rs with
      | v :: rs => match dstOk n o.dst with
        | true => match guardA all o K (restr ops o fr) with
          | some true => match callA cx (restr ops o fr) o.op with
            | some (f, args) => match runC cx K n all ops σ σ' jc r (i + 1) (setA o.dst v fr) rs with
              | some (D, vs, fr') => some ((∃ args', CallOk cx f args' σ (fun out σ1 => out = .ret v ∧ σ1 = σ') ∧ args = args') :: D, v :: vs, fr')
              | none => none
            | none => match aOpK cx K o.dst o.op (restr ops o fr) σ with
              | some (C', v', σ1) => match runC cx K n all ops σ σ' jc r (i + 1) (setA o.dst v fr) rs with
                | some (D, vs, fr') => some (C' ++ ((v' = v) :: (σ1 = σ') :: D), v :: vs, fr')
                | none => none
              | none => match runC cx K n all ops σ σ' jc r (i + 1) (setA o.dst v fr) rs with
                | some (D, vs, fr') => some ((OpSpec cx n (restr ops o fr) σ o v σ') :: D, v :: vs, fr')
                | none => none
          | _ => none
        | false => none
      | [] => none
    | false => match oneD cx K n all σ o (restr ops o fr) rs with
      | some (C, v, rs') => match oneD cx K n all σ' o (restr ops o fr) rs with
        | some (C', v', _) => forceV v fun v => match runC cx K n all ops σ σ' jc r (i + 1) (setA o.dst v fr) rs' with
          | some (D, vs, fr') => some (C ++ (C' ++ ((v' = v) :: D)), v :: vs, fr')
          | none => none
        | none => none
      | none => none
theorem callC_step {σ' : Heap} {K : List Nat} {all : Array Oper} {o : Oper} {f : FuncId} {args : List AV} {v : AV} (hd : dstOk n o.dst = true) (hg : guardA all o K fr = some true) (hc : callA cx fr o.op = some (f, args))
    (h : CallOk cx f args σ (fun out σ1 => out = .ret v ∧ σ1 = σ')) : StepX cx n all σ σ' K fr o v := by
  refine ⟨hd, .inr ⟨hg, fun r a w hi hf Q => ?_⟩⟩
  obtain ⟨vs, h1, h2⟩ := callA_run hi hf hc h.1
  unfold Oper.wp
  rw [h1, Oper.upon_enter]
  refine (h.2 r w vs hi h2).mono fun e w' ⟨out, σ1, r', ⟨ho, hσ⟩, hor, hi', hx'⟩ => ?_
  subst ho; subst hσ
  cases e with
  | returned u => exact ⟨r', u, rfl, hor, hi', hx'⟩
  | panicked chain => exact hor.elim
  | outgrown => exact hor.elim
theorem opC_step {σ' : Heap} {K : List Nat} {all : Array Oper} {o : Oper} {C : List Prop} {v : AV} (hd : dstOk n o.dst = true) (hg : guardA all o K fr = some true) (ha : aOp cx [] o.dst o.op fr σ = some (C, v, σ')) (hC : AllP C) : StepX cx n all σ σ' K fr o v := by
  refine ⟨hd, .inr ⟨hg, fun r a w hi hf Q => ?_⟩⟩
  obtain ⟨r', w', v', hrun, hv, hi', hx'⟩ := aOp_run hi hf ha hC
  unfold Oper.wp
  rcases hrun with hrun | ⟨hrun, hu⟩
  · rw [hrun]; exact ⟨r', v', rfl, hv, hi', hx'⟩
  · rw [hrun]; subst hu; exact ⟨r', _, rfl, hv, hi', hx'⟩
theorem specC_step {σ' : Heap} {K : List Nat} {all : Array Oper} {o : Oper} {v : AV} (hd : dstOk n o.dst = true) (hg : guardA all o K fr = some true) (h : OpSpec cx n fr σ o v σ') : StepX cx n all σ σ' K fr o v := by
  refine ⟨hd, .inr ⟨hg, fun r a w hi hf Q => ?_⟩⟩
  obtain ⟨r', w', v', hrun, hv, hi', hx'⟩ := h r a w hi hf
  unfold Oper.wp
  rcases hrun with hrun | ⟨hrun, hu⟩
  · rw [hrun]; exact ⟨r', v', rfl, hv, hi', hx'⟩
  · rw [hrun]; subst hu; exact ⟨r', _, rfl, hv, hi', hx'⟩
theorem runC_spec {σ' : Heap} {jc : Nat} {K : List Nat} {all : Array Oper} {ops : List Oper} : ∀ {l : List Oper} {i : Nat} {fr fr' : Fr} {rs vals : List AV} {C : List Prop}, runC cx K n all ops σ σ' jc l i fr rs = some (C, vals, fr') → AllP C →
    vals.length = l.length ∧ fr' = ovl l vals fr ∧ ∀ (j : Nat) (o : Oper) (v : AV), l[j]? = some o → vals[j]? = some v →
      (i + j ≠ jc → ∀ b : Bool, StepX cx n all (bif b then σ' else σ) (bif b then σ' else σ) K (restr ops o (ovl (l.take j) (vals.take j) fr)) o v) ∧ (i + j = jc → StepX cx n all σ σ' K (restr ops o (ovl (l.take j) (vals.take j) fr)) o v)
  | [], i, fr, fr', rs, vals, C, h, hC => by
    simp only [runC, Option.some.injEq, Prod.mk.injEq] at h
    obtain ⟨rfl, rfl, rfl⟩ := h
    exact ⟨rfl, rfl, fun j o v h => by simp at h⟩
  | o :: l, i, fr, fr', rs, vals, C, h, hC => by
    simp only [runC] at h
    split at h
    · rename_i hb
      have hij : i = jc := Nat.eq_of_beq_eq_true hb
      split at h
      case h_2 => cases h
      rename_i v rs'
      split at h
      case h_2 => cases h
      rename_i hds
      split at h
      case h_2 => cases h
      rename_i hg
      split at h
      case h_2 =>
        split at h
        case h_2 =>
          split at h
          case h_2 => cases h
          rename_i D vs fr1 h2
          simp only [Option.some.injEq, Prod.mk.injEq] at h
          obtain ⟨rfl, rfl, rfl⟩ := h
          obtain ⟨hsp, hD⟩ := hC
          obtain ⟨k1, k2, k3⟩ := runC_spec h2 hD
          refine ⟨by simp [k1], by rw [k2]; rfl, fun j oj vj hj hvj => ?_⟩
          cases j with
          | zero =>
            simp only [List.getElem?_cons_zero, Option.some.injEq] at hj hvj
            subst hj; subst hvj
            exact ⟨fun h => absurd hij h, fun _ => specC_step hds hg hsp⟩
          | succ j =>
            simp only [List.getElem?_cons_succ] at hj hvj
            have := k3 j oj vj hj hvj
            rw [show i + 1 + j = i + (j + 1) by omega] at this
            exact this
        rename_i C' v' σ1 ha
        have ha := aOpK_some ha
        split at h
        case h_2 => cases h
        rename_i D vs fr1 h2
        simp only [Option.some.injEq, Prod.mk.injEq] at h
        obtain ⟨rfl, rfl, rfl⟩ := h
        obtain ⟨hC', hv, hσ, hD⟩ := AllP_append hC
        subst hv; subst hσ
        obtain ⟨k1, k2, k3⟩ := runC_spec h2 hD
        refine ⟨by simp [k1], by rw [k2]; rfl, fun j oj vj hj hvj => ?_⟩
        cases j with
        | zero =>
          simp only [List.getElem?_cons_zero, Option.some.injEq] at hj hvj
          subst hj; subst hvj
          exact ⟨fun h => absurd hij h, fun _ => opC_step hds hg ha hC'⟩
        | succ j =>
          simp only [List.getElem?_cons_succ] at hj hvj
          have := k3 j oj vj hj hvj
          rw [show i + 1 + j = i + (j + 1) by omega] at this
          exact this
      rename_i f args hc
      split at h
      case h_2 => cases h
      rename_i D vs fr1 h2
      simp only [Option.some.injEq, Prod.mk.injEq] at h
      obtain ⟨rfl, rfl, rfl⟩ := h
      obtain ⟨⟨args', hcall, rfl⟩, hD⟩ := hC
      obtain ⟨k1, k2, k3⟩ := runC_spec h2 hD
      refine ⟨by simp [k1], by rw [k2]; rfl, fun j oj vj hj hvj => ?_⟩
      cases j with
      | zero =>
        simp only [List.getElem?_cons_zero, Option.some.injEq] at hj hvj
        subst hj; subst hvj
        exact ⟨fun h => absurd hij h, fun _ => callC_step hds hg hc hcall⟩
      | succ j =>
        simp only [List.getElem?_cons_succ] at hj hvj
        have := k3 j oj vj hj hvj
        rw [show i + 1 + j = i + (j + 1) by omega] at this
        exact this
    · rename_i hb
      have hij : i ≠ jc := fun e => by rw [e, Nat.beq_refl] at hb; cases hb
      split at h
      case h_2 => cases h
      rename_i C1 v rs' h1
      split at h
      case h_2 => cases h
      rename_i C1' v' _ h1'
      rw [forceV_eq] at h
      split at h
      case h_2 => cases h
      rename_i D vs fr1 h2
      simp only [Option.some.injEq, Prod.mk.injEq] at h
      obtain ⟨rfl, rfl, rfl⟩ := h
      obtain ⟨hC1, hD1⟩ := AllP_append hC
      obtain ⟨hC1', hD2⟩ := AllP_append hD1
      obtain ⟨hv, hD⟩ := hD2
      subst hv
      obtain ⟨k1, k2, k3⟩ := runC_spec h2 hD
      refine ⟨by simp [k1], by rw [k2]; rfl, fun j oj vj hj hvj => ?_⟩
      cases j with
      | zero =>
        simp only [List.getElem?_cons_zero, Option.some.injEq] at hj hvj
        subst hj; subst hvj
        refine ⟨fun _ b => ?_, fun h => absurd h hij⟩
        cases b with
        | true => exact (oneD_spec h1' hC1').x
        | false => exact (oneD_spec h1 hC1).x
      | succ j =>
        simp only [List.getElem?_cons_succ] at hj hvj
        have := k3 j oj vj hj hvj
        rw [show i + 1 + j = i + (j + 1) by omega] at this
        exact this
theorem S_drawC {id : Nat} (σ' : Heap) (jc : Nat) {ops : Array Oper} {vals : List AV} {C : List Prop} {fr' : Fr} (m : Nat) (K : List Nat) (rs : List AV) (hP : cx.P.follows .mixedOrders = true) (hchk : drawOk ops.toList m = true) (hmN : Nat.ble m ops.size = true) (hjc : Nat.blt jc m = true)
    (hrun : runC cx K n ops ops.toList σ σ' jc (ops.toList.take m) 0 fr rs = some (C, vals, fr')) (hC : AllP C)
    (hk : S cx n B (.ops ops (ops.toList.drop m) [] :: k) Q fr' σ') : S cx n B (.code (.region id ops true) :: k) Q fr σ := by
  intro r a w hi hf hd hx
  obtain ⟨c1, c2, c3, c4, c5⟩ := drawOk_spec hchk
  obtain ⟨k1, k2, k3⟩ := runC_spec hrun hC
  have hmN' := Nat.le_of_ble_eq_true hmN
  have hlen : vals.length = m := by rw [k1]; simp; omega
  obtain ⟨hi1, hx1⟩ := hi.heap_eq (w' := { w with drawn := w.drawn + 1 }) rfl rfl rfl rfl
  have hf1 := hf.mono (hx1.grow hi)
  have nl : ∀ {j : Nat}, ¬ Listed (Array.replicate ops.size false) j := by
    intro j hj
    unfold Listed at hj
    rw [Array.getD_eq_getD_getElem?, Array.getElem?_replicate] at hj
    split at hj <;> simp at hj
  have h0 : hpC σ σ' jc (Array.replicate ops.size false) = σ := hpC_out (by
    cases hb : (Array.replicate ops.size false).getD jc false with
    | false => rfl
    | true => exact absurd hb nl)
  refine wp_region_any hP ?_
  refine wpAny_frontC (σ' := σ') (jc := jc) (cx := cx) (n := n) (B := B) (fr := fr) (σ := σ) (m := m) (vals := vals) (K := K) (blt_lt hjc) hmN' hlen c1 c2 c3 c4 c5 (fun j o v hj ho hv => ?_) (fun r a w hi hf hd hx => ?_) ops.size _ r a _ (by simp) ?_ (fun j i hj => ?_) (fun j _ => ?_) ⟨hf1.size, fun j d v _ hj => ?_, fun t _ => hf1.get t, hf1.defs⟩ (by rw [h0]; exact hi1) hd (by rw [h0]; exact hx.trans hx1)
  · have h := k3 j o v (by rw [List.getElem?_take_of_lt hj]; exact ho) hv
    rw [List.take_take, Nat.min_eq_left (by omega), Nat.zero_add] at h
    exact h
  · rw [k2] at hk
    exact hk r a w hi hf hd hx
  · unfold unl; simp [List.countP_replicate]
  · exact absurd hj nl
  · exact nl
  · exact absurd hj nl
def normC (x : Option (List Prop × List AV × Fr)) : Option (List Prop × List AV × Fr) := match x with
  | some (C, v, f) => forceL C fun C => some (C, v, f)
  | none => none
theorem normC_eq (x : Option (List Prop × List AV × Fr)) : normC x = x := by
  unfold normC
  split
  · rw [forceL_eq]
  · rfl
theorem S_drawCN {id : Nat} (σ' : Heap) (jc : Nat) {ops : Array Oper} {vals : List AV} {C : List Prop} {fr' : Fr} (m : Nat) (K : List Nat) (rs : List AV) (hP : cx.P.follows .mixedOrders = true) (hchk : drawOk ops.toList m = true) (hmN : Nat.ble m ops.size = true) (hjc : Nat.blt jc m = true)
    (hrun : normC (runC cx K n ops ops.toList σ σ' jc (ops.toList.take m) 0 fr rs) = some (C, vals, fr')) (hC : AllP C)
    (hk : S cx n B (.ops ops (ops.toList.drop m) [] :: k) Q fr' σ') : S cx n B (.code (.region id ops true) :: k) Q fr σ :=
  S_drawC σ' jc m K rs hP hchk hmN hjc (by rw [← normC_eq (runC cx K n ops ops.toList σ σ' jc (ops.toList.take m) 0 fr rs)]; exact hrun) hC hk
end
end Go.Ab
end
section
set_option linter.unusedVariables false
set_option linter.unusedSimpArgs false
namespace Go.Ab
open Go
theorem AllP_cons {p : Prop} {r : List Prop} (h : p) (hr : AllP r) : AllP (p :: r) := ⟨h, hr⟩
theorem aC {p : Prop} (h : p := by first | exact trivial | assumption | omega | rfl | exact decide_eq_true (by omega) | exact decide_eq_false (by omega) | (rw [IntWalk.i64_in _ ⟨by omega, by omega⟩]; omega) | exact allOne_mem rfl | exact Nat.le_of_ble_eq_true rfl | (simp only [List.length_cons, List.length_nil]; omega)) : p := h
theorem fl {p : Prop} (h : p := by (simp only [List.length_append, List.length_cons, List.length_nil, List.flatten_append, List.flatten_cons, List.flatten_nil, List.append_nil] at * <;> omega)) : p := h
inductive Ht where
  | k (x : AV)
  | v (x : AV)
  | c (x : AV) (σ : Heap)
  | b (t : Bool)
  | f (x : AV) (g : Heap → Heap)
  | d (jc m : Nat) (K : List Nat) (g : Heap → Heap) (rs : List AV)
  | o (x : AV) (g : Heap → Heap)
  | s
def stopH : List Ht → Bool
  | .s :: _ => true
  | _ => false
def chgOp : Op → Bool
  | .alloc _ => true
  | .box .. => true
  | .store .. => true
  | .makeSlice .. => true
  | .range .. => true
  | .makeMap .. => true
  | .mapUpdate .. => true
  | .mapEntry .. => true
  | .entryStore .. => true
  | .next .. => true
  | .call { callee := .builtin b, .. } => match b with
    | .append | .copy | .delete | .clear => true
    | _ => false
  | _ => false
def outH : List Ht → Option (AV × (Heap → Heap) × List Ht)
  | .o x g :: hs => some (x, g, hs)
  | _ => none
def isGuard (ops : List Oper) (i : Nat) : Bool := match ops with
  | [] => false
  | o :: r => match o.guard with
    | some (j, _) => Nat.beq i j || isGuard r i
    | none => isGuard r i
def guardKs (ops : List Oper) : List Oper → List Nat
  | [] => []
  | o :: r => match o.guard with
    | some (j, _) => match dstOf ops j with
      | some d => d :: guardKs ops r
      | none => guardKs ops r
    | none => guardKs ops r
def rsOf : List Ht → List AV
  | .v r :: _ => [r]
  | _ => []
def tailIf (hs : List Ht) (rs' : List AV) : List Ht := match rs' with
  | [] => match hs with
    | .v _ :: hs => hs
    | hs => hs
  | _ :: _ => hs
section
variable {cx : Cx} {n : Nat} {B : Bs} {k : List AI} {Q : Post} {fr : Fr} {σ : Heap}
def plainOp : Op → Bool
  | .call _ => false
  | .indexAddr .. => false
  | _ => true
def oneH (cx : Cx) (K : List Nat) (n : Nat) (all : Array Oper) (σ : Heap) (o : Oper) (fr : Fr) (hs : List Ht) : Option (List Prop × AV × List Ht) :=
  match chgOp o.op with
  | true => none
  | false => match plainOp o.op with
    | true => match dstOk n o.dst with
      | true => match guardA all o K fr with
        | some true => match aPure cx o.op fr σ with
          | some (C, v) => some (C, v, hs)
          | none => match oneD cx K n all σ o fr (rsOf hs) with
            | some (C, v, rs') => some (C, v, tailIf hs rs')
            | none => none
        | some false => some ([], .tup [], hs)
        | none => none
      | false => none
    | false => match hs with
      | .k x :: hs => match dstOk n o.dst with
        | true => match guardA all o K fr with
          | some true => match callA cx fr o.op with
            | some (f, args) => some ([CallOk cx f args σ (fun e s => e = .ret x ∧ s = σ)], x, hs)
            | none => none
          | some false => some ([], .tup [], .k x :: hs)
          | none => none
        | false => none
      | hs => match oneD cx K n all σ o fr (rsOf hs) with
        | some (C, v, rs') => some (C, v, tailIf hs rs')
        | none => none
theorem oneH_spec {K : List Nat} {all : Array Oper} {o : Oper} {fr : Fr} {hs hs' : List Ht} {C : List Prop} {v : AV} (h : oneH cx K n all σ o fr hs = some (C, v, hs')) (hC : AllP C) : StepD cx n all σ K fr o v := by
  unfold oneH at h
  have key : ∀ {x : Option (List Prop × AV × List Ht)}, (x = match oneD cx K n all σ o fr (rsOf hs) with | some (C, v, rs') => some (C, v, tailIf hs rs') | none => none) → x = some (C, v, hs') → StepD cx n all σ K fr o v := by
    intro x hx h1
    rw [h1] at hx
    split at hx
    · rename_i C' v' rs' hd
      simp only [Option.some.injEq, Prod.mk.injEq] at hx
      obtain ⟨rfl, rfl, rfl⟩ := hx
      exact oneD_spec hd hC
    · cases hx
  split at h
  · cases h
  split at h
  · split at h
    · rename_i hdst
      split at h
      · rename_i hg
        split at h
        · rename_i C' v' hp
          simp only [Option.some.injEq, Prod.mk.injEq] at h
          obtain ⟨rfl, rfl, rfl⟩ := h
          refine ⟨hdst, .inr ⟨hg, fun r a w hi hf Q => ?_⟩⟩
          obtain ⟨u, h1, h2⟩ := aPure_run hi hf hp hC
          unfold Oper.wp
          rw [h1]
          exact ⟨r, u, rfl, h2, hi, Ext.refl r σ w⟩
        · exact key rfl h
      · rename_i hg
        simp only [Option.some.injEq, Prod.mk.injEq] at h
        obtain ⟨rfl, rfl, rfl⟩ := h
        exact ⟨hdst, .inl ⟨hg, rfl⟩⟩
      · cases h
    · cases h
  · split at h
    · rename_i x hs1
      split at h
      · rename_i hdst
        split at h
        · rename_i hg
          split at h
          · rename_i f args hc
            simp only [Option.some.injEq, Prod.mk.injEq] at h
            obtain ⟨rfl, rfl, rfl⟩ := h
            refine ⟨hdst, .inr ⟨hg, fun r a w hi hf Q => ?_⟩⟩
            obtain ⟨vs, h1, h2⟩ := callA_run hi hf hc hC.1.1
            unfold Oper.wp
            rw [h1, Oper.upon_enter]
            refine (hC.1.2 r w vs hi h2).mono fun e w' ⟨out, σ', r1, ⟨ho, hσ'⟩, hor, hi1, hx1⟩ => ?_
            subst ho; subst hσ'
            cases e with
            | returned u => exact ⟨r1, u, rfl, hor, hi1, hx1⟩
            | panicked chain => exact hor.elim
            | outgrown => exact hor.elim
          · cases h
        · rename_i hg
          simp only [Option.some.injEq, Prod.mk.injEq] at h
          obtain ⟨rfl, rfl, rfl⟩ := h
          exact ⟨hdst, .inl ⟨hg, rfl⟩⟩
        · cases h
      · cases h
    · exact key rfl h
structure Hd where
  C : List Prop
  vals : List AV
  fr : Fr
  m : Nat
  hs : List Ht
def runH (cx : Cx) (K : List Nat) (n : Nat) (all : Array Oper) (ops : List Oper) (σ : Heap) : List Oper → Nat → Fr → List Ht → Hd
  | [], i, fr, hs => ⟨[], [], fr, i, hs⟩
  | o :: r, i, fr, hs => match oneH cx K n all σ o (restr ops o fr) hs with
    | none => ⟨[], [], fr, i, hs⟩
    | some (C, v, hs') => match isGuard ops i with
      | false => forceV v fun v => match runH cx K n all ops σ r (i + 1) (setA o.dst v fr) hs' with
        | ⟨D, vs, fr', m, hs''⟩ => ⟨C ++ D, v :: vs, fr', m, hs''⟩
      | true => match v with
        | .bool b => match hs' with
          | .b t :: hs' => match runH cx K n all ops σ r (i + 1) (setA o.dst (.bool t) fr) hs' with
            | ⟨D, vs, fr', m, hs''⟩ => ⟨C ++ ((b = t) :: D), .bool t :: vs, fr', m, hs''⟩
          | _ => ⟨[], [], fr, i, hs⟩
        | .tup us => match runH cx K n all ops σ r (i + 1) (setA o.dst (.tup us) fr) hs' with
          | ⟨D, vs, fr', m, hs''⟩ => ⟨C ++ D, .tup us :: vs, fr', m, hs''⟩
        | _ => ⟨[], [], fr, i, hs⟩
def runHK {α : Type} (cx : Cx) (K : List Nat) (n : Nat) (all : Array Oper) (ops : List Oper) (σ : Heap) : List Oper → Nat → Fr → List Ht → (List Prop → List AV → Fr → Nat → List Ht → α) → α
  | [], i, fr, hs, c => c [] [] fr i hs
  | o :: r, i, fr, hs, c => match oneH cx K n all σ o (restr ops o fr) hs with
    | none => c [] [] fr i hs
    | some (C, v, hs') => match isGuard ops i with
      | false => forceV v fun v => runHK cx K n all ops σ r (i + 1) (setA o.dst v fr) hs' fun D vs fr' m hs'' => c (C ++ D) (v :: vs) fr' m hs''
      | true => match v with
        | .bool b => match hs' with
          | .b t :: hs' => runHK cx K n all ops σ r (i + 1) (setA o.dst (.bool t) fr) hs' fun D vs fr' m hs'' => c (C ++ ((b = t) :: D)) (.bool t :: vs) fr' m hs''
          | _ => c [] [] fr i hs
        | .tup us => runHK cx K n all ops σ r (i + 1) (setA o.dst (.tup us) fr) hs' fun D vs fr' m hs'' => c (C ++ D) (.tup us :: vs) fr' m hs''
        | _ => c [] [] fr i hs
theorem runHK_eq {α : Type} {K : List Nat} {all : Array Oper} {ops : List Oper} : ∀ (l : List Oper) (i : Nat) (fr : Fr) (hs : List Ht) (c : List Prop → List AV → Fr → Nat → List Ht → α),
    runHK cx K n all ops σ l i fr hs c = c (runH cx K n all ops σ l i fr hs).C (runH cx K n all ops σ l i fr hs).vals (runH cx K n all ops σ l i fr hs).fr (runH cx K n all ops σ l i fr hs).m (runH cx K n all ops σ l i fr hs).hs
  | [], i, fr, hs, c => rfl
  | o :: l, i, fr, hs, c => by
    unfold runHK runH
    split
    · rfl
    · split
      · simp only [forceV_eq]
        rw [runHK_eq l]
      · split
        · split
          · rw [runHK_eq l]
          · rfl
        · rw [runHK_eq l]
        · rfl
def HdOk (cx : Cx) (K : List Nat) (n : Nat) (all : Array Oper) (ops : List Oper) (σ : Heap) (l : List Oper) (i : Nat) (fr : Fr) (H : Hd) : Prop :=
  i ≤ H.m ∧ H.m - i ≤ l.length ∧ H.vals.length = H.m - i ∧ H.fr = ovl (l.take (H.m - i)) H.vals fr ∧
    ∀ (j : Nat) (o : Oper) (v : AV), j < H.m - i → l[j]? = some o → H.vals[j]? = some v → StepD cx n all σ K (restr ops o (ovl (l.take j) (H.vals.take j) fr)) o v
theorem HdOk.stop {K : List Nat} {all : Array Oper} {ops l : List Oper} {i : Nat} {fr : Fr} {hs : List Ht} : HdOk cx K n all ops σ l i fr ⟨[], [], fr, i, hs⟩ := by
  refine ⟨Nat.le_refl _, ?_, ?_, ?_, fun j o v h => ?_⟩
  · show i - i ≤ _; omega
  · show 0 = i - i; omega
  · show fr = ovl (l.take (i - i)) [] fr
    rw [Nat.sub_self]; rfl
  · exfalso; have h : j < i - i := h; omega
theorem HdOk.cons {K : List Nat} {all : Array Oper} {ops l : List Oper} {o : Oper} {i : Nat} {fr fr1 : Fr} {v : AV} {D E : List Prop} {vs : List AV} {m : Nat} {hs : List Ht}
    (h1 : StepD cx n all σ K (restr ops o fr) o v) (h : HdOk cx K n all ops σ l (i + 1) (setA o.dst v fr) ⟨D, vs, fr1, m, hs⟩) : HdOk cx K n all ops σ (o :: l) i fr ⟨E, v :: vs, fr1, m, hs⟩ := by
  obtain ⟨k1, k2, k3, k4, k5⟩ := h
  have k1 : i + 1 ≤ m := k1
  have k2 : m - (i + 1) ≤ l.length := k2
  have k3 : vs.length = m - (i + 1) := k3
  have k4 : fr1 = ovl (l.take (m - (i + 1))) vs (setA o.dst v fr) := k4
  have e : m - i = (m - (i + 1)) + 1 := by omega
  refine ⟨?_, ?_, ?_, ?_, fun j oj vj hj ho hv => ?_⟩
  · show i ≤ m; omega
  · show m - i ≤ l.length + 1; omega
  · show vs.length + 1 = m - i; omega
  · show fr1 = ovl ((o :: l).take (m - i)) (v :: vs) fr
    rw [e, List.take_succ_cons, k4]; rfl
  · have hj : j < m - i := hj
    cases j with
    | zero =>
      have ho : some o = some oj := ho
      have hv : some v = some vj := hv
      cases ho; cases hv
      exact h1
    | succ j => exact k5 j oj vj (by show j < m - (i + 1); omega) ho hv
theorem runH_spec {K : List Nat} {all : Array Oper} {ops : List Oper} : ∀ (l : List Oper) (i : Nat) (fr : Fr) (hs : List Ht), AllP (runH cx K n all ops σ l i fr hs).C → HdOk cx K n all ops σ l i fr (runH cx K n all ops σ l i fr hs)
  | [], i, fr, hs, _ => HdOk.stop
  | o :: l, i, fr, hs, hC => by
    unfold runH at hC ⊢
    split at hC
    · exact HdOk.stop
    · rename_i C v hs' h1
      split at hC
      · simp only [forceV_eq] at hC ⊢
        have ih := runH_spec (K := K) (all := all) (ops := ops) l (i + 1) (setA o.dst v fr) hs'
        generalize runH cx K n all ops σ l (i + 1) (setA o.dst v fr) hs' = H at hC ih ⊢
        obtain ⟨D, vs, fr', m, hs''⟩ := H
        obtain ⟨hC1, hC2⟩ := AllP_append hC
        exact HdOk.cons (oneH_spec h1 hC1) (ih hC2)
      · split at hC
        · rename_i b
          split at hC
          · rename_i t hs1
            have ih := runH_spec (K := K) (all := all) (ops := ops) l (i + 1) (setA o.dst (.bool t) fr) hs1
            generalize runH cx K n all ops σ l (i + 1) (setA o.dst (.bool t) fr) hs1 = H at hC ih ⊢
            obtain ⟨D, vs, fr', m, hs''⟩ := H
            obtain ⟨hC1, hb, hC2⟩ := AllP_append hC
            subst hb
            exact HdOk.cons (oneH_spec h1 hC1) (ih hC2)
          · exact HdOk.stop
        · rename_i us
          have ih := runH_spec (K := K) (all := all) (ops := ops) l (i + 1) (setA o.dst (.tup us) fr) hs'
          generalize runH cx K n all ops σ l (i + 1) (setA o.dst (.tup us) fr) hs' = H at hC ih ⊢
          obtain ⟨D, vs, fr', m, hs''⟩ := H
          obtain ⟨hC1, hC2⟩ := AllP_append hC
          exact HdOk.cons (oneH_spec h1 hC1) (ih hC2)
        · exact HdOk.stop
theorem S_drawH {id : Nat} {ops : Array Oper} (K : List Nat) (H : Hd) (hs : List Ht) (hP : cx.P.follows .mixedOrders = true) (hrun : runH cx K n ops ops.toList σ ops.toList 0 fr hs = H) (hchk : drawOk ops.toList H.m = true) (hC : AllP H.C)
    (hk : S cx n B (.ops ops (ops.toList.drop H.m) [] :: k) Q H.fr σ) : S cx n B (.code (.region id ops true) :: k) Q fr σ := by
  intro r a w hi hf hd hx
  subst hrun
  have hspec := runH_spec (K := K) (all := ops) (ops := ops.toList) (n := n) (cx := cx) (σ := σ) ops.toList 0 fr hs hC
  generalize runH cx K n ops ops.toList σ ops.toList 0 fr hs = H at hspec hchk hC hk
  obtain ⟨C, vals, fr', m, hs'⟩ := H
  obtain ⟨_, k2, k3, k4, k5⟩ := hspec
  simp only [Nat.sub_zero] at k2 k3 k4 k5 hchk hk
  obtain ⟨c1, c2, c3, c4, c5⟩ := drawOk_spec hchk
  obtain ⟨hi1, hx1⟩ := hi.heap_eq (w' := { w with drawn := w.drawn + 1 }) rfl rfl rfl rfl
  have hf1 := hf.mono (hx1.grow hi)
  have nl : ∀ {j : Nat}, ¬ Listed (Array.replicate ops.size false) j := by
    intro j hj
    unfold Listed at hj
    rw [Array.getD_eq_getD_getElem?, Array.getElem?_replicate] at hj
    split at hj <;> simp at hj
  refine wp_region_any hP ?_
  refine wpAny_front (cx := cx) (n := n) (B := B) (fr := fr) (σ := σ) (m := m) (vals := vals) (K := K) (by simpa using k2) k3 c1 c2 c3 c4 c5 (fun j o v hj ho hv => ?_) (fun r a w hi hf hd hx => ?_) ops.size _ r a _ (by simp) ?_ (fun j i hj => ?_) (fun j _ => ?_) ⟨hf1.size, fun j d v _ hj => ?_, fun t _ => hf1.get t, hf1.defs⟩ hi1 hd (hx.trans hx1)
  · exact k5 j o v hj ho hv
  · rw [k4] at hk
    exact hk r a w hi hf hd hx
  · unfold unl; simp [List.countP_replicate]
  · exact absurd hj nl
  · exact nl
  · exact absurd hj nl
def newOp (o : Op) : Bool := match o with
  | .buildSlice .. => true
  | .convert .. => true
  | o => chgOp o
def noF : List Nat → Bool
  | [] => false
  | n :: _ => Nat.beq n 1000000
def opqM : List Nat → Bool
  | _ :: n :: _ => Nat.beq n 1000000
  | _ => false
def heapOp : Op → Bool
  | .load .. => true
  | .store .. => true
  | .alloc .. => true
  | .box .. => true
  | .makeSlice .. => true
  | .call { callee := .builtin b, .. } => match b with
    | .append | .copy => true
    | _ => false
  | _ => false
def stopM (M : List Nat) (o : Op) : Bool := match opqM M with
  | true => heapOp o || stopOp o
  | false => stopOp o
def forceM {α : Type} (M : List Nat) (σ : Heap) (c : Heap → α) : α := match noF M with
  | true => c σ
  | false => forceL σ c
theorem forceM_eq {α : Type} (M : List Nat) (σ : Heap) (c : Heap → α) : forceM M σ c = c σ := by unfold forceM; split <;> simp [forceL_eq]
def forceIfM {α : Type} (M : List Nat) (b : Bool) (σ : Heap) (c : Heap → α) : α := match b with
  | true => forceM M σ c
  | false => c σ
theorem forceIfM_eq {α : Type} (M : List Nat) (b : Bool) (σ : Heap) (c : Heap → α) : forceIfM M b σ c = c σ := by cases b <;> simp [forceIfM, forceM_eq]
structure Rp where
  C : List Prop
  todo : List AI
  fr : Fr
  σ : Heap
  hs : List Ht
def revL {α β : Type} : List α → List α → (List α → β) → β
  | [], a, c => c a
  | x :: r, a, c => revL r (x :: a) c
theorem revL_eq {α β : Type} : ∀ (l a : List α) (c : List α → β), revL l a c = c (l.reverse ++ a)
  | [], a, c => rfl
  | x :: r, a, c => by rw [revL, revL_eq r]; simp
def halt (C : List Prop) (k : List AI) (fr : Fr) (σ : Heap) (hs : List Ht) : Rp := revL C [] fun C => ⟨C, k, fr, σ, hs⟩
theorem halt_eq (C : List Prop) (k : List AI) (fr : Fr) (σ : Heap) (hs : List Ht) : halt C k fr σ hs = ⟨C.reverse, k, fr, σ, hs⟩ := by rw [halt, revL_eq, List.append_nil]
def gdSlot (all : Array Oper) (o : Oper) (fr : Fr) : Option (Nat × Bool) :=
  match o.guard with
  | some (j, _) => match all[j]? with
    | some oj => match oj.dst with
      | some d => match fr.get d with
        | .bool b => some (d, b)
        | _ => none
      | none => none
    | none => none
  | none => none
def runP (cx : Cx) (M : List Nat) (n : Nat) : Nat → List Prop → List Ht → List AI → Fr → Heap → Rp
  | 0, C, hs, k, fr, σ => halt C k fr σ hs
  | f + 1, C, hs, k, fr, σ =>
    match k with
    | [] => halt C [] fr σ hs
    | .code c :: k => match c with
      | .skip => runP cx M n f C hs k fr σ
      | .label _ => runP cx M n f C hs k fr σ
      | .seq a b => runP cx M n f C hs (.code a :: .code b :: k) fr σ
      | .block id c => runP cx M n f C hs (.code c :: .blk id :: k) fr σ
      | .region id ops draw => match draw with
        | false => runP cx M n f C hs (.ops ops ops.toList [] :: k) fr σ
        | true => match hs with
          | .d jc m K g rs :: hs' => match Nat.ble m ops.size with
            | true => match Nat.blt jc m with
              | true => match drawOk ops.toList m with
                | true => forceM M (g σ) fun σ1 => match normC (runC cx K n ops ops.toList σ σ1 jc (ops.toList.take m) 0 fr rs) with
                  | some (D, vals, fr') => forceL fr' fun fr' => pushAll D ((cx.P.follows .mixedOrders = true) :: C) fun C => runP cx M n f C hs' (.ops ops (ops.toList.drop m) [] :: k) fr' σ1
                  | none => halt C (.code (.region id ops true) :: k) fr σ hs
                | false => halt C (.code (.region id ops true) :: k) fr σ hs
              | false => halt C (.code (.region id ops true) :: k) fr σ hs
            | false => halt C (.code (.region id ops true) :: k) fr σ hs
          | hs => match opqM M with
           | true => halt C (.code (.region id ops true) :: k) fr σ hs
           | false => runHK cx (guardKs ops.toList ops.toList) n ops ops.toList σ ops.toList 0 fr hs fun D vals fr' m hs' => match drawOk ops.toList m with
            | true => pushAll D ((cx.P.follows .mixedOrders = true) :: C) fun C => runP cx M n f C hs' (.ops ops (ops.toList.drop m) [] :: k) fr' σ
            | false => halt C (.code (.region id ops true) :: k) fr σ hs
      | .exit id => match popTo id k with
        | some k' => runP cx M n f C hs k' fr σ
        | none => halt C (.code (.exit id) :: k) fr σ hs
      | .cond c x y => match hs with
        | .b t :: hs' => match ev cx fr c with
          | .bool b => match t with
            | true => runP cx M n f ((b = true) :: C) hs' (.code x :: k) fr σ
            | false => runP cx M n f ((b = false) :: C) hs' (.code y :: k) fr σ
          | _ => halt C (.code (.cond c x y) :: k) fr σ hs
        | _ => halt C (.code (.cond c x y) :: k) fr σ hs
      | c => halt C (.code c :: k) fr σ hs
    | .blk _ :: k => runP cx M n f C hs k fr σ
    | .inv I :: k => halt C (.inv I :: k) fr σ hs
    | .ops all l K :: k => match l with
      | [] => runP cx M n f C hs k fr σ
      | o :: r => match stopH hs with
       | true => halt C (.ops all (o :: r) K :: k) fr σ hs
       | false => match dstOk n o.dst with
        | false => halt C (.ops all (o :: r) K :: k) fr σ hs
        | true => match guardA all o K fr with
          | none => match hs with
            | .b t :: hs' => match gdSlot all o fr with
              | some (d, b) => runP cx M n f ((b = t) :: C) hs' (.ops all (o :: r) (d :: K) :: k) ((d, .bool t) :: fr) σ
              | none => halt C (.ops all (o :: r) K :: k) fr σ hs
            | _ => halt C (.ops all (o :: r) K :: k) fr σ hs
          | some false => setC o.dst (.tup []) fr fun fr => runP cx M n f C hs (.ops all r K :: k) fr σ
          | some true => match outH hs with
           | some (x, g, hs') => forceM M (g σ) fun σ' => runP cx M n f ((OpSpec cx n fr σ o x (g σ)) :: C) hs' (.ops all r K :: k) (setA o.dst x fr) σ'
           | none => match callA cx fr o.op with
            | some (g, args) => match hs with
              | .v x :: hs' => setC o.dst x fr fun fr => runP cx M n f ((∃ args', Calc cx g args' x ∧ Frzs σ args args') :: C) hs' (.ops all r K :: k) fr σ
              | .k x :: hs' => setC o.dst x fr fun fr => runP cx M n f (CallOk cx g args σ (fun e s => e = .ret x ∧ s = σ) :: C) hs' (.ops all r K :: k) fr σ
              | .f x g' :: hs' => setC o.dst x fr fun fr => forceM M (g' σ) fun σ' => runP cx M n f (CallOk cx g args σ (fun e s => e = .ret x ∧ s = g' σ) :: C) hs' (.ops all r K :: k) fr σ'
              | .c x σ' :: hs' => setC o.dst x fr fun fr => runP cx M n f (CallOk cx g args σ (fun e s => e = .ret x ∧ s = σ') :: C) hs' (.ops all r K :: k) fr σ'
              | _ => halt C (.ops all (o :: r) K :: k) fr σ hs
            | none => match stopM M o.op with
              | false => match aOp cx M o.dst o.op fr σ with
                | some (D, v, σ') => pushAll D C fun C => forceV v fun v => forceIfM M (newOp o.op) σ' fun σ' => setC o.dst v fr fun fr => runP cx M n f C hs (.ops all r K :: k) fr σ'
                | none => match storeA cx fr σ o.op with
                  | some (D, σ') => pushAll D C fun C => forceM M σ' fun σ' => setC o.dst (.tup []) fr fun fr => runP cx M n f C hs (.ops all r K :: k) fr σ'
                  | none => match hs with
                    | .v x :: hs' => match loadA cx fr σ o.op x with
                      | some D => pushAll D C fun C => setC o.dst x fr fun fr => runP cx M n f C hs' (.ops all r K :: k) fr σ
                      | none => runP cx M n f ((OpSpec cx n fr σ o x σ) :: C) hs' (.ops all r K :: k) (setA o.dst x fr) σ
                    | .f x g :: hs' => forceM M (g σ) fun σ' => runP cx M n f ((OpSpec cx n fr σ o x (g σ)) :: C) hs' (.ops all r K :: k) (setA o.dst x fr) σ'
                    | _ => halt C (.ops all (o :: r) K :: k) fr σ hs
              | true => match hs with
                | .v x :: hs' => match idxA cx fr σ o.op x with
                  | some (D, v) => pushAll D C fun C => forceV v fun v => setC o.dst v fr fun fr => runP cx M n f C hs' (.ops all r K :: k) fr σ
                  | none => runP cx M n f ((OpSpec cx n fr σ o x σ) :: C) hs' (.ops all r K :: k) (setA o.dst x fr) σ
                | .f x g :: hs' => forceM M (g σ) fun σ' => runP cx M n f ((OpSpec cx n fr σ o x (g σ)) :: C) hs' (.ops all r K :: k) (setA o.dst x fr) σ'
                | _ => halt C (.ops all (o :: r) K :: k) fr σ hs
theorem gdSlot_some {all : Array Oper} {o : Oper} {fr : Fr} {d : Nat} {b : Bool} (h : gdSlot all o fr = some (d, b)) : ∃ j want oj, o.guard = some (j, want) ∧ all[j]? = some oj ∧ oj.dst = some d ∧ fr.get d = .bool b := by
  unfold gdSlot at h
  split at h
  · rename_i j want hg
    split at h
    · rename_i oj hj
      split at h
      · rename_i d' hd
        split at h
        · rename_i b' hb
          simp only [Option.some.injEq, Prod.mk.injEq] at h
          obtain ⟨rfl, rfl⟩ := h
          exact ⟨j, want, oj, hg, hj, hd, hb⟩
        · cases h
      · cases h
    · cases h
  · cases h
def Goes (cx : Cx) (n : Nat) (B : Bs) (Q : Post) (C : List Prop) (k : List AI) (fr : Fr) (σ : Heap) (R : Rp) : Prop := AllP R.C → AllP C ∧ (S cx n B R.todo Q R.fr R.σ → S cx n B k Q fr σ)
theorem AllP_of_rev {C : List Prop} (h : AllP C.reverse) : AllP C := (AllP_rev (C := []) (by simpa using h)).1
theorem Goes.here {C : List Prop} {hs : List Ht} : Goes cx n B Q C k fr σ (halt C k fr σ hs) := by
  rw [halt_eq]
  exact fun h => ⟨AllP_of_rev h, id⟩
theorem Goes.one {C : List Prop} {D : List Prop} {k k' : List AI} {fr fr' : Fr} {σ σ' : Heap} {R : Rp} (h : Goes cx n B Q (D.reverse ++ C) k' fr' σ' R) (hs : AllP D → S cx n B k' Q fr' σ' → S cx n B k Q fr σ) : Goes cx n B Q C k fr σ R := fun hC => by
  obtain ⟨h1, h2⟩ := h hC
  obtain ⟨h3, h4⟩ := AllP_rev h1
  exact ⟨h4, fun q => hs h3 (h2 q)⟩
theorem runP_sound {M : List Nat} : ∀ (f : Nat) (C : List Prop) (hs : List Ht) (k : List AI) (fr : Fr) (σ : Heap), Goes cx n B Q C k fr σ (runP cx M n f C hs k fr σ) := by
  intro f
  induction f with
  | zero => intro C hs k fr σ; exact .here
  | succ f ih =>
    intro C hs k fr σ
    unfold runP
    split
    · exact .here
    · rename_i c k'
      split
      · exact (ih _ _ _ _ _).one (D := []) fun _ => S_skip
      · exact (ih _ _ _ _ _).one (D := []) fun _ => S_label
      · exact (ih _ _ _ _ _).one (D := []) fun _ => S_seq
      · exact (ih _ _ _ _ _).one (D := []) fun _ => S_block
      · rename_i id ops draw
        split
        · exact (ih _ _ _ _ _).one (D := []) fun _ => S_region
        split
        · rename_i jc m K g rs hs'
          split
          case h_2 => exact .here
          rename_i hmN
          split
          case h_2 => exact .here
          rename_i hjc
          split
          case h_2 => exact .here
          rename_i hchk
          rw [forceM_eq]
          split
          case h_2 => exact .here
          rename_i D vals fr' hrun
          rw [forceL_eq, pushAll_eq]
          refine Goes.one (D := (cx.P.follows .mixedOrders = true) :: D) (fr' := fr') (σ' := g σ) (k' := .ops ops (ops.toList.drop m) [] :: k') (by rw [List.reverse_cons, List.append_assoc]; exact ih _ _ _ _ _) fun hD hk => ?_
          exact S_drawCN (g σ) jc m K rs hD.1 hchk hmN hjc hrun hD.2 hk
        · split
          case h_1 => exact .here
          rw [runHK_eq]
          generalize hrun : runH cx (guardKs ops.toList ops.toList) n ops ops.toList σ ops.toList 0 fr hs = H
          obtain ⟨D, vals, fr', m, hs'⟩ := H
          simp only
          split
          · rename_i hchk
            rw [pushAll_eq]
            refine Goes.one (D := (cx.P.follows .mixedOrders = true) :: D) (fr' := fr') (σ' := σ) (k' := .ops ops (ops.toList.drop m) [] :: k') (by rw [List.reverse_cons, List.append_assoc]; exact ih _ _ _ _ _) fun hD hk => ?_
            exact S_drawH (guardKs ops.toList ops.toList) _ hs hD.1 hrun hchk hD.2 hk
          · exact .here
      · split
        · rename_i id k'' hp
          exact (ih _ _ _ _ _).one (D := []) fun _ => S_exit hp
        · exact .here
      · rename_i c x y
        split
        · rename_i t hs'
          split
          · rename_i b hb
            split
            · exact (ih _ _ _ _ _).one (D := [b = true]) fun hD hk => S_cond hb (fun _ => hk) (fun h => by rw [hD.1] at h; cases h)
            · exact (ih _ _ _ _ _).one (D := [b = false]) fun hD hk => S_cond hb (fun h => by rw [hD.1] at h; cases h) (fun _ => hk)
          · exact .here
        · exact .here
      · exact .here
    · exact (ih _ _ _ _ _).one (D := []) fun _ => S_blk
    · exact .here
    · rename_i all l K k'
      split
      · exact (ih _ _ _ _ _).one (D := []) fun _ => S_ops_nil
      · rename_i o r
        split
        · exact .here
        rename_i hst
        clear hst
        split
        · exact .here
        · rename_i hd
          split
          · rename_i hg
            split
            · rename_i t hs'
              split
              · rename_i d b hgd
                obtain ⟨j, want, oj, e1, e2, e3, e4⟩ := gdSlot_some hgd
                refine (ih _ _ _ _ _).one (D := [b = t]) fun hD hk => ?_
                obtain rfl : b = t := hD.1
                exact S_guard e1 e2 e3 e4 (fun h => by subst h; exact hk) (fun h => by subst h; exact hk)
              · exact .here
            · exact .here
          · rename_i hg
            rw [setC_eq]
            exact (ih _ _ _ _ _).one (D := []) fun _ => S_op_skip hg hd
          · rename_i hg
            split
            · rename_i x g hs' _
              rw [forceM_eq]
              exact (ih _ _ _ _ _).one (D := [OpSpec cx n fr σ o x (g σ)]) fun hD hk => S_do hg hd hD.1 hk
            rename_i hout
            clear hout
            split
            · rename_i g args hc
              split
              · rename_i x hs'
                rw [setC_eq]
                refine (ih _ _ _ _ _).one (D := [∃ args', Calc cx g args' x ∧ Frzs σ args args']) fun hD hk => ?_
                obtain ⟨⟨args', h1, h2⟩, _⟩ := hD
                exact S_pure hc hg hd h1 h2 hk
              · rename_i x hs'
                rw [setC_eq]
                refine (ih _ _ _ _ _).one (D := [CallOk cx g args σ (fun e s => e = .ret x ∧ s = σ)]) fun hD hk => ?_
                exact S_call hg hc hd hD.1 (fun v s h => by obtain ⟨h1, rfl⟩ := h; obtain rfl := Out.ret.inj h1; exact hk) (fun v s h => by cases h.1)
              · rename_i x g' hs'
                rw [setC_eq, forceM_eq]
                refine (ih _ _ _ _ _).one (D := [CallOk cx g args σ (fun e s => e = .ret x ∧ s = g' σ)]) fun hD hk => ?_
                exact S_call hg hc hd hD.1 (fun v s h => by obtain ⟨h1, rfl⟩ := h; obtain rfl := Out.ret.inj h1; exact hk) (fun v s h => by cases h.1)
              · rename_i x σ' hs'
                rw [setC_eq]
                refine (ih _ _ _ _ _).one (D := [CallOk cx g args σ (fun e s => e = .ret x ∧ s = σ')]) fun hD hk => ?_
                exact S_call hg hc hd hD.1 (fun v s h => by obtain ⟨h1, rfl⟩ := h; obtain rfl := Out.ret.inj h1; exact hk) (fun v s h => by cases h.1)
              · exact .here
            · split
              · split
                · rename_i D v σ' ha
                  rw [pushAll_eq]
                  simp only [forceV_eq, forceIfM_eq, setC_eq]
                  exact (ih _ _ _ _ _).one (D := D) fun hD hk => S_op hg ha hD hd hk
                · split
                  · rename_i D σ' ha
                    rw [pushAll_eq]
                    simp only [forceM_eq, setC_eq]
                    exact (ih _ _ _ _ _).one (D := D) fun hD hk => S_store ha hg hd hD hk
                  · split
                    · rename_i x hs'
                      split
                      · rename_i D ha
                        rw [pushAll_eq]
                        simp only [setC_eq]
                        exact (ih _ _ _ _ _).one (D := D) fun hD hk => S_load x ha hg hd hD hk
                      · exact (ih _ _ _ _ _).one (D := [OpSpec cx n fr σ o x σ]) fun hD hk => S_do hg hd hD.1 hk
                    · rename_i x g hs'
                      rw [forceM_eq]
                      exact (ih _ _ _ _ _).one (D := [OpSpec cx n fr σ o x (g σ)]) fun hD hk => S_do hg hd hD.1 hk
                    · exact .here
              · split
                · rename_i x hs'
                  split
                  · rename_i D v ha
                    rw [pushAll_eq]
                    simp only [forceV_eq, setC_eq]
                    exact (ih _ _ _ _ _).one (D := D) fun hD hk => S_index x ha hg hd hD hk
                  · exact (ih _ _ _ _ _).one (D := [OpSpec cx n fr σ o x σ]) fun hD hk => S_do hg hd hD.1 hk
                · rename_i x g hs'
                  rw [forceM_eq]
                  exact (ih _ _ _ _ _).one (D := [OpSpec cx n fr σ o x (g σ)]) fun hD hk => S_do hg hd hD.1 hk
                · exact .here
theorem pago (M : List Nat) {k k' : List AI} {fr fr' : Fr} {σ σ' : Heap} {C : List Prop} (hs : List Ht) {hs' : List Ht} (h : runP cx M n 2000 [] hs k fr σ = ⟨C, k', fr', σ', hs'⟩) (hC : AllP C)
    (hk : S cx n B k' Q fr' σ') : S cx n B k Q fr σ := by
  have hg := runP_sound (M := M) (cx := cx) (n := n) (B := B) (Q := Q) 2000 [] hs k fr σ
  rw [h] at hg
  exact (hg hC).2 hk
theorem pa {k k' : List AI} {fr fr' : Fr} {σ σ' : Heap} {C : List Prop} (hs : List Ht) {hs' : List Ht} (h : runP cx [] n 2000 [] hs k fr σ = ⟨C, k', fr', σ', hs'⟩) (hC : AllP C)
    (hk : S cx n B k' Q fr' σ') : S cx n B k Q fr σ := pago [] hs h hC hk
theorem pB {k k' : List AI} {fr fr' : Fr} {σ σ' : Heap} {C : List Prop} (hs : List Ht) {hs' : List Ht} (h : runP cx [] n 2000 [] hs k fr σ = ⟨C, k', fr', σ', hs'⟩) (hk : S cx n B k' Q fr' σ') (hC : AllP C := by (repeat' with_reducible apply AllP_cons) <;> exact aC) : S cx n B k Q fr σ := pago [] hs h hC hk
theorem S_share {c : Code} {k' : List AI} (F : Fr) (σ' : Heap) (hm : (∀ fr, Weak fr F → S cx n B (.code c :: k') Q fr σ') → S cx n B k Q fr σ) (hk : S cx n B (.code c :: k') Q F σ') : S cx n B k Q fr σ := hm fun fr hw => S_code_weak hw hk
theorem S_callP {all : Array Oper} {o : Oper} {l : List Oper} {K : List Nat} {f : FuncId} {args : List AV} {v : AV} {σ' : Heap} (hg : guardA all o K fr = some true) (hc : callA cx fr o.op = some (f, args)) (hd : dstOk n o.dst = true)
    (hcall : CallOk cx f args σ (fun e s => e = .panic v ∧ s = σ')) (hk : Q (.panic v) fr σ') : S cx n B (.ops all (o :: l) K :: k) Q fr σ :=
  S_call hg hc hd hcall (fun v s h => by cases h.1) (fun v s h => by obtain ⟨h1, rfl⟩ := h; cases h1; exact hk)
theorem S_cut {todo : List AI} {id cur : Nat} {cs : List AV} {ty : Option TypeId} (m : Nat) (h : σ[id]? = some (cur, some (.cells cs ⟨false, ty⟩))) (hT : ∃ c k, todo = .code c :: k ∨ ∃ all l K, todo = .ops all l K :: k)
    (hk : S cx n B todo Q fr (σ.set id (cur, some (.cells (cs.take m) ⟨false, ty⟩)))) : S cx n B todo Q fr σ := by
  have key : ∀ r w, Inv cx r σ w → Inv cx r (σ.set id (cur, some (.cells (cs.take m) ⟨false, ty⟩))) w ∧ Ext r σ w r (σ.set id (cur, some (.cells (cs.take m) ⟨false, ty⟩))) w := by
    intro r w hi
    refine hi.recast h (fun b o hb => ?_) (fun ro hro => by cases hro; exact ⟨_, by rw [List.take_nil]⟩)
    obtain ⟨c, t, lo, hi, h1, h2, h3, h4, h5⟩ := hb
    refine ⟨c, t, lo, hi, h1, fun i hil => ?_, fun x hx => h3 x (List.mem_of_mem_take hx), fun i a b c => (by cases (h4 i a b c).1), h5⟩
    have hil' : i < cs.length := by rw [List.length_take] at hil; omega
    obtain ⟨v, k1, k2⟩ := h2 i hil'
    exact ⟨v, k1, by rw [List.getElem_take]; exact k2⟩
  obtain ⟨c, k, hT⟩ := hT
  rcases hT with rfl | ⟨all, l, K, rfl⟩
  · intro r a w hi hf hd hx
    obtain ⟨q1, q2⟩ := key r w hi
    exact hk r a w q1 (hf.mono (q2.grow hi)) hd (hx.trans q2)
  · intro r a w hi hf hd hx
    obtain ⟨q1, q2⟩ := key r w hi
    exact hk r a w q1 (hf.mono (q2.grow hi)) hd (hx.trans q2)
end
end Go.Ab
end
section
set_option linter.unusedVariables false
set_option linter.unusedSimpArgs false
namespace Go.Ab
open Go
theorem putAll_pre {σ τ es : Heap} {n : Nat} (hn : σ.length = n) (he : es.length = n) : putAll (σ ++ τ) (List.range n) es = es ++ τ := by
  have hl : (putAll (σ ++ τ) (List.range n) es).length = (es ++ τ).length := by
    rw [putAll_length _ _ _ (by simp; omega)]; simp; omega
  refine List.ext_getElem? fun i => ?_
  rcases Nat.lt_or_ge i n with h | h
  · rw [putAll_at (List.range n) es (σ ++ τ) i i List.nodup_range (fun j hj => by rw [List.mem_range] at hj; simp; omega) (by simp; omega) (by rw [List.getElem?_append_left (by simpa using h)]; simp [h]), List.getElem?_append_left (by omega)]
  · rcases Nat.lt_or_ge i (σ ++ τ).length with h2 | h2
    · rw [putAll_other _ _ _ i h2 (by simp; omega), List.getElem?_append_right (by omega), List.getElem?_append_right (by omega), hn, he]
    · rw [List.getElem?_eq_none (by rw [hl]; simp at h2 ⊢; omega), List.getElem?_eq_none (by simp at h2 ⊢; omega)]
def RnO (ids : List Nat) : Out → Prop
  | .ret v => Rn ids v v
  | .panic v => Rn ids v v
theorem CallOk.pre {cx : Cx} {f : FuncId} {args : List AV} {σ : Heap} {R : Out → Heap → Prop} (n : Nat) (τ : Heap) (h : CallOk cx f args σ R) (hn : σ.length = n) (ha : Rns (List.range n) args args) (hs : RnH (List.range n) σ σ)
    (hR : ∀ o s, R o s → s.length = n ∧ RnH (List.range n) s s ∧ RnO (List.range n) o) : CallOk cx f args (σ ++ τ) (fun o s => ∃ s0, s = s0 ++ τ ∧ R o s0) := by
  have hp : Part (List.range n) σ (σ ++ τ) := by
    refine ⟨List.nodup_range, fun j hj => by rw [List.mem_range] at hj; simp; omega, by simp [hn], fun i j e hi he => ?_⟩
    have hil : i < σ.length := by
      rcases Nat.lt_or_ge i σ.length with h' | h'
      · exact h'
      · rw [List.getElem?_eq_none h'] at he; cases he
    have : j = i := by
      rw [List.getElem?_range (by omega)] at hi; exact (Option.some.inj hi).symm
    subst this
    refine ⟨e, by rw [List.getElem?_append_left hil]; exact he, ?_⟩
    have h1 := hs.2 j hil hil
    rw [List.getElem?_eq_getElem hil] at he
    rw [Option.some.inj he] at h1; exact h1
  refine ⟨h.1, fun r w vs hi hv => ?_⟩
  have hsub := frame_down hi hp
  have hvs : VRels (r.sub (List.range n)) w vs args := by
    refine ⟨hv.1, fun i hi' => ?_⟩
    refine (ha.2 i hi' hi').down (r := r) (r' := r.sub (List.range n)) (fun _ h => h) (fun _ h => h) hi.SI (fun i j ver p h1 h2 => ?_) (hv.2 i hi')
    simp only [Rl.sub, h1]; exact h2
  refine (h.2 _ w vs hsub hvs).mono fun e w' ⟨out, σ1, r1, hRo, ho, hi1, hx1⟩ => ?_
  obtain ⟨k1, k2, k3⟩ := hR _ _ hRo
  have hids : List.range n = List.range n ++ newIds (σ ++ τ).length (σ1.length - (List.range n).length) := by
    rw [List.length_range, k1, Nat.sub_self]; simp [newIds]
  obtain ⟨q1, q2, q3⟩ := frame_up hi hp hi1 hx1 hids k2
  rw [putAll_pre hn k1] at q1 q2
  cases e <;> cases out <;> first | exact ho.elim | skip
  · exact ⟨_, _, _, ⟨σ1, rfl, hRo⟩, q3 _ _ _ k3 ho, q1, q2⟩
  · obtain ⟨u, hu1, hu2⟩ := ho
    exact ⟨_, _, _, ⟨σ1, rfl, hRo⟩, ⟨u, hu1, q3 _ _ _ k3 hu2⟩, q1, q2⟩
theorem CallOk.pre1 {cx : Cx} {f : FuncId} {args : List AV} {σ σ' : Heap} {x : AV} (n : Nat) (τ : Heap) (h : CallOk cx f args σ (fun e s => e = .ret x ∧ s = σ')) (hn : σ.length = n) (hn' : σ'.length = n) (ha : Rns (List.range n) args args) (hs : RnH (List.range n) σ σ)
    (hs' : RnH (List.range n) σ' σ') (hx : Rn (List.range n) x x) : CallOk cx f args (σ ++ τ) (fun e s => e = .ret x ∧ s = σ' ++ τ) :=
  (h.pre n τ hn ha hs (fun o s h => by obtain ⟨rfl, rfl⟩ := h; exact ⟨hn', hs', hx⟩)).mono fun o s ⟨s0, h1, h2, h3⟩ => ⟨h2, by rw [h1, h3]⟩
theorem putAll_mid {τ σ τ' es : Heap} {k n : Nat} (hk : τ.length = k) (hn : σ.length = n) (he : es.length = n) : putAll (τ ++ (σ ++ τ')) (List.range' k n) es = τ ++ (es ++ τ') := by
  have hl : (putAll (τ ++ (σ ++ τ')) (List.range' k n) es).length = (τ ++ (es ++ τ')).length := by
    rw [putAll_length _ _ _ (by simp; omega)]; simp; omega
  refine List.ext_getElem? fun i => ?_
  by_cases hm : k ≤ i ∧ i < k + n
  · obtain ⟨h1, h2⟩ := hm
    have e1 : (List.range' k n ++ newIds (τ ++ (σ ++ τ')).length (es.length - (List.range' k n).length))[i - k]? = some i := by
      rw [List.getElem?_append_left (by simp; omega), List.getElem?_range' (by omega)]
      congr 1; omega
    rw [putAll_at (List.range' k n) es (τ ++ (σ ++ τ')) (i - k) i List.nodup_range' (fun j hj => by rw [List.mem_range'_1] at hj; simp; omega) (by simp; omega) e1, List.getElem?_append_right (by omega), hk, List.getElem?_append_left (by omega)]
  · rcases Nat.lt_or_ge i (τ ++ (σ ++ τ')).length with h2 | h2
    · rw [putAll_other _ _ _ i h2 (by rw [List.mem_range'_1]; omega)]
      rcases Nat.lt_or_ge i k with h3 | h3
      · rw [List.getElem?_append_left (by omega), List.getElem?_append_left (by omega)]
      · rw [List.getElem?_append_right (by omega), List.getElem?_append_right (by omega), List.getElem?_append_right (by omega), List.getElem?_append_right (by omega), hn, he]
    · rw [List.getElem?_eq_none (by rw [hl]; simp at h2 ⊢; omega), List.getElem?_eq_none (by simp at h2 ⊢; omega)]
theorem CallOk.mid {cx : Cx} {f : FuncId} {args args' : List AV} {σ σ' σ2 σ2' : Heap} {x x' : AV} (k n : Nat) (τ τ' : Heap) (h : CallOk cx f args σ (fun e s => e = .ret x ∧ s = σ')) (hk : τ.length = k) (hn : σ.length = n) (hn' : σ'.length = n)
    (ha : Rns (List.range' k n) args args') (hs : RnH (List.range' k n) σ σ2) (hs' : RnH (List.range' k n) σ' σ2') (hx : Rn (List.range' k n) x x') : CallOk cx f args' (τ ++ (σ2 ++ τ')) (fun e s => e = .ret x' ∧ s = τ ++ (σ2' ++ τ')) := by
  have hn2 : σ2.length = n := hs.1.symm.trans hn
  have hn2' : σ2'.length = n := hs'.1.symm.trans hn'
  have hp : Part (List.range' k n) σ (τ ++ (σ2 ++ τ')) := by
    refine ⟨List.nodup_range', fun j hj => by rw [List.mem_range'_1] at hj; simp; omega, by simp [hn], fun i j e hi he => ?_⟩
    have hil : i < σ.length := by
      rcases Nat.lt_or_ge i σ.length with h' | h'
      · exact h'
      · rw [List.getElem?_eq_none h'] at he; cases he
    have : j = k + i := by
      rw [List.getElem?_range' (by omega)] at hi; have := Option.some.inj hi; omega
    subst this
    have hil2 : i < σ2.length := by omega
    refine ⟨σ2[i], by rw [List.getElem?_append_right (by omega), List.getElem?_append_left (by omega), hk, Nat.add_sub_cancel_left, List.getElem?_eq_getElem hil2], ?_⟩
    have h1 := hs.2 i hil hil2
    rw [List.getElem?_eq_getElem hil] at he
    rw [Option.some.inj he] at h1; exact h1
  refine ⟨h.1, fun r w vs hi hv => ?_⟩
  have hsub := frame_down hi hp
  have hvs : VRels (r.sub (List.range' k n)) w vs args := by
    refine ⟨hv.1.trans ha.1.symm, fun i hi' => ?_⟩
    refine (ha.2 i hi' (by rw [← ha.1]; exact hi')).down (r := r) (r' := r.sub (List.range' k n)) (fun _ h => h) (fun _ h => h) hi.SI (fun i j ver p h1 h2 => ?_) (hv.2 i (by rw [← ha.1]; exact hi'))
    simp only [Rl.sub, h1]; exact h2
  refine (h.2 _ w vs hsub hvs).mono fun e w' ⟨out, σ1, r1, hRo, ho, hi1, hx1⟩ => ?_
  obtain ⟨rfl, rfl⟩ := hRo
  have hids : List.range' k n = List.range' k n ++ newIds (τ ++ (σ2 ++ τ')).length (σ2'.length - (List.range' k n).length) := by
    rw [List.length_range', hn2', Nat.sub_self]; simp [newIds]
  obtain ⟨q1, q2, q3⟩ := frame_up hi hp hi1 hx1 hids hs'
  rw [putAll_mid hk hn2 hn2'] at q1 q2
  cases e with
  | returned u => exact ⟨.ret x', _, _, ⟨rfl, rfl⟩, q3 _ _ _ hx ho, q1, q2⟩
  | panicked chain => exact ho.elim
  | outgrown => exact ho.elim
end Go.Ab
end
section
set_option linter.unusedVariables false
set_option linter.unusedSimpArgs false
set_option maxRecDepth 20000
namespace Go.Proofs.YtmdegomejbpldaaGreatDoor
open Go Go.Ab
def tokC (t : Tok) : List AV := [.int .i64 t.kind, .str t.text, .int .i64 t.num, .int .i64 t.place]
def outB (u : Nat) (l : List Tok) : Nat × Option Box := (u, some (.cells (l.flatMap tokC) ⟨false, none⟩))
theorem tokC_len (l : List Tok) : (l.flatMap tokC).length = l.length * 4 := by
  induction l with
  | nil => rfl
  | cons t r ih => rw [List.flatMap_cons, List.length_append, ih, List.length_cons]; show 4 + r.length * 4 = _; omega
theorem put_ok (v a u : Nat) (xa : Box) (s : List UInt8) (i o : Nat) (ins : AV) (l : List Tok) (k : Nat) (t : List UInt8) (p : Nat) (hl : l.length ≤ 1000000) :
    CallOk cx 49 [.ptr 0 v 0, .int .i64 k, .str t, .int .i64 p] [spB v s i o ins (.ms 2 u 0 l.length 4 false), (a, some xa), outB u l]
      (fun r σ => r = .ret (.tup []) ∧ σ = [spB v s i o ins (.ms 2 (u + 1) 0 (l.length + 1) 4 false), (a, some xa), outB (u + 1) (l ++ [⟨k, t, 0, p⟩])]) :=
  callOk_intro (fun a w => Tryz.call49 a w) Tryz.func49 rfl Tryz.ntmps49 rfl fun B => by
    have hL := tokC_len l
    have tk : tokC ⟨k, t, 0, p⟩ = [.int .i64 k, .str t, .int .i64 ((0 : Nat) : Int), .int .i64 p] := rfl
    refine ab 1000 rfl ⟨Nat.le_of_ble_eq_true rfl, rfl, ?_, ?_, ?_, rfl, rfl, allOne_mem (cs := [.int .i64 k, .str t, .int .i64 0, .int .i64 p]) rfl, allOne_mem (cs := [.int .i64 k, .str t, .int .i64 0, .int .i64 p]) rfl, rfl, rfl, trivial⟩ ?_
    · show l.length + 1 ≤ 9223372036854775807; omega
    · show (l.length + 1) * 40 ≤ 140737488355328; omega
    · show 0 + l.length * 4 = (l.flatMap tokC).length; omega
    refine S_nil ⟨_, _, rfl, trivial, rfl, ?_⟩
    show [spB v s i o ins (.ms 2 (u + 1) 0 (l.length + 1) 4 false), (a, some xa), (u + 1, some (Box.cells (l.flatMap tokC ++ [.int .i64 k, .str t, .int .i64 0, .int .i64 p]) ⟨false, none⟩))] = _
    rw [outB, List.flatMap_append]
    rfl
theorem fail_ok (τ : Heap) (v : Nat) (x : Int) (p : Int) : CallOk cx 48 [.ptr 0 v 0, .int .i64 x, .int .i64 p] τ (fun r σ' => r = .panic (.iface 25 (.agg [.int .i64 x, .int .i64 p])) ∧ σ' = τ) :=
  callOk_intro (fun a w => Tryz.call48 a w) Tryz.func48 rfl Tryz.ntmps48 rfl fun B => by
    refine pB [] rfl ?_
    exact S_panic rfl rfl rfl ⟨rfl, rfl⟩
theorem run_ok (F : FuncId) (P : UInt8 → Bool) (hF : ∀ c : UInt8, Calc cx F [.int .u8 (c.toNat : Nat)] (.bool (P c))) (v a b : Nat) (xa xb : Box) (s : List UInt8) (i o : Nat) (ins out : AV) (hi : i ≤ s.length) (hs : s.length ≤ 1048576) :
    CallOk cx 69 [.ptr 0 v 0, .func (.func F) [] []] [spB v s i o ins out, (a, some xa), (b, some xb)]
      (fun r σ => r = .ret (.str ((s.take (stopAt P s i)).drop i)) ∧ σ = [spB v s (stopAt P s i) o ins out, (a, some xa), (b, some xb)]) :=
  callOk_intro (fun a w => Tryz.call69 a w) Tryz.func69 rfl Tryz.ntmps69 rfl fun B => by
    refine ab 1000 rfl ⟨rfl, trivial⟩ ?_
    refine S_while (α := Nat) (fun j => [(0, .ptr 0 v 0), (1, .func (.func F) [] []), (5, .int .i64 (i : Nat))]) (fun j => [spB v s j o ins out, (a, some xa), (b, some xb)]) (fun j => i ≤ j ∧ j ≤ s.length ∧ stopAt P s j = stopAt P s i) (fun j => s.length - j) i
      ⟨Nat.le_refl _, hi, rfl⟩ (.cons rfl (.cons rfl (.cons rfl (.nil _)))) rfl ?_
    rintro j ⟨hij, hj, hN⟩
    have hj : j ≤ s.length := hj
    refine ab 1000 rfl trivial ?_
    by_cases hlt : j < s.length
    · have c1 : (0 : Int) ≤ (j : Int) ∧ (j : Int) < (s.length : Int) := by omega
      have hgc : (((s.getD (j : Int).toNat 0).toNat : Nat) : Int) = ((s[j].toNat : Nat) : Int) := by rw [Int.toNat_natCast, getD_byte hlt]
      refine S_drawV 10 22 [20] [.bool true, .bool (P s[j])] rfl rfl rfl rfl ⟨rfl, rfl, rfl, rfl, rfl, rfl, rfl, rfl, rfl, rfl, rfl, rfl, rfl, congrArg AV.bool (decide_eq_true (by omega)), rfl, rfl, rfl, rfl, rfl, rfl, rfl, rfl, rfl, rfl, rfl, rfl, c1.1, c1.2, ⟨_, hF s[j], .cons (by show Frz false _ (.int .u8 (((s.getD (j : Int).toNat 0).toNat : Nat) : Int)) _; rw [hgc]; exact .refl .int) (.nil _)⟩, trivial⟩ ?_
      refine ab 1000 rfl trivial ?_
      refine S_cond rfl (fun hb => ?_) (fun hb => ?_)
      · refine ab 1000 rfl ⟨Nat.le_of_ble_eq_true rfl, rfl, rfl, trivial⟩ ?_
        refine S_round (j + 1) (by show s.length - (j + 1) < s.length - j; omega) ⟨by omega, hlt, by rw [← hN, stopAt_yes hlt hb]⟩ (.cons rfl (.cons rfl (.cons rfl (.nil _)))) ?_
        show [(v, some (Box.cells [.str s, .int .i64 (IntKind.i64.wrap ((j : Int) + 1)), .int .i64 o, ins, out] _)), _, _] = _
        rw [show AV.int .i64 (IntKind.i64.wrap ((j : Int) + 1)) = .int .i64 ((j + 1 : Nat) : Int) from ai64 rfl (by omega)]; rfl
      · have hst : stopAt P s i = j := by rw [← hN, stopAt_no hlt hb]
        rw [hst]
        refine ab 1000 rfl trivial ?_
        refine S_draw 10 [] [] rfl rfl rfl rfl ⟨rfl, rfl, rfl, rfl, rfl, rfl, rfl, rfl, rfl, rfl, rfl, rfl, by omega, by omega, by omega, trivial⟩ ?_
        refine ab 1000 rfl trivial ?_
        refine S_ret ⟨_, _, rfl, trivial, ?_, rfl⟩
        show Out.ret (.str ((s.take (j : Int).toNat).drop (i : Int).toNat)) = _
        rw [Int.toNat_natCast, Int.toNat_natCast]
    · refine S_drawV 10 22 [20] [.bool false] rfl rfl rfl rfl ⟨rfl, rfl, rfl, rfl, rfl, rfl, rfl, rfl, rfl, rfl, rfl, rfl, rfl, congrArg AV.bool (decide_eq_false (by omega)), trivial⟩ ?_
      refine ab 1000 rfl trivial ?_
      refine S_cond (b := false) rfl (fun h => by cases h) (fun _ => ?_)
      have hst : stopAt P s i = j := by rw [← hN, stopAt_end (by omega)]
      rw [hst]
      refine ab 1000 rfl trivial ?_
      refine S_draw 10 [] [] rfl rfl rfl rfl ⟨rfl, rfl, rfl, rfl, rfl, rfl, rfl, rfl, rfl, rfl, rfl, rfl, by omega, by omega, by omega, trivial⟩ ?_
      refine ab 1000 rfl trivial ?_
      refine S_ret ⟨_, _, rfl, trivial, ?_, rfl⟩
      show Out.ret (.str ((s.take (j : Int).toNat).drop (i : Int).toNat)) = _
      rw [Int.toNat_natCast, Int.toNat_natCast]
end Go.Proofs.YtmdegomejbpldaaGreatDoor
end
section
set_option linter.unusedVariables false
set_option linter.unusedSimpArgs false
set_option maxRecDepth 20000
namespace Go.Proofs.YtmdegomejbpldaaGreatDoor
open Go Go.Ab
def firstOf {α : Type} [DecidableEq α] (l : List α) (x : α) : Int := match l.idxOf? x with | some i => i | none => -1
theorem firstOf_no {α : Type} [DecidableEq α] {l : List α} {x : α} (h : x ∉ l) : firstOf l x = -1 := by
  unfold firstOf
  rw [List.idxOf?_eq_none_iff.2 h]
theorem firstOf_at {α : Type} [DecidableEq α] {l : List α} {x : α} {i : Nat} (hi : i < l.length) (h : l[i] = x) (hn : x ∉ l.take i) : firstOf l x = i := by
  unfold firstOf
  have : l.idxOf? x = some i := by
    rw [List.idxOf?, List.findIdx?_eq_some_iff_getElem]
    refine ⟨hi, by simp [h], fun j hj => ?_⟩
    intro hb
    refine hn ?_
    have : l[j] = x := by simpa using hb
    rw [← this]
    exact List.mem_take_iff_getElem.2 ⟨j, by omega, rfl⟩
  rw [this]
theorem firstOf_ge {α : Type} [DecidableEq α] {l : List α} {x : α} : (0 ≤ firstOf l x) ↔ x ∈ l := by
  unfold firstOf
  constructor
  · intro h
    by_cases hm : x ∈ l
    · exact hm
    · rw [List.idxOf?_eq_none_iff.2 hm] at h; simp at h
  · intro h
    cases hh : l.idxOf? x with
    | none => exact absurd h (List.idxOf?_eq_none_iff.1 hh)
    | some i => simp
theorem IndexS_ok {st fl : Bool} (l : List (List UInt8)) (s : List UInt8) (hl : l.length ≤ 1000000) : Calc cx 75 [.sl st fl 1 (texts l), .str s] (.int .i64 (firstOf l s)) :=
  pure_intro (fun a w => Tryz.call75 a w) Tryz.func75 rfl Tryz.ntmps75 rfl .int fun B => by
    have htl := texts_len l
    refine ab 1000 rfl trivial ?_
    refine S_while (α := Nat) (fun i => [(0, .sl st fl 1 (texts l)), (1, .str s), (7, .int .i64 (l.length : Nat)), (8, .int .i64 (i : Nat))]) (fun _ => []) (fun i => i ≤ l.length ∧ s ∉ l.take i) (fun i => l.length - i) 0
      ⟨Nat.zero_le _, by simp⟩ (.cons rfl (.cons rfl (.cons (by show AV.int .i64 ((texts l).length : Nat) = _; rw [htl]) (.cons rfl (.nil _))))) rfl ?_
    rintro i ⟨hi, hN⟩
    have hi : i ≤ l.length := hi
    by_cases hlt : i < l.length
    · have e1 : (texts l)[(i : Int).toNat]? = some (.str l[i]) := texts_get hlt
      by_cases he : s = l[i]
      · refine pa [.b true, .v (.str l[i]), .b true] rfl ?_ ?_
        · (repeat' with_reducible apply AllP_cons) <;> try exact aC
          exact beq_iff_eq.2 he
        refine S_retc .int rfl trivial ?_
        rw [firstOf_at hlt he.symm hN]; rfl
      · refine pa [.b true, .v (.str l[i]), .b false] rfl ?_ ?_
        · (repeat' with_reducible apply AllP_cons) <;> try exact aC
          exact beq_false_of_ne he
        refine S_round (i + 1) (by show l.length - (i + 1) < l.length - i; omega) ⟨hlt, fun hm => ?_⟩ (.cons rfl (.cons rfl (.cons rfl (.cons (ai64 rfl (by omega)) (.nil _))))) rfl
        rw [List.take_succ_eq_append_getElem hlt] at hm
        rcases List.mem_append.1 hm with hm | hm
        · exact hN hm
        · simp at hm; exact he hm
    · obtain rfl : i = l.length := by omega
      rw [List.take_length] at hN
      refine pB [.b false] rfl ?_
      refine S_retc .int rfl trivial ?_
      rw [firstOf_no hN]; rfl
theorem ContainsS_ok {st fl : Bool} (l : List (List UInt8)) (s : List UInt8) (hl : l.length ≤ 1000000) : Calc cx 54 [.sl st fl 1 (texts l), .str s] (.bool (decide (s ∈ l))) :=
  pure_intro (fun a w => Tryz.call54 a w) Tryz.func54 rfl Tryz.ntmps54 rfl .bool fun B => by
    refine pa [.v (.int .i64 (firstOf l s))] rfl ?_ ?_
    · (repeat' with_reducible apply AllP_cons) <;> try exact aC
      exact ⟨_, IndexS_ok l s hl, .cons (.refl (.sl (fun h => by cases h) (texts_any l))) (.cons (.refl .str) (.nil _))⟩
    refine S_retc .bool rfl trivial ?_
    exact congrArg AV.bool (decide_eq_decide.2 firstOf_ge)
end Go.Proofs.YtmdegomejbpldaaGreatDoor
end
section
set_option linter.unusedVariables false
set_option linter.unusedSimpArgs false
set_option maxRecDepth 20000
namespace Go.Proofs.YtmdegomejbpldaaGreatDoor
open Go Go.Ab
def ints (l : List Nat) : List AV := l.map fun n => .int .i64 (n : Nat)
theorem ints_len (l : List Nat) : (ints l).length = l.length := by simp [ints]
theorem ints_get {l : List Nat} {i : Nat} (h : i < l.length) : (ints l)[i]? = some (.int .i64 (l[i] : Nat)) := by simp [ints, h]
theorem ints_one (l : List Nat) : ∀ x ∈ ints l, x.one = true := by
  intro x hx; obtain ⟨y, _, rfl⟩ := List.mem_map.1 hx; rfl
theorem ints_free {st : Bool} (l : List Nat) : ∀ x ∈ ints l, Free st x := by
  intro x hx; obtain ⟨y, _, rfl⟩ := List.mem_map.1 hx; exact .int
theorem IndexI_ok {st fl : Bool} (l : List Nat) (s : Nat) (hl : l.length ≤ 1000000) : Calc cx 67 [.sl st fl 1 (ints l), .int .i64 s] (.int .i64 (firstOf l s)) :=
  pure_intro (fun a w => Tryz.call67 a w) Tryz.func67 rfl Tryz.ntmps67 rfl .int fun B => by
    have htl := ints_len l
    refine ab 1000 rfl trivial ?_
    refine S_while (α := Nat) (fun i => [(0, .sl st fl 1 (ints l)), (1, .int .i64 s), (7, .int .i64 (l.length : Nat)), (8, .int .i64 (i : Nat))]) (fun _ => []) (fun i => i ≤ l.length ∧ s ∉ l.take i) (fun i => l.length - i) 0
      ⟨Nat.zero_le _, by simp⟩ (.cons rfl (.cons rfl (.cons (by show AV.int .i64 ((ints l).length : Nat) = _; rw [htl]) (.cons rfl (.nil _))))) rfl ?_
    rintro i ⟨hi, hN⟩
    have hi : i ≤ l.length := hi
    by_cases hlt : i < l.length
    · have e1 : (ints l)[(i : Int).toNat]? = some (.int .i64 (l[i] : Nat)) := ints_get hlt
      by_cases he : s = l[i]
      · refine pB [.b true, .v (.int .i64 (l[i] : Nat)), .b true] rfl ?_
        refine S_retc .int rfl trivial ?_
        rw [firstOf_at hlt he.symm hN]; rfl
      · refine pB [.b true, .v (.int .i64 (l[i] : Nat)), .b false] rfl ?_
        refine S_round (i + 1) (by show l.length - (i + 1) < l.length - i; omega) ⟨hlt, fun hm => ?_⟩ (.cons rfl (.cons rfl (.cons rfl (.cons (ai64 rfl (by omega)) (.nil _))))) rfl
        rw [List.take_succ_eq_append_getElem hlt] at hm
        rcases List.mem_append.1 hm with hm | hm
        · exact hN hm
        · simp at hm; exact he hm
    · obtain rfl : i = l.length := by omega
      rw [List.take_length] at hN
      refine pB [.b false] rfl ?_
      refine S_retc .int rfl trivial ?_
      rw [firstOf_no hN]; rfl
theorem ContainsI_ok {st fl : Bool} (l : List Nat) (s : Nat) (hl : l.length ≤ 1000000) : Calc cx 50 [.sl st fl 1 (ints l), .int .i64 s] (.bool (decide (s ∈ l))) :=
  pure_intro (fun a w => Tryz.call50 a w) Tryz.func50 rfl Tryz.ntmps50 rfl .bool fun B => by
    refine pa [.v (.int .i64 (firstOf l s))] rfl ?_ ?_
    · (repeat' with_reducible apply AllP_cons) <;> try exact aC
      exact ⟨_, IndexI_ok l s hl, .cons (.refl (.sl (fun h => by cases h) (ints_free l))) (.cons (.refl .int) (.nil _))⟩
    refine S_retc .bool rfl trivial ?_
    exact congrArg AV.bool (decide_eq_decide.2 firstOf_ge)
end Go.Proofs.YtmdegomejbpldaaGreatDoor
end
section
set_option linter.unusedVariables false
set_option linter.unusedSimpArgs false
set_option maxRecDepth 20000
namespace Go.Proofs.YtmdegomejbpldaaGreatDoor
open Go Go.Ab
def insB (u : Nat) (l : List Nat) : Nat × Option Box := (u, some (.cells (ints l) ⟨false, none⟩))
def insV (u : Nat) (l : List Nat) : AV := .ms 1 u 0 l.length 1 false
def outV (w : Nat) (l : List Tok) : AV := .ms 2 w 0 l.length 4 false
def spH (v u w : Nat) (s : List UInt8) (i o : Nat) (ins : List Nat) (out : List Tok) : Heap := [spB v s i o (insV u ins) (outV w out), insB u ins, outB w out]
theorem ints_take (l : List Nat) (k : Nat) : (ints l).take k = ints (l.take k) := by simp [ints, List.map_take]
theorem ints_app (l : List Nat) (n : Nat) : ints l ++ [.int .i64 (n : Nat)] = ints (l ++ [n]) := by simp [ints]
theorem putH (v u w : Nat) (s : List UInt8) (i o : Nat) (ins : List Nat) (l : List Tok) (k : Nat) (t : List UInt8) (p : Nat) (hl : l.length ≤ 1000000) :
    CallOk cx 49 [.ptr 0 v 0, .int .i64 k, .str t, .int .i64 p] (spH v u w s i o ins l) (fun e σ => e = .ret (.tup []) ∧ σ = spH v u (w + 1) s i o ins (l ++ [⟨k, t, 0, p⟩])) := by
  refine (put_ok v u w (.cells (ints ins) ⟨false, none⟩) s i o (insV u ins) l k t p hl).mono fun e σ h => ⟨h.1, h.2.trans ?_⟩
  unfold spH outV insB
  rw [List.length_append]; rfl
theorem putS (v u w : Nat) (s : List UInt8) (i o : Nat) (ins : List Nat) (l : List Tok) (σ : Heap) (hσ : σ = spH v u w s i o ins l) (k : Nat) (t : List UInt8) (p : Nat) (hl : l.length ≤ 1000000) :
    CallOk cx 49 [.ptr 0 v 0, .int .i64 k, .str t, .int .i64 p] σ (fun e σ => e = .ret (.tup []) ∧ σ = spH v u (w + 1) s i o ins (l ++ [⟨k, t, 0, p⟩])) := by
  rw [hσ]; exact putH v u w s i o ins l k t p hl
theorem insFz {σ : Heap} {u : Nat} {ins : List Nat} (h : boxAt σ 1 = some (u, ints ins, ⟨false, none⟩)) : Frz false σ (insV u ins) (.sl false false 1 (ints ins)) :=
  .ms1 h (ints_one ins) (ints_len ins) (ints_free ins)
def flt (e : Flt) : AV := .iface 25 (.agg [.int .i64 (e.1 : Nat), .int .i64 (e.2 : Nat)])
theorem failH (v u w : Nat) (s : List UInt8) (i o : Nat) (ins : List Nat) (l : List Tok) (x p : Nat) : CallOk cx 48 [.ptr 0 v 0, .int .i64 x, .int .i64 p] (spH v u w s i o ins l) (fun e σ => e = .panic (flt (x, p)) ∧ σ = spH v u w s i o ins l) :=
  fail_ok _ v x p
theorem back_ok (v u w : Nat) (s : List UInt8) (i o : Nat) (ins : List Nat) (out : List Tok) (n : Nat) (hi : Insok ins) (hl : ins.length ≤ 31) (ho : out.length ≤ 900000) :
    CallOk cx 29 [.ptr 0 v 0, .int .i64 n] (spH v u w s i o ins out)
      (fun e σ => e = .ret (.tup []) ∧ σ = spH v u (w + (ins.length - stay ins n)) s i o (ins.take (stay ins n)) (out ++ List.replicate (ins.length - stay ins n) (tokOut i))) :=
  callOk_intro (fun a w => Tryz.call29 a w) Tryz.func29 rfl Tryz.ntmps29 rfl fun B => by
    have hp := stay_pos hi n
    have hk := stay_le ins n
    refine ab 1000 rfl trivial ?_
    refine S_while (α := Nat × List Nat) (fun _ => [(0, .ptr 0 v 0), (1, .int .i64 n)]) (fun (p, l) => spH v u (w + p) s i o l (out ++ List.replicate p (tokOut i))) (fun (p, l) => p ≤ ins.length - stay ins n ∧ l = ins.take (ins.length - p)) (fun (p, l) => ins.length - p) (0, ins)
      ⟨Nat.zero_le _, by simp⟩ (.cons rfl (.cons rfl (.nil _))) ?_ ?_
    · show _ = spH v u (w + 0) s i o ins (out ++ List.replicate 0 (tokOut i))
      simp
    rintro ⟨p, l⟩ ⟨h1, rfl⟩
    have h1 : p ≤ ins.length - stay ins n := h1
    have hlen : (ins.take (ins.length - p)).length = ins.length - p := by simp
    have hg : (ints (ins.take (ins.length - p)))[ins.length - p - 1]? = some (.int .i64 ((ins[ins.length - p - 1]'(by omega) : Nat))) := by
      rw [ints_get (by omega)]; simp
    by_cases hlt : p < ins.length - stay ins n
    · have hgt : n < ins[ins.length - p - 1]'(by omega) := stay_out hi n _ (by omega) (by omega)
      have hw : IntKind.i64.wrap (((ins.take (ins.length - p)).length : Nat) - 1) = ((ins.length - p - 1 : Nat) : Int) := by rw [IntWalk.i64_in _ ⟨by omega, by omega⟩]; omega
      refine pa [.v .top, .v (.int .i64 ((ins[ins.length - p - 1]'(by omega) : Nat))), .b true] rfl ?_ ?_
      · (repeat' with_reducible apply AllP_cons) <;> try exact aC
        show (List.drop (IntKind.i64.wrap (((ins.take (ins.length - p)).length : Nat) - 1)).toNat (ints (ins.take (ins.length - p))))[0]? = _
        rw [hw, Int.toNat_natCast, List.getElem?_drop, Nat.add_zero]; exact hg
      refine S_cut (id := 1) (ins.length - p - 1) rfl ⟨.skip, _, .inr ⟨_, _, _, rfl⟩⟩ ?_
      refine S_heap (spH v u (w + p) s i o (ins.take (ins.length - (p + 1))) (out ++ List.replicate p (tokOut i))) ?_ ?_
      · have e1 : (ints (ins.take (ins.length - p))).take (ins.length - p - 1) = ints (ins.take (ins.length - (p + 1))) := by rw [ints_take, List.take_take]; congr 2; omega
        have e2 : ((IntKind.i64.wrap (((ins.take (ins.length - p)).length : Nat) - 1)).toNat - 0) = (ins.take (ins.length - (p + 1))).length := by rw [hw]; simp; omega
        show [spB v s i o (.ms 1 u 0 ((IntKind.i64.wrap (((ins.take (ins.length - p)).length : Nat) - 1)).toNat - 0) 1 false) _, (u, some (Box.cells ((ints (ins.take (ins.length - p))).take (ins.length - p - 1)) _)), _] = _
        rw [e1, e2]; rfl
      refine pa [.c (.tup []) (spH v u (w + p + 1) s i o (ins.take (ins.length - (p + 1))) (out ++ List.replicate p (tokOut i) ++ [tokOut i]))] rfl ?_ ?_
      · (repeat' with_reducible apply AllP_cons) <;> try exact aC
        exact putH v u (w + p) s i o (ins.take (ins.length - (p + 1))) (out ++ List.replicate p (tokOut i)) 8 [] i (by simp; omega)
      refine S_round (p + 1, ins.take (ins.length - (p + 1))) (by show ins.length - (p + 1) < ins.length - p; omega) ⟨by show p + 1 ≤ ins.length - stay ins n; omega, rfl⟩ (.cons rfl (.cons rfl (.nil _))) ?_
      show spH v u (w + p + 1) s i o (ins.take (ins.length - (p + 1))) (out ++ List.replicate p (tokOut i) ++ [tokOut i]) = spH v u (w + (p + 1)) s i o _ (out ++ List.replicate (p + 1) (tokOut i))
      rw [List.replicate_succ', List.append_assoc]; rfl
    · obtain rfl : p = ins.length - stay ins n := by omega
      have e0 : ins.length - (ins.length - stay ins n) = stay ins n := by omega
      rw [e0]
      have hle : ins[stay ins n - 1]'(by omega) ≤ n := stay_in n ins _ (by omega) (by omega)
      have hlen : (ins.take (stay ins n)).length = stay ins n := by simp; omega
      have hw : IntKind.i64.wrap (((ins.take (stay ins n)).length : Nat) - 1) = ((stay ins n - 1 : Nat) : Int) := by rw [IntWalk.i64_in _ ⟨by omega, by omega⟩]; omega
      refine pa [.v .top, .v (.int .i64 ((ins[stay ins n - 1]'(by omega) : Nat))), .b false] rfl ?_ ?_
      · (repeat' with_reducible apply AllP_cons) <;> try exact aC
        show (List.drop (IntKind.i64.wrap (((ins.take (stay ins n)).length : Nat) - 1)).toNat (ints (ins.take (stay ins n))))[0]? = _
        rw [hw, Int.toNat_natCast, List.getElem?_drop, Nat.add_zero, ints_get (by omega)]; simp
      exact S_nil ⟨_, _, rfl, trivial, rfl, rfl⟩
def spHI (v u w : Nat) (s : List UInt8) (i : Nat) (o : Int) (ins : List Nat) (out : List Tok) : Heap := [(v, some (.cells [.str s, .int .i64 i, .int .i64 o, insV u ins, outV w out] ⟨false, some 64⟩)), insB u ins, outB w out]
def SpEnd (s : List UInt8) (x : Flt ⊕ (Nat × Nat × List Nat × List Tok)) (v : Nat) : Out → Heap → Prop := fun e σ => match x with
  | .inl x => e = .panic (flt x) ∧ ∃ v u w i o ins out, σ = spHI v u w s i o ins out
  | .inr (i, o, ins, out) => ∃ u w, e = .ret (.tup []) ∧ σ = spH v u w s i o ins out
def begS (n i o : Nat) (ins : List Nat) (out : List Tok) : Flt ⊕ (Nat × Nat × List Nat × List Tok) := match furS n i ins with
  | .inl x => .inl x
  | .inr (ins', l) => .inr (i, o, ins', out ++ l)
theorem begin_ok (v u w : Nat) (s : List UInt8) (i o : Nat) (ins : List Nat) (out : List Tok) (n : Nat) (hi : Insok ins) (hl : ins.length ≤ 31) (ho : out.length ≤ 900000) :
    CallOk cx 27 [.ptr 0 v 0, .int .i64 n] (spH v u w s i o ins out) (SpEnd s (begS n i o ins out) v) :=
  callOk_intro (fun a w => Tryz.call27 a w) Tryz.func27 rfl Tryz.ntmps27 rfl fun B => by
    have hpos := hi.pos
    have hw : IntKind.i64.wrap ((ins.length : Nat) - 1) = ((ins.length - 1 : Nat) : Int) := by rw [IntWalk.i64_in _ ⟨by omega, by omega⟩]; omega
    have hel : ins.getD (ins.length - 1) 0 = ins[ins.length - 1] := by simp [List.getD, List.getElem?_eq_getElem (show ins.length - 1 < ins.length by omega)]
    have hld : (List.drop (IntKind.i64.wrap ((ins.length : Nat) - 1)).toNat (ints ins))[0]? = some (.int .i64 (ins[ins.length - 1] : Nat)) := by
      rw [hw, Int.toNat_natCast, List.getElem?_drop, Nat.add_zero, ints_get (by omega)]
    unfold begS furS
    rw [hel]
    by_cases h1 : ins[ins.length - 1] < n
    · rw [if_pos h1]
      by_cases h2 : 30 < ins.length
      · rw [if_pos h2]
        refine pB [.v .top, .v (.int .i64 (ins[ins.length - 1] : Nat)), .b true, .b true] rfl ?_
        exact S_callP rfl rfl rfl (failH v u w s i o ins out 2 i) ⟨rfl, v, u, w, i, o, ins, out, rfl⟩
      · rw [if_neg h2]
        refine pa [.v .top, .v (.int .i64 (ins[ins.length - 1] : Nat)), .b true, .b false] rfl ?_ ?_
        · (repeat' with_reducible apply AllP_cons) <;> try exact aC
          · show 0 + ins.length * 1 = (ints ins).length; rw [ints_len]; omega
          · show (ins.length + 1) * 8 ≤ 140737488355328; omega
        refine pa [.c (.tup []) (spH v (u + 1) (w + 1) s i o (ins ++ [n]) (out ++ [tokIn i]))] rfl ?_ ?_
        · (repeat' with_reducible apply AllP_cons) <;> try exact aC
          exact putS v (u + 1) w s i o (ins ++ [n]) out _ (by show [spB v s i o (.ms 1 (u + 1) 0 (ins.length + 1) 1 false) (outV w out), (u + 1, some (Box.cells (ints ins ++ [.int .i64 (n : Nat)]) ⟨false, none⟩)), outB w out] = spH v (u + 1) w s i o (ins ++ [n]) out; rw [ints_app, spH, insV, List.length_append]; rfl) 7 [] i (by omega)
        exact S_nil ⟨_, _, rfl, trivial, _, _, rfl, rfl⟩
    · rw [if_neg h1]
      by_cases h2 : n ∈ ins
      · rw [if_pos h2]
        refine pa [.v .top, .v (.int .i64 (ins[ins.length - 1] : Nat)), .b false, .v (.bool (decide (n ∈ ins))), .b false, .c (.tup []) (spH v u (w + (ins.length - stay ins n)) s i o (ins.take (stay ins n)) (out ++ List.replicate (ins.length - stay ins n) (tokOut i)))] rfl ?_ ?_
        · (repeat' with_reducible apply AllP_cons) <;> try exact aC
          · exact ⟨_, ContainsI_ok ins n (by omega), .cons (insFz rfl) (.cons (.refl .int) (.nil _))⟩
          · rw [decide_eq_true h2]; rfl
          · exact back_ok v u w s i o ins out n hi hl ho
        exact S_nil ⟨_, _, rfl, trivial, _, _, rfl, rfl⟩
      · rw [if_neg h2]
        refine pa [.v .top, .v (.int .i64 (ins[ins.length - 1] : Nat)), .b false, .v (.bool (decide (n ∈ ins))), .b true] rfl ?_ ?_
        · (repeat' with_reducible apply AllP_cons) <;> try exact aC
          · exact ⟨_, ContainsI_ok ins n (by omega), .cons (insFz rfl) (.cons (.refl .int) (.nil _))⟩
          · rw [decide_eq_false h2]; rfl
        exact S_callP rfl rfl rfl (failH v u w s i o ins out 4 i) ⟨rfl, v, u, w, i, o, ins, out, rfl⟩
end Go.Proofs.YtmdegomejbpldaaGreatDoor
end
section
set_option linter.unusedVariables false
set_option linter.unusedSimpArgs false
set_option maxRecDepth 20000
namespace Go.Proofs.YtmdegomejbpldaaGreatDoor
open Go Go.Ab
theorem prefix_take {s p : List UInt8} (h : p.length ≤ s.length) : (s.take p.length == p) = p.isPrefixOf s := by
  rw [Bool.eq_iff_iff, beq_iff_eq, List.isPrefixOf_iff_prefix, List.prefix_iff_eq_take]
  exact ⟨fun h => h.symm, fun h => h.symm⟩
theorem prefix_short {s p : List UInt8} (h : ¬ p.length ≤ s.length) : p.isPrefixOf s = false := by
  cases hp : p.isPrefixOf s with
  | false => rfl
  | true => exact absurd (List.isPrefixOf_iff_prefix.1 hp).length_le h
theorem HasPrefix2_ok (s p : List UInt8) : Calc cx 90 [.str s, .str p] (.bool (p.isPrefixOf s)) :=
  pure_intro (fun a w => Tryz.call90 a w) Tryz.func90 rfl Tryz.ntmps90 rfl .bool fun B => by
    by_cases h : p.length ≤ s.length
    · refine pB [.b true] rfl ?_
      refine S_retc .bool rfl trivial ?_
      exact congrArg AV.bool (prefix_take h)
    · refine pB [.b false] rfl ?_
      refine S_retc .bool rfl trivial ?_
      rw [prefix_short h]; rfl
theorem HasPrefix_ok (s p : List UInt8) : Calc cx 82 [.str s, .str p] (.bool (p.isPrefixOf s)) :=
  pure_intro (fun a w => Tryz.call82 a w) Tryz.func82 rfl Tryz.ntmps82 rfl .bool fun B => by
    refine pa [.v (.bool (p.isPrefixOf s))] rfl ?_ ?_
    · (repeat' with_reducible apply AllP_cons) <;> try exact aC
      exact ⟨_, HasPrefix2_ok s p, .cons (.refl .str) (.cons (.refl .str) (.nil _))⟩
    exact S_retc .bool rfl trivial rfl
end Go.Proofs.YtmdegomejbpldaaGreatDoor
end
section
set_option linter.unusedVariables false
set_option linter.unusedSimpArgs false
set_option maxRecDepth 20000
namespace Go.Proofs.YtmdegomejbpldaaGreatDoor
open Go Go.Ab
section
variable {cx : Cx} {n : Nat} {B : Bs} {k : List AI} {Q : Post} {fr : Fr} {σ : Heap}
theorem S_ext {all : Array Oper} {o : Oper} {l : List Oper} {K : List Nat} {f : FuncId} {args : List AV} {res : AV}
    (hext : ∀ (r : Rl) (w : World) (vs : Array Value), VRels r w vs args → ∃ v, (callFunc f vs).run cx.P w = .ok (.value v) w ∧ VRel r w v res) (hc : callA cx fr o.op = some (f, args)) (hg : guardA all o K fr = some true)
    (hd : dstOk n o.dst = true) (hk : S cx n B (.ops all l K :: k) Q (setA o.dst res fr) σ) : S cx n B (.ops all (o :: l) K :: k) Q fr σ := by
  refine S_do hg hd (fun r a w hi hf => ?_) hk
  obtain ⟨vs, h1, h2⟩ := callA_go hi hf hc
  obtain ⟨v, h3, h4⟩ := hext r w vs h2
  exact ⟨r, w, v, .inl (by rw [h1, h3]), h4, hi, Ext.refl _ _ _⟩
end
theorem ixb (s : List UInt8) (c : Int) (r : Rl) (w : World) (vs : Array Value) (h : VRels r w vs [.str s, .int .u8 c]) :
    ∃ v, (callFunc 79 vs).run cx.P w = .ok (.value v) w ∧ VRel r w v (.int .i64 (Lib.indexByte s c.toNat.toUInt8)) := by
  obtain ⟨hs, hv⟩ := h
  obtain ⟨x, y, rfl⟩ : ∃ x y, vs = #[x, y] := by
    rcases vs with ⟨l⟩
    match l, hs with
    | [x, y], _ => exact ⟨x, y, rfl⟩
  have h0 := hv 0 (by simp)
  have h1 := hv 1 (by simp)
  simp only [List.getElem_cons_zero, List.getElem_cons_succ] at h0 h1
  have h0 : VRel r w x (.str s) := h0
  have h1 : VRel r w y (.int .u8 c) := h1
  cases h0 with
  | str h =>
    subst h
    cases h1
    refine ⟨_, ?_, .int⟩
    show (callFunc 79 _).run Tryz.prog w = _
    rw [run_callFunc_extern Tryz.func79 rfl rfl rfl (e := Extern.BytealgIndexByte.indexByte) rfl, Lib.run_indexByteString]
    rfl
theorem indexByteS_ok (s : List UInt8) (c : Int) : Calc cx 65 [.str s, .int .u8 c] (.int .i64 (Lib.indexByte s c.toNat.toUInt8)) :=
  pure_intro (fun a w => Tryz.call65 a w) Tryz.func65 rfl Tryz.ntmps65 rfl .int fun B => by
    refine ab 1000 rfl trivial ?_
    refine S_ext (ixb s c) rfl rfl rfl ?_
    refine ab 1000 rfl trivial ?_
    exact S_retc .int rfl trivial rfl
theorem indexByte_ok (s : List UInt8) (c : Int) : Calc cx 46 [.str s, .int .u8 c] (.int .i64 (Lib.indexByte s c.toNat.toUInt8)) :=
  pure_intro (fun a w => Tryz.call46 a w) Tryz.func46 rfl Tryz.ntmps46 rfl .int fun B => by
    refine ab 1000 rfl trivial ?_
    refine S_pure rfl rfl rfl (indexByteS_ok s c) (.cons (.refl .str) (.cons (.refl .int) (.nil _))) ?_
    refine ab 1000 rfl trivial ?_
    exact S_retc .int rfl trivial rfl
end Go.Proofs.YtmdegomejbpldaaGreatDoor
end
section
set_option linter.unusedVariables false
set_option linter.unusedSimpArgs false
namespace Go.Ab
open Go
def Cx.at (cx : Cx) (g : Nat) (m : Int) : Cx := { cx with G := fun k => bif Nat.beq k g then some [.int .i64 m] else cx.G k }
theorem Globs.at {cx : Cx} {r : Rl} {w : World} {g : Nat} (h : Globs cx r w) (hU : cx.U g = true) : ∃ m, Globs (cx.at g m) r w := by
  obtain ⟨h1, m, h2⟩ := h.U g hU
  refine ⟨m, fun k cs hk => ?_, h.U, h.X⟩
  have h3 : (bif Nat.beq k g then some [AV.int .i64 m] else cx.G k) = some cs := hk
  cases hb : Nat.beq k g with
  | true =>
    rw [hb] at h3
    obtain rfl := Nat.eq_of_beq_eq_true hb
    obtain rfl := Option.some.inj (show some [AV.int .i64 m] = some cs from h3)
    refine ⟨h1, fun i hi => ?_⟩
    obtain rfl : i = 0 := by simpa using hi
    exact ⟨_, h2, .int, .int⟩
  | false => rw [hb] at h3; exact h.G k cs h3
theorem Globs.un {cx : Cx} {r : Rl} {w : World} {g : Nat} {m : Int} (h : Globs (cx.at g m) r w) (hG : cx.G g = none) : Globs cx r w := by
  refine ⟨fun k cs hk => h.G k cs ?_, h.U, h.X⟩
  show (bif Nat.beq k g then some [AV.int .i64 m] else cx.G k) = some cs
  cases hb : Nat.beq k g with
  | true => rw [Nat.eq_of_beq_eq_true hb, hG] at hk; cases hk
  | false => exact hk
theorem Inv.cx {cx cx' : Cx} {r : Rl} {σ : Heap} {w : World} (h : Inv cx r σ w) (hg : Globs cx' r w) (hP : cx'.P = cx.P := by rfl) : Inv cx' r σ w := ⟨by rw [hP]; exact h.box, h.lt, h.inj, h.imm, h.Ilt, h.SI, hg⟩
theorem CallOk.ofU {cx : Cx} {f : FuncId} {args : List AV} {σ : Heap} {R : Out → Heap → Prop} (g : Nat) (hU : cx.U g = true) (hG : cx.G g = none) (h : ∀ m, CallOk (cx.at g m) f args σ R) : CallOk cx f args σ R := by
  refine ⟨(h 0).1, fun r w vs hi hv => ?_⟩
  obtain ⟨m, hm⟩ := hi.glob.at hU
  refine ((h m).2 r w vs (hi.cx hm) hv).mono fun e w' ⟨o, σ', r', h1, h2, h3, h4⟩ => ⟨o, σ', r', h1, h2, h3.cx (h3.glob.un hG), h4⟩
theorem Calc.ofU {cx : Cx} {f : FuncId} {args : List AV} {res : AV} (g : Nat) (hU : cx.U g = true) (hG : cx.G g = none) (h : ∀ m, Calc (cx.at g m) f args res) : Calc cx f args res :=
  ⟨(h 0).free, CallOk.ofU g hU hG fun m => (h m).call⟩
theorem CallOk.at {cx : Cx} {f : FuncId} {args : List AV} {σ : Heap} {R : Out → Heap → Prop} (g : Nat) (m : Int) (hG : cx.G g = none) (h : CallOk cx f args σ R) : CallOk (cx.at g m) f args σ R := by
  refine ⟨h.1, fun r w vs hi hv => ?_⟩
  refine (h.2 r w vs (hi.cx (hi.glob.un hG)) hv).mono fun e w' ⟨o, σ', r', h1, h2, h3, h4⟩ => ⟨o, σ', r', h1, h2, h3.cx (hi.glob.mono (h4.grow hi) hi.SI), h4⟩
theorem Calc.at {cx : Cx} {f : FuncId} {args : List AV} {res : AV} (g : Nat) (m : Int) (hG : cx.G g = none) (h : Calc cx f args res) : Calc (cx.at g m) f args res := ⟨h.free, h.call.at g m hG⟩
section
variable {cx : Cx} {n : Nat} {B : Bs} {k : List AI} {Q : Post} {fr : Fr} {σ : Heap}
theorem S_extI {all : Array Oper} {o : Oper} {l : List Oper} {K : List Nat} {f : FuncId} {args : List AV} {res : AV}
    (hext : ∀ (r : Rl) (w : World) (vs : Array Value), Globs cx r w → VRels r w vs args → ∃ v, (callFunc f vs).run cx.P w = .ok (.value v) w ∧ VRel r w v res) (hc : callA cx fr o.op = some (f, args)) (hg : guardA all o K fr = some true)
    (hd : dstOk n o.dst = true) (hk : S cx n B (.ops all l K :: k) Q (setA o.dst res fr) σ) : S cx n B (.ops all (o :: l) K :: k) Q fr σ := by
  refine S_do hg hd (fun r a w hi hf => ?_) hk
  obtain ⟨vs, h1, h2⟩ := callA_go hi hf hc
  obtain ⟨v, h3, h4⟩ := hext r w vs hi.glob h2
  exact ⟨r, w, v, .inl (by rw [h1, h3]), h4, hi, Ext.refl _ _ _⟩
end
end Go.Ab
end
section
set_option linter.unusedVariables false
set_option linter.unusedSimpArgs false
set_option maxRecDepth 20000
namespace Go.Proofs.YtmdegomejbpldaaGreatDoor
open Go Go.Ab
theorem nextLetter_ok (c : UInt8) : Calc cx 70 [.int .u8 (c.toNat : Nat)] (.bool (isLet c || isDg c)) :=
  pure_intro (fun a w => Tryz.call70 a w) Tryz.func70 rfl Tryz.ntmps70 rfl .bool fun B => by
    cases h : isLet c with
    | true =>
      refine pa [.v (.bool (isLet c)), .b true] rfl ?_ ?_
      · (repeat' with_reducible apply AllP_cons) <;> try exact aC
        exact ⟨_, isLetter_ok c, .cons (.refl .int) (.nil _)⟩
      exact S_retc .bool rfl trivial rfl
    | false =>
      refine pa [.v (.bool (isLet c)), .b false, .v (.bool (isDg c))] rfl ?_ ?_
      · (repeat' with_reducible apply AllP_cons) <;> try exact aC
        · exact ⟨_, isLetter_ok c, .cons (.refl .int) (.nil _)⟩
        · exact ⟨_, isDigit_ok c, .cons (.refl .int) (.nil _)⟩
      exact S_retc .bool rfl trivial rfl
theorem byteBack (c : UInt8) : ((c.toNat : Int).toNat.toUInt8) = c := by rw [Int.toNat_natCast]; simp
theorem Index1_ok (a : List UInt8) (c : UInt8) (ha : a.length = 3) : Calc cx 99 [.str a, .str [c]] (.int .i64 (Lib.indexByte a c)) :=
  pure_intro (fun a w => Tryz.call99 a w) Tryz.func99 rfl Tryz.ntmps99 rfl .int fun B => by
    obtain ⟨x, y, z, rfl⟩ : ∃ x y z, a = [x, y, z] := by
      match a, ha with
      | [x, y, z], _ => exact ⟨x, y, z, rfl⟩
    refine pa [.b false, .b false, .b true, .v (.int .i64 (Lib.indexByte [x, y, z] c))] rfl ?_ ?_
    · (repeat' with_reducible apply AllP_cons) <;> try exact aC
      · exact beq_false_of_ne (by simp)
      · have h := indexByteS_ok [x, y, z] (c.toNat : Int)
        rw [byteBack] at h
        exact ⟨_, h, .cons (.refl .str) (.cons (.refl .int) (.nil _))⟩
    exact S_retc .int rfl trivial rfl
theorem ixs (a b : List UInt8) (m : Int) (h2 : 2 ≤ b.length) (hm : (b.length : Int) ≤ m) (ha : a.length < 4294967281) (r : Rl) (w : World) (vs : Array Value) (hG : Globs (cx.at 2 m) r w) (h : VRels r w vs [.str a, .str b]) :
    ∃ v, (callFunc 103 vs).run cx.P w = .ok (.value v) w ∧ VRel r w v (.int .i64 (Lib.index a b)) := by
  obtain ⟨hs, hv⟩ := h
  obtain ⟨x, y, rfl⟩ : ∃ x y, vs = #[x, y] := by
    rcases vs with ⟨l⟩
    match l, hs with
    | [x, y], _ => exact ⟨x, y, rfl⟩
  have h0 : VRel r w x (.str a) := hv 0 (by simp)
  have h1 : VRel r w y (.str b) := hv 1 (by simp)
  cases h0 with
  | str h0 =>
    cases h1 with
    | str h1 =>
      rename_i s t
      subst h0; subst h1
      obtain ⟨_, hc⟩ := hG.G 2 [.int .i64 m] rfl
      obtain ⟨v, hc1, hc2, _⟩ := hc 0 (by simp)
      cases hc2
      refine ⟨_, ?_, .int⟩
      show (callFunc 103 _).run Tryz.prog w = _
      rw [run_callFunc_extern Tryz.func103 rfl rfl rfl (e := Extern.BytealgIndex.index) rfl]
      rw [Lib.run_indexString s t w 2 m (by kernel_rfl) hc1 (by simpa using h2) (by simpa using hm) (by simpa using ha)]
      rfl
theorem Index2_ok (a : List UInt8) (c d : UInt8) (ha : a.length = 3) (hc : c ∉ a) : Calc cx 99 [.str a, .str [c, d]] (.int .i64 (-1)) := by
  refine Calc.ofU 2 rfl rfl fun m => pure_intro (fun a w => Tryz.call99 a w) Tryz.func99 rfl Tryz.ntmps99 rfl .int fun B => ?_
  obtain ⟨x, y, z, rfl⟩ : ∃ x y z, a = [x, y, z] := by
    match a, ha with
    | [x, y, z], _ => exact ⟨x, y, z, rfl⟩
  simp only [List.mem_cons, List.not_mem_nil, or_false, not_or] at hc
  obtain ⟨n1, n2, n3⟩ := hc
  by_cases hm : 2 ≤ m
  · refine pa [.b false, .b false, .b false, .b false, .b true, .b true] rfl ?_ ?_
    · (repeat' with_reducible apply AllP_cons) <;> try exact aC
      · exact beq_false_of_ne (by simp)
    refine S_extI (ixs [x, y, z] [c, d] m (by simp) (by simpa using hm) (by simp)) rfl rfl rfl ?_
    refine ab 1000 rfl trivial ?_
    refine S_retc .int rfl trivial ?_
    have : Lib.index [x, y, z] [c, d] = -1 := by simp [Lib.index, n1, n2, n3]
    rw [this]; rfl
  · refine pa [.b false, .b false, .b false, .b false, .b false, .b false] rfl ?_ ?_
    · (repeat' with_reducible apply AllP_cons) <;> try exact aC
      · exact beq_false_of_ne (by simp)
    refine S_while (α := Unit) (fun _ => [(0, .str [x, y, z]), (1, .str [c, d]), (6, .int .u8 (c.toNat : Nat)), (8, .int .i64 0), (9, .int .i64 2)]) (fun _ => []) (fun _ => True) (fun _ => 0) ()
      trivial (.cons rfl (.cons rfl (.cons rfl (.cons rfl (.cons rfl (.nil _)))))) rfl ?_
    rintro _ _
    refine pa [.b true, .b true, .v (.int .i64 (-1)), .b true] rfl ?_ ?_
    · (repeat' with_reducible apply AllP_cons) <;> try exact aC
      · exact bne_iff_ne.2 (fun h => n1 (UInt8.toNat_inj.1 (Int.ofNat.inj h)).symm)
      · have h := (indexByteS_ok [y] (c.toNat : Int)).at 2 m rfl
        rw [byteBack, show Lib.indexByte [y] c = -1 by simp [Lib.indexByte, Ne.symm n2]] at h
        exact ⟨_, h, .cons (.refl .str) (.cons (.refl .int) (.nil _))⟩
    exact S_retc .int rfl trivial rfl
theorem two_none : ∀ t ∈ signs18, t.length = 2 → ∃ c d, t = [c, d] ∧ c ∉ ([40, 91, 123] : List UInt8) ∧ c ∉ ([41, 93, 125] : List UInt8) := by
  intro t ht h
  simp only [signs18, List.mem_cons, List.not_mem_nil, or_false] at ht
  rcases ht with rfl | rfl | rfl | rfl | rfl | rfl | rfl | rfl | rfl | rfl | rfl | rfl | rfl | rfl | rfl | rfl | rfl | rfl <;> first | (simp at h; done) | exact ⟨_, _, rfl, by decide, by decide⟩
theorem one_or_two : ∀ t ∈ signs18, t.length = 2 ∨ ∃ c, t = [c] := by
  intro t ht
  simp only [signs18, List.mem_cons, List.not_mem_nil, or_false] at ht
  rcases ht with rfl | rfl | rfl | rfl | rfl | rfl | rfl | rfl | rfl | rfl | rfl | rfl | rfl | rfl | rfl | rfl | rfl | rfl <;> first | exact .inl rfl | exact .inr ⟨_, rfl⟩
theorem Contains_ok (a : List UInt8) (t : List UInt8) (ha : a.length = 3) (h2 : t.length = 2 → ∃ c d, t = [c, d] ∧ c ∉ a) (h1 : t.length = 2 ∨ ∃ c, t = [c]) :
    Calc cx 83 [.str a, .str t] (.bool (decide (t ∈ a.map ([·])))) := by
  have key : ∃ i : Int, Calc cx 99 [.str a, .str t] (.int .i64 i) ∧ (0 ≤ i ↔ t ∈ a.map ([·])) := by
    rcases h1 with h | ⟨c, rfl⟩
    · obtain ⟨c, d, rfl, hc⟩ := h2 h
      refine ⟨-1, Index2_ok a c d ha hc, by simp⟩
    · refine ⟨_, Index1_ok a c ha, ?_⟩
      match a, ha with
      | [x, y, z], _ =>
        simp only [Lib.indexByte, List.map_cons, List.map_nil, List.mem_cons, List.not_mem_nil, or_false, List.cons.injEq, and_true]
        by_cases h1 : x = c
        · simp [h1]
        · by_cases h2 : y = c
          · simp [h1, h2]
          · by_cases h3 : z = c
            · simp [h1, h2, h3]
            · simp [h1, h2, h3, Ne.symm h1, Ne.symm h2, Ne.symm h3]
  obtain ⟨i, hi, hiff⟩ := key
  have hI : Calc cx 91 [.str a, .str t] (.int .i64 i) := pure_intro (fun a w => Tryz.call91 a w) Tryz.func91 rfl Tryz.ntmps91 rfl .int fun B => by
    refine pa [.v (.int .i64 i)] rfl ?_ ?_
    · (repeat' with_reducible apply AllP_cons) <;> try exact aC
      exact ⟨_, hi, .cons (.refl .str) (.cons (.refl .str) (.nil _))⟩
    exact S_retc .int rfl trivial rfl
  exact pure_intro (fun a w => Tryz.call83 a w) Tryz.func83 rfl Tryz.ntmps83 rfl .bool fun B => by
    refine pa [.v (.int .i64 i)] rfl ?_ ?_
    · (repeat' with_reducible apply AllP_cons) <;> try exact aC
      exact ⟨_, hI, .cons (.refl .str) (.cons (.refl .str) (.nil _))⟩
    refine S_retc .bool rfl trivial ?_
    exact congrArg AV.bool (decide_eq_decide.2 hiff)
end Go.Proofs.YtmdegomejbpldaaGreatDoor
end
section
set_option linter.unusedVariables false
set_option linter.unusedSimpArgs false
set_option maxRecDepth 20000
namespace Go.Proofs.YtmdegomejbpldaaGreatDoor
open Go Go.Ab
def firstF (l : List (List UInt8)) (P : List UInt8 → Bool) : Int := match l.findIdx? P with | some i => i | none => -1
theorem IndexFunc_ok {st fl : Bool} {σ : Heap} (F : FuncId) (caps : List AV) (P : List UInt8 → Bool) (l : List (List UInt8)) (hl : l.length ≤ 1000000) (hF : ∀ x, CallOk cx F (.str x :: caps) σ (fun e s => e = .ret (.bool (P x)) ∧ s = σ)) :
    CallOk cx 76 [.sl st fl 1 (texts l), .func (.func F) [] caps] σ (fun e s => e = .ret (.int .i64 (firstF l P)) ∧ s = σ) :=
  callOk_intro (fun a w => Tryz.call76 a w) Tryz.func76 rfl Tryz.ntmps76 rfl fun B => by
    have htl := texts_len l
    refine pB [] rfl ?_
    refine S_while (α := Nat) (fun i => [(0, .sl st fl 1 (texts l)), (1, .func (.func F) [] caps), (7, .int .i64 (l.length : Nat)), (8, .int .i64 (i : Nat))]) (fun _ => σ) (fun i => i ≤ l.length ∧ ∀ x ∈ l.take i, P x = false) (fun i => l.length - i) 0
      ⟨Nat.zero_le _, by simp⟩ (.cons rfl (.cons rfl (.cons (by show AV.int .i64 ((texts l).length : Nat) = _; rw [htl]) (.cons rfl (.nil _))))) rfl ?_
    rintro i ⟨hi, hN⟩
    have hi : i ≤ l.length := hi
    by_cases hlt : i < l.length
    · have e1 : (texts l)[(i : Int).toNat]? = some (.str l[i]) := texts_get hlt
      cases hp : P l[i] with
      | true =>
        refine pa [.b true, .v (.str l[i]), .k (.bool true), .b true] rfl ?_ ?_
        · (repeat' with_reducible apply AllP_cons) <;> try exact aC
          have := hF l[i]; rw [hp] at this; exact this
        refine S_ret ⟨_, _, rfl, trivial, ?_, rfl⟩
        have : l.findIdx? P = some i := List.findIdx?_eq_some_iff_getElem.2 ⟨hlt, hp, fun j hj => by
          rw [hN _ (List.mem_take_iff_getElem.2 ⟨j, by omega, rfl⟩)]; decide⟩
        rw [firstF, this]; rfl
      | false =>
        refine pa [.b true, .v (.str l[i]), .k (.bool false), .b false] rfl ?_ ?_
        · (repeat' with_reducible apply AllP_cons) <;> try exact aC
          have := hF l[i]; rw [hp] at this; exact this
        refine S_round (i + 1) (by show l.length - (i + 1) < l.length - i; omega) ⟨hlt, fun x hm => ?_⟩ (.cons rfl (.cons rfl (.cons rfl (.cons (ai64 rfl (by omega)) (.nil _))))) rfl
        rw [List.take_succ_eq_append_getElem hlt] at hm
        rcases List.mem_append.1 hm with hm | hm
        · exact hN x hm
        · simp at hm; rw [hm]; exact hp
    · obtain rfl : i = l.length := by omega
      rw [List.take_length] at hN
      refine pB [.b false] rfl ?_
      refine S_ret ⟨_, _, rfl, trivial, ?_, rfl⟩
      have : l.findIdx? P = none := List.findIdx?_eq_none_iff.2 (fun x hx => by rw [hN x hx])
      rw [firstF, this]; rfl
def spS (v u w q : Nat) (s : List UInt8) (i o : Nat) (ins : List Nat) (out : List Tok) : Heap := [spB v s i o (insV u ins) (outV w out), insB u ins, outB w out, (q, some (.cells [.ptr 0 v 0] ⟨false, none⟩))]
def spSI (v u w q : Nat) (s : List UInt8) (i o : Int) (ins : List Nat) (out : List Tok) : Heap := [(v, some (.cells [.str s, .int .i64 i, .int .i64 o, insV u ins, outV w out] ⟨false, some 64⟩)), insB u ins, outB w out, (q, some (.cells [.ptr 0 v 0] ⟨false, none⟩))]
theorem signF_ok (v u w q : Nat) (s : List UInt8) (i o : Nat) (ins : List Nat) (out : List Tok) (x : List UInt8) (hi : i ≤ s.length) :
    CallOk cx 81 [.str x, .ptr 3 q 0] (spS v u w q s i o ins out) (fun e σ => e = .ret (.bool (x.isPrefixOf (s.drop i))) ∧ σ = spS v u w q s i o ins out) :=
  callOk_intro (fun a w => Tryz.call81 a w) Tryz.func81 rfl Tryz.ntmps81 rfl fun B => by
    refine pa [.v (.bool (x.isPrefixOf (s.drop i)))] rfl ?_ ?_
    · (repeat' with_reducible apply AllP_cons) <;> try exact aC
      exact ⟨_, HasPrefix_ok (s.drop i) x, .cons (.refl .str) (.cons (.refl .str) (.nil _))⟩
    exact S_ret ⟨_, _, rfl, trivial, rfl, rfl⟩
theorem firstF_find {l : List (List UInt8)} {P : List UInt8 → Bool} : (l.find? P = none ∧ firstF l P = -1) ∨ ∃ (i : Nat) (h : i < l.length), l.find? P = some l[i] ∧ firstF l P = i := by
  cases hf : l.findIdx? P with
  | none =>
    left
    refine ⟨?_, by rw [firstF, hf]⟩
    rw [List.findIdx?_eq_none_iff] at hf
    exact List.find?_eq_none.2 (fun x hx => by rw [hf x hx]; decide)
  | some i =>
    right
    obtain ⟨h1, h2, h3⟩ := List.findIdx?_eq_some_iff_getElem.1 hf
    refine ⟨i, h1, ?_, by rw [firstF, hf]⟩
    rw [List.find?_eq_some_iff_getElem]
    exact ⟨h2, i, h1, rfl, fun j hj => by simpa using h3 j hj⟩
def sgnS (s : List UInt8) (i o : Nat) : Flt ⊕ (Tok × Nat × Nat) := match signAt s i with
  | none => .inl (1, i)
  | some t =>
    if t ∈ opens then (if 30 ≤ o then .inl (2, i) else .inr (⟨4, t, 0, i⟩, i + t.length, o + 1))
    else if t ∈ closes then (if o = 0 then .inl (1, i) else .inr (⟨4, t, 0, i⟩, i + t.length, o - 1))
    else .inr (⟨4, t, 0, i⟩, i + t.length, o)
def endS (x : Flt ⊕ (Tok × Nat × Nat)) (ins : List Nat) (out : List Tok) : Flt ⊕ (Nat × Nat × List Nat × List Tok) := match x with
  | .inl e => .inl e
  | .inr (t, j, o) => .inr (j, o, ins, out ++ [t])
theorem opens_eq : opens = ([40, 91, 123] : List UInt8).map ([·]) := rfl
theorem closes_eq : closes = ([41, 93, 125] : List UInt8).map ([·]) := rfl
theorem spH_rn (v u w : Nat) (s : List UInt8) (i o : Nat) (ins : List Nat) (out : List Tok) : RnH (List.range 3) (spH v u w s i o ins out) (spH v u w s i o ins out) := by
  have ht : ∀ x ∈ out.flatMap tokC, Free false x := by
    intro x hx
    obtain ⟨t, _, ht⟩ := List.mem_flatMap.1 hx
    simp only [tokC, List.mem_cons, List.not_mem_nil, or_false] at ht
    rcases ht with rfl | rfl | rfl | rfl
    · exact .int
    · exact .str
    · exact .int
    · exact .int
  exact .cons (.live (.cells (.cons (.free .str) (.cons (.free .int) (.cons (.free .int) (.cons (.ms rfl) (.cons (.ms rfl) (.nil _)))))))) (.cons (.live (.cells (.free (ints_free ins)))) (.cons (.live (.cells (.free ht))) (.nil _)))
theorem spH_low (v u w : Nat) (s : List UInt8) (i o : Nat) (ins : List Nat) (out : List Tok) (τ : Heap) : LowH 3 (spH v u w s i o ins out ++ τ) := by
  refine .of fun e he x hx => ?_
  have he : e ∈ spH v u w s i o ins out := he
  simp only [spH, List.mem_cons, List.not_mem_nil, or_false] at he
  rcases he with rfl | rfl | rfl
  · cases hx
    refine .cells fun y hy => ?_
    simp only [List.mem_cons, List.not_mem_nil, or_false] at hy
    rcases hy with rfl | rfl | rfl | rfl | rfl
    · exact .str
    · exact .int
    · exact .int
    · exact .ms (by decide)
    · exact .ms (by decide)
  · cases hx
    exact .cells fun y hy => Low.free (ints_free (st := false) ins y hy)
  · cases hx
    refine .cells fun y hy => ?_
    obtain ⟨t, _, ht⟩ := List.mem_flatMap.1 hy
    simp only [tokC, List.mem_cons, List.not_mem_nil, or_false] at ht
    rcases ht with rfl | rfl | rfl | rfl
    · exact .int
    · exact .str
    · exact .int
    · exact .int
theorem sign_ok (v u w : Nat) (s : List UInt8) (i o : Nat) (ins : List Nat) (out : List Tok) (hi : i < s.length) (hs : s.length ≤ 1048576) (ho : o ≤ 1000) (hl : out.length ≤ 900000) :
    CallOk cx 73 [.ptr 0 v 0] (spH v u w s i o ins out) (SpEnd s (endS (sgnS s i o) ins out) v) :=
  callOk_introT (fun a w => Tryz.call73 a w) Tryz.func73 rfl Tryz.ntmps73 rfl fun B => by
    have hx := IndexFunc_ok (st := true) (fl := false) 81 [.ptr 3 0 0] (fun x => x.isPrefixOf (s.drop i)) signs18 (by decide) (fun x => signF_ok v u w 0 s i o ins out x (by omega))
    have put4 : ∀ (j o' : Nat) (t : List UInt8), CallOk cx 49 [.ptr 0 v 0, .int .i64 (4 : Nat), .str t, .int .i64 j] (spS v u w 0 s j o' ins out) (fun e σ => e = .ret (.tup []) ∧ σ = spS v u (w + 1) 0 s j o' ins (out ++ [⟨4, t, 0, j⟩])) := fun j o' t =>
      (putH v u w s j o' ins out 4 t j (by omega)).pre1 3 [(0, some (.cells [.ptr 0 v 0] ⟨false, none⟩))] rfl rfl (.cons (.ptr rfl) (.free (by intro x hx; simp at hx; rcases hx with rfl | rfl | rfl; exact .int; exact .str; exact .int))) (spH_rn ..) (spH_rn ..) (.free (.tup (by simp)))
    have lowF : ∀ e : Flt, Low 3 (flt e) := fun e => .iface (.agg (by intro x hx; simp at hx; rcases hx with rfl | rfl; exact .int; exact .int))
    have lowT : FzT 3 (spS v u w 0 s i o ins out) (.tup []) (.tup []) := .low (.tup (by simp))
    unfold sgnS signAt
    rcases firstF_find (l := signs18) (P := fun x => x.isPrefixOf (s.drop i)) with ⟨h1, h2⟩ | ⟨j, hj, h1, h2⟩
    · rw [h1]
      rw [h2] at hx
      refine pB [.k (.int .i64 (-1)), .b true] rfl ?_
      exact S_callP rfl rfl rfl (fail_ok _ v 1 i) ⟨3, Nat.le_refl _, spH_low v u w s i o ins out [(0, some (.cells [.ptr 0 v 0] ⟨false, none⟩))], lowF (1, i), rfl, v, u, w, i, o, ins, out, rfl⟩
    · rw [h1]
      rw [h2] at hx
      obtain ⟨t, ht⟩ : ∃ t, t = signs18[j] := ⟨_, rfl⟩
      rw [← ht]
      have htm : t ∈ signs18 := by rw [ht]; exact List.getElem_mem hj
      have hget : (signs18.map AV.str)[(j : Int).toNat]? = some (.str t) := by rw [Int.toNat_natCast, ht]; simp [hj]
      have htl : 1 ≤ t.length ∧ t.length ≤ 2 := (by decide : ∀ g ∈ signs18, 1 ≤ g.length ∧ g.length ≤ 2) t htm
      have cO := Contains_ok [40, 91, 123] t rfl (fun h => by obtain ⟨c, d, h1, h2, h3⟩ := two_none t htm h; exact ⟨c, d, h1, h2⟩) (one_or_two t htm)
      have cC := Contains_ok [41, 93, 125] t rfl (fun h => by obtain ⟨c, d, h1, h2, h3⟩ := two_none t htm h; exact ⟨c, d, h1, h3⟩) (one_or_two t htm)
      rw [← opens_eq] at cO
      rw [← closes_eq] at cC
      have hfr : Frzs (spS v u w 0 s i o ins out) [.str [40, 91, 123], .str t] [.str [40, 91, 123], .str t] := .cons (.refl .str) (.cons (.refl .str) (.nil _))
      have hfr2 : Frzs (spS v u w 0 s i o ins out) [.str [41, 93, 125], .str t] [.str [41, 93, 125], .str t] := .cons (.refl .str) (.cons (.refl .str) (.nil _))
      have hw1 : IntKind.i64.wrap ((o : Nat) + 1) = ((o + 1 : Nat) : Int) := by rw [IntWalk.i64_in _ ⟨by omega, by omega⟩]; omega
      have hwm : IntKind.i64.wrap ((o : Nat) - 1) = (o : Int) - 1 := by rw [IntWalk.i64_in _ ⟨by omega, by omega⟩]
      have hwt : IntKind.i64.wrap ((i : Nat) + (t.length : Nat)) = ((i + t.length : Nat) : Int) := by
        have : i ≤ s.length := by omega
        rw [IntWalk.i64_in _ ⟨by omega, by omega⟩]; omega
      have hlow : ∀ o : Int, LowH 3 (spSI v u w 0 s i o ins out) := fun o => by
        have h := spH_low v u w s i 0 ins out [(0, some (.cells [.ptr 0 v 0] ⟨false, none⟩))]
        intro id ver x hid hx
        match id, hid with
        | 0, _ =>
          cases hx
          refine .cells fun y hy => ?_
          simp only [List.mem_cons, List.not_mem_nil, or_false] at hy
          rcases hy with rfl | rfl | rfl | rfl | rfl
          · exact .str
          · exact .int
          · exact .int
          · exact .ms (by decide)
          · exact .ms (by decide)
        | 1, _ => exact h 1 ver x (by decide) hx
        | 2, _ => exact h 2 ver x (by decide) hx
      by_cases ho1 : t ∈ opens
      · simp only [ho1, if_true]
        rw [decide_eq_true ho1] at cO
        by_cases ho2 : 30 ≤ o
        · simp only [ho2, if_true]
          refine pa [.k (.int .i64 j), .b false, .v (.str t), .v (.bool true), .b true, .b true] rfl ?_ ?_
          · (repeat' with_reducible apply AllP_cons) <;> try exact aC
            · exact ⟨_, cO, hfr⟩
          exact S_callP rfl rfl rfl (fail_ok _ v 2 i) ⟨3, Nat.le_refl _, hlow _, lowF (2, i), rfl, v, u, w, i, _, ins, out, rfl⟩
        · simp only [ho2, if_false]
          refine pa [.k (.int .i64 j), .b false, .v (.str t), .v (.bool true), .b true, .b false] rfl ?_ ?_
          · (repeat' with_reducible apply AllP_cons) <;> try exact aC
            · exact ⟨_, cO, hfr⟩
          refine S_heap (spS v u w 0 s i (o + 1) ins out) ?_ ?_
          · show spSI v u w 0 s i (IntKind.i64.wrap ((o : Nat) + 1)) ins out = _
            rw [hw1]; rfl
          refine pa [.c (.tup []) (spS v u (w + 1) 0 s i (o + 1) ins (out ++ [⟨4, t, 0, i⟩]))] rfl ?_ ?_
          · (repeat' with_reducible apply AllP_cons) <;> try exact aC
            exact put4 i (o + 1) t
          refine S_heap (spS v u (w + 1) 0 s (i + t.length) (o + 1) ins (out ++ [⟨4, t, 0, i⟩])) ?_ ?_
          · show spSI v u (w + 1) 0 s (IntKind.i64.wrap ((i : Nat) + (t.length : Nat))) ((o + 1) : Nat) ins _ = _
            rw [hwt]; rfl
          exact S_nil ⟨_, _, rfl, trivial, 3, Nat.le_refl _, spH_low v u (w + 1) s (i + t.length) (o + 1) ins _ [(0, some (.cells [.ptr 0 v 0] ⟨false, none⟩))], .tup [], .low (.tup (by simp)), u, w + 1, rfl, rfl⟩
      · simp only [ho1, if_false]
        rw [decide_eq_false ho1] at cO
        by_cases hc1 : t ∈ closes
        · simp only [hc1, if_true]
          rw [decide_eq_true hc1] at cC
          by_cases hc2 : o = 0
          · rw [if_pos hc2]
            refine pa [.k (.int .i64 j), .b false, .v (.str t), .v (.bool false), .b false, .v (.bool true), .b true, .b true] rfl ?_ ?_
            · (repeat' with_reducible apply AllP_cons) <;> try exact aC
              · exact ⟨_, cO, hfr⟩
              · exact ⟨_, cC, hfr2⟩
            exact S_callP rfl rfl rfl (fail_ok _ v 1 i) ⟨3, Nat.le_refl _, hlow _, lowF (1, i), rfl, v, u, w, i, _, ins, out, rfl⟩
          · rw [if_neg hc2]
            refine pa [.k (.int .i64 j), .b false, .v (.str t), .v (.bool false), .b false, .v (.bool true), .b true, .b false] rfl ?_ ?_
            · (repeat' with_reducible apply AllP_cons) <;> try exact aC
              · exact ⟨_, cO, hfr⟩
              · exact ⟨_, cC, hfr2⟩
            refine S_heap (spS v u w 0 s i (o - 1) ins out) ?_ ?_
            · show spSI v u w 0 s i (IntKind.i64.wrap ((o : Nat) - 1)) ins out = _
              rw [hwm, show ((o : Int) - 1) = ((o - 1 : Nat) : Int) by omega]; rfl
            refine pa [.c (.tup []) (spS v u (w + 1) 0 s i (o - 1) ins (out ++ [⟨4, t, 0, i⟩]))] rfl ?_ ?_
            · (repeat' with_reducible apply AllP_cons) <;> try exact aC
              exact put4 i (o - 1) t
            refine S_heap (spS v u (w + 1) 0 s (i + t.length) (o - 1) ins (out ++ [⟨4, t, 0, i⟩])) ?_ ?_
            · show spSI v u (w + 1) 0 s (IntKind.i64.wrap ((i : Nat) + (t.length : Nat))) ((o - 1) : Nat) ins _ = _
              rw [hwt]; rfl
            exact S_nil ⟨_, _, rfl, trivial, 3, Nat.le_refl _, spH_low v u (w + 1) s (i + t.length) (o - 1) ins _ [(0, some (.cells [.ptr 0 v 0] ⟨false, none⟩))], .tup [], .low (.tup (by simp)), u, w + 1, rfl, rfl⟩
        · simp only [hc1, if_false]
          rw [decide_eq_false hc1] at cC
          refine pa [.k (.int .i64 j), .b false, .v (.str t), .v (.bool false), .b false, .v (.bool false), .b false] rfl ?_ ?_
          · (repeat' with_reducible apply AllP_cons) <;> try exact aC
            · exact ⟨_, cO, hfr⟩
            · exact ⟨_, cC, hfr2⟩
          refine pa [.c (.tup []) (spS v u (w + 1) 0 s i o ins (out ++ [⟨4, t, 0, i⟩]))] rfl ?_ ?_
          · (repeat' with_reducible apply AllP_cons) <;> try exact aC
            exact put4 i o t
          refine S_heap (spS v u (w + 1) 0 s (i + t.length) o ins (out ++ [⟨4, t, 0, i⟩])) ?_ ?_
          · show spSI v u (w + 1) 0 s (IntKind.i64.wrap ((i : Nat) + (t.length : Nat))) (o : Nat) ins _ = _
            rw [hwt]; rfl
          exact S_nil ⟨_, _, rfl, trivial, 3, Nat.le_refl _, spH_low v u (w + 1) s (i + t.length) o ins _ [(0, some (.cells [.ptr 0 v 0] ⟨false, none⟩))], .tup [], .low (.tup (by simp)), u, w + 1, rfl, rfl⟩
end Go.Proofs.YtmdegomejbpldaaGreatDoor
end
section
set_option linter.unusedVariables false
set_option linter.unusedSimpArgs false
set_option maxRecDepth 20000
namespace Go.Proofs.YtmdegomejbpldaaGreatDoor
open Go Go.Ab
def quoS (s : List UInt8) (i o : Nat) : Flt ⊕ (Tok × Nat × Nat) := match quoteS (s.drop (i + 1)) (i + 1) [] with
  | .inl p => .inl (1, p)
  | .inr (b, j) => .inr (⟨3, b, 0, i⟩, j, o)
end Go.Proofs.YtmdegomejbpldaaGreatDoor
end
section
set_option linter.unusedVariables false
set_option linter.unusedSimpArgs false
set_option maxRecDepth 20000
namespace Go.Proofs.YtmdegomejbpldaaGreatDoor
open Go Go.Ab
theorem noescape (v : Value) (w : World) : (callFunc 62 #[v]).run cx.P w = .ok (.value v) w := by
  show (callFunc 62 #[v]).run Tryz.prog w = _
  rw [run_callFunc_extern Tryz.func62 rfl rfl rfl (e := Extern.AbiNoEscape.same) rfl]
  rfl
structure HoldsB (T : TypeId) (n : Nat) : Prop where
  pos : 0 < cx.P.cellsOf T
  le : cx.P.cellsOf T ≤ n
  lies : ∀ k, liesAt cx.P cx.P.depth T (k + 1) 0 43 1 = true
def bBox (T : TypeId) (a b : AV) (rest : List AV) : Box := .cells (a :: b :: rest) ⟨false, some T⟩
def byBox (bs : List UInt8) : Box := .cells (bs.map byteAV) ⟨false, some 5⟩
theorem copyCheck_ok {T : TypeId} {rest : List AV} (hT : HoldsB T (rest.length + 1 + 1)) (v : Nat) (a b : AV) (ha : a = .nilp ∨ a = .ptr 0 v 0) (y : Nat × Option Box) :
    CallOk cx 38 [.ptr 0 v 0] [(v, some (bBox T a b rest)), y] (fun o σ' => o = .ret (.tup []) ∧ σ' = [(v, some (bBox T (.ptr 0 v 0) b rest)), y]) :=
  callOk_intro (fun a w => Tryz.call38 a w) Tryz.func38 rfl Tryz.ntmps38 rfl fun B => by
    rcases ha with rfl | rfl
    · refine ab 1000 rfl ⟨rfl, trivial⟩ ?_
      refine S_cond rfl (fun _ => ?_) (fun h => ?_)
      · refine ab 1000 rfl trivial ?_
        refine S_toU rfl rfl rfl ⟨rfl, by simp, by decide, trivial⟩ ?_
        refine S_same noescape rfl rfl rfl ?_
        refine S_fromU rfl rfl rfl ⟨rfl, rfl, hT.pos, hT.le, hT.lies, trivial⟩ ?_
        refine ab 1000 rfl ⟨lble rfl, rfl, trivial⟩ ?_
        exact S_nil ⟨_, _, rfl, trivial, rfl, rfl⟩
      · cases h
    · refine ab 1000 rfl ⟨rfl, trivial⟩ ?_
      refine S_cond rfl (fun h => ?_) (fun _ => ?_)
      · cases h
      · refine ab 1000 rfl ⟨rfl, rfl, trivial⟩ ?_
        refine S_cond rfl (fun h => ?_) (fun _ => ?_)
        · cases h
        · refine ab 1000 rfl trivial ?_
          exact S_nil ⟨_, _, rfl, trivial, rfl, rfl⟩
theorem writeByte_ok {T : TypeId} {rest : List AV} (hT : HoldsB T (rest.length + 1 + 1)) (v u : Nat) (a : AV) (ha : a = .nilp ∨ a = .ptr 0 v 0) (bs : List UInt8) (c : UInt8) (hl : bs.length < 140737488355328) :
    CallOk cx 45 [.ptr 0 v 0, byteAV c] [(v, some (bBox T a (.ms 1 u 0 bs.length 1 false) rest)), (u, some (byBox bs))]
      (fun o σ' => o = .ret .nili ∧ σ' = [(v, some (bBox T (.ptr 0 v 0) (.ms 1 (u + 1) 0 (bs ++ [c]).length 1 false) rest)), (u + 1, some (byBox (bs ++ [c])))]) :=
  callOk_intro (fun a w => Tryz.call45 a w) Tryz.func45 rfl Tryz.ntmps45 rfl fun B => by
    refine ab 1000 rfl trivial ?_
    refine S_call rfl rfl rfl (copyCheck_ok hT v a _ ha _) ?_ (fun v σ' h => by cases h.1)
    rintro _ _ ⟨⟨⟩, rfl⟩
    refine ab 1000 rfl ⟨lble rfl, rfl, ?_, ?_, ?_, rfl, rfl, allOne_mem (cs := [byteAV c]) rfl, allOne_mem (cs := [byteAV c]) rfl, rfl, rfl, trivial⟩ ?_
    · show bs.length + 1 ≤ 9223372036854775807; omega
    · show (bs.length + 1) * 1 ≤ 140737488355328; omega
    · show 0 + bs.length * 1 = (bs.map byteAV).length; simp
    refine S_ret ⟨_, _, rfl, trivial, rfl, ?_⟩
    show [(v, some (Box.cells (_ :: .ms 1 (u + 1) 0 (bs.length + 1) 1 false :: rest) _)), (u + 1, some (.cells (bs.map byteAV ++ [byteAV c]) _))] = _
    simp [byBox, bBox]
    rfl
theorem string_ok {T : TypeId} {rest : List AV} (v u : Nat) (a : AV) (bs : List UInt8) (h0 : bs ≠ []) (hl : bs.length ≤ 140737488355328) :
    CallOk cx 9 [.ptr 0 v 0] [(v, some (bBox T a (.ms 1 u 0 bs.length 1 false) rest)), (u, some (byBox bs))]
      (fun o σ' => o = .ret (.str bs) ∧ σ' = [(v, some (bBox T a (.ms 1 u 0 bs.length 1 false) rest)), (u, none)]) :=
  callOk_intro (fun a w => Tryz.call9 a w) Tryz.func9 rfl Tryz.ntmps9 rfl fun B => by
    refine ab 1000 rfl trivial ?_
    have hpos : 0 < bs.length := List.length_pos_iff.2 h0
    refine S_draw 10 [] [] rfl rfl rfl rfl ⟨rfl, rfl, rfl, rfl, rfl, rfl, hpos, rfl, rfl, rfl, rfl, rfl, rfl, trivial⟩ ?_
    refine S_ustr bs rfl rfl rfl ⟨rfl, rfl, rfl, rfl, h0, by omega, List.take_of_length_le (by simp), trivial⟩ ?_
    refine ab 1000 rfl trivial ?_
    exact S_ret ⟨_, _, rfl, trivial, rfl, rfl⟩
def bufV (u : Nat) : List UInt8 → AV
  | [] => .nils
  | c :: bs => .ms 1 u 0 (c :: bs).length 1 false
def bufB (u : Nat) : List UInt8 → Nat × Option Box
  | [] => (u, none)
  | c :: bs => (u, some (byBox (c :: bs)))
theorem writeByteF_ok {T : TypeId} (hT : HoldsB T 2) (v u : Nat) (a : AV) (ha : a = .nilp ∨ a = .ptr 0 v 0) (c : UInt8) :
    CallOk cx 45 [.ptr 0 v 0, byteAV c] [(v, some (bBox T a .nils [])), (u, none)]
      (fun o σ' => o = .ret .nili ∧ σ' = [(v, some (bBox T (.ptr 0 v 0) (.ms 1 (u + 1) 0 1 1 false) [])), (u + 1, some (byBox [c]))]) :=
  callOk_intro (fun a w => Tryz.call45 a w) Tryz.func45 rfl Tryz.ntmps45 rfl fun B => by
    refine ab 1000 rfl trivial ?_
    refine S_call rfl rfl rfl (copyCheck_ok (rest := []) hT v a .nils ha _) ?_ (fun v σ' h => by cases h.1)
    rintro _ _ ⟨⟨⟩, rfl⟩
    refine pB [] rfl ?_
    exact S_ret ⟨_, _, rfl, trivial, rfl, rfl⟩
theorem writeByteU_ok {T : TypeId} (hT : HoldsB T 2) (v u : Nat) (a : AV) (ha : a = .nilp ∨ a = .ptr 0 v 0) (bs : List UInt8) (c : UInt8) (hl : bs.length < 140737488355328) :
    CallOk cx 45 [.ptr 0 v 0, byteAV c] [(v, some (bBox T a (bufV u bs) [])), bufB u bs]
      (fun o σ' => o = .ret .nili ∧ σ' = [(v, some (bBox T (.ptr 0 v 0) (bufV (u + 1) (bs ++ [c])) [])), bufB (u + 1) (bs ++ [c])]) := by
  cases bs with
  | nil => exact writeByteF_ok hT v u a ha c
  | cons b bs => exact writeByte_ok (rest := []) hT v u a ha (b :: bs) c hl
theorem string0_ok {T : TypeId} (v u : Nat) (a : AV) :
    CallOk cx 9 [.ptr 0 v 0] [(v, some (bBox T a .nils [])), (u, none)]
      (fun o σ' => o = .ret (.str []) ∧ σ' = [(v, some (bBox T a .nils [])), (u, none)]) :=
  callOk_intro (fun a w => Tryz.call9 a w) Tryz.func9 rfl Tryz.ntmps9 rfl fun B => by
    refine pB [] rfl ?_
    refine S_ustr [] rfl rfl rfl ⟨rfl, rfl, trivial⟩ ?_
    refine ab 1000 rfl trivial ?_
    exact S_ret ⟨_, _, rfl, trivial, rfl, rfl⟩
theorem stringU_ok {T : TypeId} (v u : Nat) (a : AV) (bs : List UInt8) (hl : bs.length ≤ 140737488355328) :
    CallOk cx 9 [.ptr 0 v 0] [(v, some (bBox T a (bufV u bs) [])), bufB u bs]
      (fun o σ' => o = .ret (.str bs) ∧ σ' = [(v, some (bBox T a (bufV u bs) [])), (u, none)]) := by
  cases bs with
  | nil => exact string0_ok v u a
  | cons b bs => exact string_ok (rest := []) v u a (b :: bs) (by simp) hl
end Go.Proofs.YtmdegomejbpldaaGreatDoor
end
section
set_option linter.unusedVariables false
set_option linter.unusedSimpArgs false
set_option maxRecDepth 20000
namespace Go.Proofs.YtmdegomejbpldaaGreatDoor
open Go Go.Ab
theorem holdsB : HoldsB 43 2 := ⟨lble rfl, lble rfl, fun k => by kernel_rfl⟩
def bufV4 (u : Nat) : List UInt8 → AV
  | [] => .nils
  | c :: bs => .ms 4 u 0 (c :: bs).length 1 false
def qT (b : Nat) (a : AV) (bs : List UInt8) : Heap := [(0, some (.cells [a, bufV4 b bs] ⟨false, some 43⟩)), bufB b bs]
def spQ (v u w b : Nat) (s : List UInt8) (i o : Nat) (ins : List Nat) (out : List Tok) (a : AV) (bs : List UInt8) : Heap := spH v u w s i o ins out ++ (qT b a bs ++ [])
def spQI (v u w b : Nat) (s : List UInt8) (i : Int) (o : Nat) (ins : List Nat) (out : List Tok) (a : AV) (bs : List UInt8) : Heap :=
  [(v, some (.cells [.str s, .int .i64 i, .int .i64 (o : Nat), insV u ins, outV w out] ⟨false, some 64⟩)), insB u ins, outB w out, (0, some (.cells [a, bufV4 b bs] ⟨false, some 43⟩)), bufB b bs]
theorem bytes_fr {st : Bool} (bs : List UInt8) : ∀ x ∈ bs.map byteAV, Free st x := by
  intro x hx; obtain ⟨y, _, rfl⟩ := List.mem_map.1 hx; exact .int
theorem qT_rn (b : Nat) (a a' : AV) (h : Rn (List.range' 3 2) a a') (bs : List UInt8) : RnH (List.range' 3 2) [(0, some (bBox 43 a (bufV b bs) [])), bufB b bs] (qT b a' bs) := by
  cases bs with
  | nil => exact .cons (.live (.cells (.cons h (.cons (.free .nils) (.nil _))))) (.cons .dead (.nil _))
  | cons c bs => exact .cons (.live (.cells (.cons h (.cons (.ms rfl) (.nil _))))) (.cons (.live (.cells (.free (bytes_fr (c :: bs))))) (.nil _))
theorem writeQ (v u w b : Nat) (s : List UInt8) (i o : Nat) (ins : List Nat) (out : List Tok) (a : AV) (ha : a = .nilp ∨ a = .ptr 3 0 0) (bs : List UInt8) (c : UInt8) (hl : bs.length < 140737488355328) :
    CallOk cx 45 [.ptr 3 0 0, byteAV c] (spQ v u w b s i o ins out a bs) (fun e σ => e = .ret .nili ∧ σ = spQ v u w (b + 1) s i o ins out (.ptr 3 0 0) (bs ++ [c])) := by
  obtain ⟨a0, h1, h2⟩ : ∃ a0, (a0 = .nilp ∨ a0 = .ptr 0 0 0) ∧ Rn (List.range' 3 2) a0 a := by
    rcases ha with rfl | rfl
    · exact ⟨.nilp, .inl rfl, .free .nilp⟩
    · exact ⟨.ptr 0 0 0, .inr rfl, .ptr rfl⟩
  exact (writeByteU_ok holdsB 0 b a0 h1 bs c hl).mid 3 2 (spH v u w s i o ins out) [] rfl rfl rfl (.cons (.ptr rfl) (.cons (.free .int) (.nil _))) (qT_rn b a0 a h2 bs) (qT_rn (b + 1) (.ptr 0 0 0) (.ptr 3 0 0) (.ptr rfl) (bs ++ [c])) (.free .nili)
theorem stringQ (v u w b : Nat) (s : List UInt8) (i o : Nat) (ins : List Nat) (out : List Tok) (a : AV) (ha : a = .nilp ∨ a = .ptr 3 0 0) (bs : List UInt8) (hl : bs.length ≤ 140737488355328) :
    CallOk cx 9 [.ptr 3 0 0] (spQ v u w b s i o ins out a bs) (fun e σ => e = .ret (.str bs) ∧ σ = spH v u w s i o ins out ++ ([(0, some (.cells [a, bufV4 b bs] ⟨false, some 43⟩)), (b, none)] ++ [])) := by
  obtain ⟨a0, h2⟩ : ∃ a0, Rn (List.range' 3 2) a0 a := by
    rcases ha with rfl | rfl
    · exact ⟨.nilp, .free .nilp⟩
    · exact ⟨.ptr 0 0 0, .ptr rfl⟩
  refine (stringU_ok (T := 43) 0 b a0 bs hl).mid 3 2 (spH v u w s i o ins out) [] rfl rfl rfl (.cons (.ptr rfl) (.nil _)) (qT_rn b a0 a h2 bs) ?_ (.free .str)
  cases bs with
  | nil => exact .cons (.live (.cells (.cons h2 (.cons (.free .nils) (.nil _))))) (.cons .dead (.nil _))
  | cons c bs => exact .cons (.live (.cells (.cons h2 (.cons (.ms rfl) (.nil _))))) (.cons .dead (.nil _))
def kOf (d : UInt8) : Int := Lib.indexByte [110, 116, 92, 34] d
theorem kOf_esc (d : UInt8) : (esc d = none ∧ kOf d = -1) ∨ ∃ (k : Nat) (h : k < 4) (e : UInt8), esc d = some e ∧ kOf d = k ∧ [10, 9, 92, 34][k] = e := by
  by_cases h1 : d = 110
  · subst h1; exact .inr ⟨0, by decide, 10, rfl, rfl, rfl⟩
  by_cases h2 : d = 116
  · subst h2; exact .inr ⟨1, by decide, 9, rfl, rfl, rfl⟩
  by_cases h3 : d = 92
  · subst h3; exact .inr ⟨2, by decide, 92, rfl, rfl, rfl⟩
  by_cases h4 : d = 34
  · subst h4; exact .inr ⟨3, by decide, 34, rfl, rfl, rfl⟩
  · left
    refine ⟨by simp [esc, h1, h2, h3, h4], by simp [kOf, Lib.indexByte, Ne.symm h1, Ne.symm h2, Ne.symm h3, Ne.symm h4]⟩
structure QSt where
  j : Nat
  b : Nat
  a : AV
  bs : List UInt8
theorem text_ok (v u w : Nat) (s : List UInt8) (i o : Nat) (ins : List Nat) (out : List Tok) (hi : i < s.length) (hs : s.length ≤ 1048576) (hl : out.length ≤ 900000) :
    CallOk cx 72 [.ptr 0 v 0] (spH v u w s i o ins out) (SpEnd s (endS (quoS s i o) ins out) v) :=
  callOk_introT (fun a w => Tryz.call72 a w) Tryz.func72 rfl Tryz.ntmps72 rfl fun B => by
    have lowF : ∀ e : Flt, Low 3 (flt e) := fun e => .iface (.agg (by intro x hx; simp at hx; rcases hx with rfl | rfl; exact .int; exact .int))
    have fin : ∀ (p b : Nat) (a : AV) (bs : List UInt8), quoS s i o = .inl (1, p) → TR 3 (SpEnd s (endS (quoS s i o) ins out) v) (.panic (flt (1, p))) (spQ v u w b s p o ins out a bs) := fun p b a bs h =>
      ⟨3, Nat.le_refl _, spH_low v u w s p o ins out _, lowF _, by rw [h]; exact ⟨rfl, v, u, w, p, o, ins, out, rfl⟩⟩
    have hw1 : IntKind.i64.wrap ((i : Nat) + 1) = ((i + 1 : Nat) : Int) := by rw [IntWalk.i64_in _ ⟨by omega, by omega⟩]; omega
    refine pB [] rfl ?_
    refine S_dead ?_ ⟨_, _, .inl rfl⟩
    refine S_heap (spQ v u w 0 s (i + 1) o ins out .nilp []) ?_ ?_
    · show spQI v u w 0 s (IntKind.i64.wrap ((i : Nat) + 1)) o ins out .nilp [] = _
      rw [hw1]; rfl
    refine S_while (α := QSt) (fun q => [(0, .ptr 0 v 0), (2, .int .i64 i), (3, .ptr 3 0 0)]) (fun q => spQ v u w q.b s q.j o ins out q.a q.bs)
      (fun q => i < q.j ∧ q.j ≤ s.length ∧ q.bs.length ≤ q.j ∧ (q.a = .nilp ∨ q.a = .ptr 3 0 0) ∧ quoteS (s.drop q.j) q.j q.bs = quoteS (s.drop (i + 1)) (i + 1) []) (fun q => s.length - q.j) ⟨i + 1, 0, .nilp, []⟩
      ⟨by show i < i + 1; omega, hi, Nat.zero_le _, .inl rfl, rfl⟩ (.cons rfl (.cons rfl (.cons rfl (.nil _)))) rfl ?_
    rintro ⟨j, b, a, bs⟩ ⟨h1, h2, h3, ha, hq⟩
    simp only at h1 h2 h3 ha hq
    show S cx _ B _ _ [(0, .ptr 0 v 0), (2, .int .i64 i), (3, .ptr 3 0 0)] (spQ v u w b s j o ins out a bs)
    have hwj : IntKind.i64.wrap ((j : Nat) + 1) = ((j + 1 : Nat) : Int) := by rw [IntWalk.i64_in _ ⟨by omega, by omega⟩]; omega
    by_cases hlt : j < s.length
    · have hgc : (((s.getD (j : Int).toNat 0).toNat : Nat) : Int) = ((s[j].toNat : Nat) : Int) := by rw [Int.toNat_natCast, getD_byte hlt]
      have hdr : s.drop j = s[j] :: s.drop (j + 1) := List.drop_eq_getElem_cons hlt
      rw [hdr, quoteS.eq_def] at hq
      simp only at hq
      by_cases hc1 : s[j].toNat < 32
      · rw [if_pos hc1] at hq
        refine pB [.b false, .b true] rfl ?_
        exact S_callP rfl rfl rfl (fail_ok _ v 1 j) (fin j b a bs (by rw [quoS, ← hq]))
      · rw [if_neg hc1] at hq
        have hcd : decide ((((s.getD (j : Int).toNat 0).toNat : Nat) : Int) < 32) = false := by rw [hgc]; exact decide_eq_false (by omega)
        by_cases hc2 : s[j] = 34
        · rw [if_pos (by rw [hc2]; rfl)] at hq
          have he : ((((s.getD (j : Int).toNat 0).toNat : Nat) : Int) == 34) = true := by rw [hgc, hc2]; rfl
          refine pB [.b false, .b false, .b true] rfl ?_
          refine S_heap (spQ v u w b s (j + 1) o ins out a bs) ?_ ?_
          · show spQI v u w b s (IntKind.i64.wrap ((j : Nat) + 1)) o ins out a bs = _
            rw [hwj]; rfl
          have hput := (putH v u w s (j + 1) o ins out 3 bs i (by omega)).pre1 3 ([(0, some (.cells [a, bufV4 b bs] ⟨false, some 43⟩)), (b, none)] ++ []) rfl rfl (.cons (.ptr rfl) (.free (by intro x hx; simp at hx; rcases hx with rfl | rfl | rfl; exact .int; exact .str; exact .int))) (spH_rn ..) (spH_rn ..) (.free (.tup (by simp)))
          refine pa [.c (.str bs) (spH v u w s (j + 1) o ins out ++ ([(0, some (.cells [a, bufV4 b bs] ⟨false, some 43⟩)), (b, none)] ++ [])), .c (.tup []) (spH v u (w + 1) s (j + 1) o ins (out ++ [⟨3, bs, 0, i⟩]) ++ ([(0, some (.cells [a, bufV4 b bs] ⟨false, some 43⟩)), (b, none)] ++ []))] rfl ?_ ?_
          · (repeat' with_reducible apply AllP_cons) <;> try exact aC
            exact stringQ v u w b s (j + 1) o ins out a ha bs (by omega)
          refine S_nil ⟨_, _, rfl, trivial, 3, Nat.le_refl _, spH_low v u (w + 1) s (j + 1) o ins _ _, .tup [], .low (.tup (by simp)), ?_⟩
          rw [quoS, ← hq]
          exact ⟨u, w + 1, rfl, rfl⟩
        · rw [if_neg (by simpa using hc2)] at hq
          have he : ((((s.getD (j : Int).toNat 0).toNat : Nat) : Int) == 34) = false := by rw [hgc]; exact beq_false_of_ne (fun h => hc2 (UInt8.toNat_inj.1 (by show s[j].toNat = 34; omega)))
          by_cases hc3 : s[j] = 92
          · rw [if_neg (by rw [hc3]; decide)] at hq
            have he3 : ((((s.getD (j : Int).toNat 0).toNat : Nat) : Int) == 92) = true := by rw [hgc, hc3]; rfl
            have hwj2 : IntKind.i64.wrap (((j + 1 : Nat) : Int) + 1) = ((j + 2 : Nat) : Int) := by rw [IntWalk.i64_in _ ⟨by omega, by omega⟩]; omega
            by_cases hl2 : j + 1 < s.length
            · have hdr2 : s.drop (j + 1) = s[j + 1] :: s.drop (j + 2) := List.drop_eq_getElem_cons hl2
              rw [hdr2] at hq
              simp only at hq
              have hgd : (((s.getD ((j + 1 : Nat) : Int).toNat 0).toNat : Nat) : Int) = ((s[j + 1].toNat : Nat) : Int) := by rw [Int.toNat_natCast, getD_byte hl2]
              have hix : ∀ σ, ∃ args', Calc cx 46 args' (.int .i64 (kOf s[j + 1])) ∧ Frzs σ [.str [110, 116, 92, 34], .int .u8 (((s.getD ((j + 1 : Nat) : Int).toNat 0).toNat : Nat) : Int)] args' := fun σ => by
                have h := indexByte_ok [110, 116, 92, 34] ((s[j + 1].toNat : Nat) : Int)
                rw [byteBack] at h
                rw [hgd]
                exact ⟨_, h, .cons (.refl .str) (.cons (.refl .int) (.nil _))⟩
              have h0 : (0 : Int) ≤ ((j + 1 : Nat) : Int) ∧ ((j + 1 : Nat) : Int) < (s.length : Int) := by omega
              rcases kOf_esc s[j + 1] with ⟨e1, e2⟩ | ⟨k, hk, e, e1, e2, e3⟩
              · rw [e1] at hq
                simp only at hq
                rw [e2] at hix
                refine pB [.b false, .b false, .b false, .b true] rfl ?_
                refine S_heap (spQ v u w b s (j + 1) o ins out a bs) ?_ ?_
                · show spQI v u w b s (IntKind.i64.wrap ((j : Nat) + 1)) o ins out a bs = _
                  rw [hwj]; rfl
                refine pa [.b true, .v (.int .i64 (-1)), .b true] rfl ?_ ?_
                · (repeat' with_reducible apply AllP_cons) <;> try exact aC
                  exact hix _
                exact S_callP rfl rfl rfl (fail_ok _ v 1 (j + 1 : Nat)) (fin (j + 1) b a bs (by rw [quoS, ← hq]))
              · rw [e1] at hq
                simp only at hq
                rw [e2] at hix
                have hes : (((([10, 9, 92, 34] : List UInt8).getD (k : Int).toNat 0).toNat : Nat) : Int) = (e.toNat : Int) := by rw [Int.toNat_natCast, getD_byte (s := [10, 9, 92, 34]) hk, e3]
                have hk2 : (0 : Int) ≤ (k : Int) ∧ (k : Int) < 4 := by omega
                have hwr := writeQ v u w b s (j + 1) o ins out a ha bs e (by omega)
                refine pB [.b false, .b false, .b false, .b true] rfl ?_
                refine S_heap (spQ v u w b s (j + 1) o ins out a bs) ?_ ?_
                · show spQI v u w b s (IntKind.i64.wrap ((j : Nat) + 1)) o ins out a bs = _
                  rw [hwj]; rfl
                refine pa [.b true, .v (.int .i64 (k : Nat)), .b false, .c .nili (spQ v u w (b + 1) s (j + 1) o ins out (.ptr 3 0 0) (bs ++ [e]))] rfl ?_ ?_
                · (repeat' with_reducible apply AllP_cons) <;> try exact aC
                  · exact hix _
                  · show CallOk cx _ [.ptr 3 0 0, .int .u8 (((([10, 9, 92, 34] : List UInt8).getD (k : Int).toNat 0).toNat : Nat) : Int)] _ _
                    rw [hes]; exact hwr
                refine S_round ⟨j + 2, b + 1, .ptr 3 0 0, bs ++ [e]⟩ (by show s.length - (j + 2) < s.length - j; omega) ⟨by show i < j + 2; omega, by show j + 2 ≤ s.length; omega, by show (bs ++ [e]).length ≤ j + 2; simp; omega, .inr rfl, hq⟩ (.cons rfl (.cons rfl (.cons rfl (.nil _)))) ?_
                show spQI v u w (b + 1) s (IntKind.i64.wrap (((j + 1 : Nat) : Int) + 1)) o ins out (.ptr 3 0 0) (bs ++ [e]) = _
                rw [hwj2]; rfl
            · have hnil : s.drop (j + 1) = [] := List.drop_eq_nil_of_le (by omega)
              rw [hnil] at hq
              simp only at hq
              refine pB [.b false, .b false, .b false, .b true] rfl ?_
              refine S_heap (spQ v u w b s (j + 1) o ins out a bs) ?_ ?_
              · show spQI v u w b s (IntKind.i64.wrap ((j : Nat) + 1)) o ins out a bs = _
                rw [hwj]; rfl
              refine pB [.b false, .b true] rfl ?_
              exact S_callP rfl rfl rfl (fail_ok _ v 1 (j + 1 : Nat)) (fin (j + 1) b a bs (by rw [quoS, ← hq]))
          · rw [if_pos (by simpa using hc3)] at hq
            have he3 : ((((s.getD (j : Int).toNat 0).toNat : Nat) : Int) == 92) = false := by rw [hgc]; exact beq_false_of_ne (fun h => hc3 (UInt8.toNat_inj.1 (by show s[j].toNat = 92; omega)))
            have hwr := writeQ v u w b s j o ins out a ha bs s[j] (by omega)
            refine pa [.b false, .b false, .b false, .b false, .c .nili (spQ v u w (b + 1) s j o ins out (.ptr 3 0 0) (bs ++ [s[j]]))] rfl ?_ ?_
            · (repeat' with_reducible apply AllP_cons) <;> try exact aC
              show CallOk cx _ [.ptr 3 0 0, .int .u8 (((s.getD (j : Int).toNat 0).toNat : Nat) : Int)] _ _
              rw [hgc]; exact hwr
            refine S_round ⟨j + 1, b + 1, .ptr 3 0 0, bs ++ [s[j]]⟩ (by show s.length - (j + 1) < s.length - j; omega) ⟨by show i < j + 1; omega, hlt, by show (bs ++ [s[j]]).length ≤ j + 1; simp; omega, .inr rfl, hq⟩ (.cons rfl (.cons rfl (.cons rfl (.nil _)))) ?_
            show spQI v u w (b + 1) s (IntKind.i64.wrap ((j : Nat) + 1)) o ins out (.ptr 3 0 0) (bs ++ [s[j]]) = _
            rw [hwj]; rfl
    · have hnil : s.drop j = [] := List.drop_eq_nil_of_le (by omega)
      rw [hnil, quoteS.eq_def] at hq
      simp only at hq
      refine pB [.b true, .b true] rfl ?_
      exact S_callP rfl rfl rfl (fail_ok _ v 1 j) (fin j b a bs (by rw [quoS, ← hq]))
end Go.Proofs.YtmdegomejbpldaaGreatDoor
end
section
set_option linter.unusedVariables false
set_option linter.unusedSimpArgs false
set_option maxRecDepth 20000
namespace Go.Proofs.YtmdegomejbpldaaGreatDoor
open Go Go.Ab
theorem runH_ok (F : FuncId) (P : UInt8 → Bool) (hF : ∀ c : UInt8, Calc cx F [.int .u8 (c.toNat : Nat)] (.bool (P c))) (v u w : Nat) (s : List UInt8) (i o : Nat) (ins : List Nat) (out : List Tok) (hi : i ≤ s.length) (hs : s.length ≤ 1048576) :
    CallOk cx 69 [.ptr 0 v 0, .func (.func F) [] []] (spH v u w s i o ins out) (fun r σ => r = .ret (.str (cutT s i (stopAt P s i))) ∧ σ = spH v u w s (stopAt P s i) o ins out) :=
  run_ok F P hF v u w _ _ s i o _ _ hi hs
def natM (t : List UInt8) : Nat := min (natOf t) 9007199254740992
theorem natOf_snoc (t : List UInt8) (d : UInt8) : natOf (t ++ [d]) = 10 * natOf t + (d.toNat - 48) := by simp [natOf, List.foldl_append]
theorem natM_snoc (t : List UInt8) (d : UInt8) : natM (t ++ [d]) = min (10 * natM t + (d.toNat - 48)) 9007199254740992 := by
  unfold natM; rw [natOf_snoc]; omega
theorem natM_le (t : List UInt8) : natM t ≤ 9007199254740992 := by unfold natM; omega
theorem cutT_len {s : List UInt8} {i j : Nat} (h : i ≤ j) (hj : j ≤ s.length) : (cutT s i j).length = j - i := by simp [cutT]; omega
theorem cutT_all {p : UInt8 → Bool} {s : List UInt8} {i : Nat} : ∀ x ∈ cutT s i (stopAt p s i), p x = true := by
  intro x hx
  have e : cutT s i (stopAt p s i) = (s.drop i).takeWhile p := by
    rw [cutT, List.drop_take, stopAt, Nat.add_sub_cancel_left]
    exact (List.prefix_iff_eq_take.1 (List.takeWhile_prefix p)).symm
  rw [e] at hx
  exact List.all_eq_true.1 List.all_takeWhile x hx
theorem cutT_head {s : List UInt8} {i j : Nat} (h : i < j) (hj : j ≤ s.length) : (cutT s i j)[0]? = some (s.getD i 0) := by
  have : i < s.length := by omega
  rw [cutT, List.getElem?_drop, List.getElem?_take, if_pos (by omega)]
  simp [List.getD, this]
theorem SpEnd.ret {s : List UInt8} {x : Flt ⊕ (Nat × Nat × List Nat × List Tok)} {v : Nat} {r : AV} {σ : Heap} (h : SpEnd s x v (.ret r) σ) : r = .tup [] := by
  cases x with
  | inl e => cases h.1
  | inr q => obtain ⟨_, _, h, _⟩ := h; exact Out.ret.inj h
theorem next_ok (v u w : Nat) (s : List UInt8) (i o : Nat) (ins : List Nat) (out : List Tok) (hi : i < s.length) (hs : s.length ≤ 1048576) (ho : o ≤ 1000) (hl : out.length ≤ 900000) :
    CallOk cx 51 [.ptr 0 v 0] (spH v u w s i o ins out) (SpEnd s (endS (oneS s i o) ins out) v) :=
  callOk_intro (fun a w => Tryz.call51 a w) Tryz.func51 rfl Tryz.ntmps51 rfl fun B => by
    have hgc : (((s.getD (i : Int).toNat 0).toNat : Nat) : Int) = ((s[i].toNat : Nat) : Int) := by rw [Int.toNat_natCast, getD_byte hi]
    have hi2 : (0 : Int) ≤ (i : Int) ∧ (i : Int) < (s.length : Int) := by omega
    have hgd : s.getD i 0 = s[i] := getD_byte hi
    have hLet : ∀ σ, ∃ args', Calc cx 68 args' (.bool (isLet s[i])) ∧ Frzs σ [.int .u8 (((s.getD (i : Int).toNat 0).toNat : Nat) : Int)] args' := fun σ => by
      rw [hgc]; exact ⟨_, isLetter_ok s[i], .cons (.refl .int) (.nil _)⟩
    have hDig : ∀ σ, ∃ args', Calc cx 71 args' (.bool (isDg s[i])) ∧ Frzs σ [.int .u8 (((s.getD (i : Int).toNat 0).toNat : Nat) : Int)] args' := fun σ => by
      rw [hgc]; exact ⟨_, isDigit_ok s[i], .cons (.refl .int) (.nil _)⟩
    unfold oneS
    rw [hgd]
    by_cases c1 : isLet s[i] = true
    · rw [if_pos c1]
      rw [c1] at hLet
      obtain ⟨j, hj⟩ : ∃ j, j = stopAt (fun c => isLet c || isDg c) s i := ⟨_, rfl⟩
      obtain ⟨t, ht⟩ : ∃ t, t = cutT s i j := ⟨_, rfl⟩
      have hrun := runH_ok 70 (fun c => isLet c || isDg c) nextLetter_ok v u w s i o ins out (by omega) hs
      rw [← hj, ← ht] at hrun ⊢
      have hct : ∀ σ, ∃ args', Calc cx 54 args' (.bool (decide (t ∈ words14))) ∧ Frzs σ [.sl true false 1 (texts words14), .str t] args' := fun σ =>
        ⟨_, ContainsS_ok words14 t (by decide), .cons (.refl (.sl (fun h => by cases h) (texts_any words14))) (.cons (.refl .str) (.nil _))⟩
      have hp := fun k : Nat => putH v u w s j o ins out k t i (by omega)
      by_cases hm : t ∈ words14
      · rw [if_pos hm]
        rw [decide_eq_true hm] at hct
        refine pa [.v (.bool true), .b true, .c (.str t) (spH v u w s j o ins out), .v (.bool true), .b true, .c (.tup []) (spH v u (w + 1) s j o ins (out ++ [⟨5, t, 0, i⟩]))] rfl ?_ ?_
        · (repeat' with_reducible apply AllP_cons) <;> try exact aC
          · exact hLet _
          · exact hct _
          · exact hp 5
        exact S_nil ⟨_, _, rfl, trivial, u, w + 1, rfl, rfl⟩
      · rw [if_neg hm]
        rw [decide_eq_false hm] at hct
        refine pa [.v (.bool true), .b true, .c (.str t) (spH v u w s j o ins out), .v (.bool false), .b false, .c (.tup []) (spH v u (w + 1) s j o ins (out ++ [⟨1, t, 0, i⟩]))] rfl ?_ ?_
        · (repeat' with_reducible apply AllP_cons) <;> try exact aC
          · exact hLet _
          · exact hct _
          · exact hp 1
        exact S_nil ⟨_, _, rfl, trivial, u, w + 1, rfl, rfl⟩
    · rw [if_neg c1]
      rw [Bool.not_eq_true] at c1
      rw [c1] at hLet
      by_cases c2 : isDg s[i] = true
      · rw [if_pos c2]
        rw [c2] at hDig
        obtain ⟨j, hj⟩ : ∃ j, j = stopAt isDg s i := ⟨_, rfl⟩
        obtain ⟨t, ht⟩ : ∃ t, t = cutT s i j := ⟨_, rfl⟩
        have hrun := runH_ok 71 isDg isDigit_ok v u w s i o ins out (by omega) hs
        have hjl := stopAt_lt (p := isDg) hi (by rw [hgd]; exact c2)
        have hall : ∀ x ∈ t, isDg x = true := by rw [ht, hj]; exact cutT_all
        have htl : t.length = j - i := by rw [ht]; exact cutT_len (by omega) (by omega)
        have ht0 : t[0]? = some s[i] := by rw [ht, cutT_head (by omega) (by omega), hgd]
        rw [← hj, ← ht] at hrun ⊢
        rw [← hj] at hjl
        have htk : ∀ k, (h : k < t.length) → (t.map byteAV)[(k : Int).toNat]? = some (byteAV t[k]) := fun k h => by rw [Int.toNat_natCast]; simp [h]
        refine pa [.v (.bool false), .b false, .v (.bool true), .b true, .c (.str t) (spH v u w s j o ins out)] rfl ?_ ?_
        · (repeat' with_reducible apply AllP_cons) <;> try exact aC
          · exact hLet _
          · exact hDig _
        refine S_while (α := Nat) (fun k => [(0, .ptr 0 v 0), (2, .int .i64 i), (6, .str t), (7, .int .i64 (natM (t.take k) : Nat)), (41, .sl true false 1 (t.map byteAV)), (42, .int .i64 (t.length : Nat)), (43, .int .i64 (k : Nat))]) (fun _ => spH v u w s j o ins out) (fun k => k ≤ t.length) (fun k => t.length - k) 0
          (Nat.zero_le _) (.cons rfl (.cons rfl (.cons rfl (.cons rfl (.cons rfl (.cons (by show AV.int .i64 ((t.map byteAV).length : Nat) = _; rw [List.length_map]) (.cons rfl (.nil _)))))))) rfl ?_
        rintro k hk
        have hk : k ≤ t.length := hk
        by_cases hlt : k < t.length
        · have hd : isDg t[k] = true := hall _ (List.getElem_mem hlt)
          have hd : 48 ≤ t[k].toNat ∧ t[k].toNat ≤ 57 := by simpa [isDg] using hd
          have hn := natM_le (t.take k)
          refine pa [.b true, .v (byteAV t[k])] rfl ?_ ?_
          · (repeat' with_reducible apply AllP_cons) <;> try exact aC
            all_goals exact htk k hlt
          refine S_round (k + 1) (by show t.length - (k + 1) < t.length - k; omega) hlt (.cons rfl (.cons rfl (.cons rfl (.cons ?_ (.cons rfl (.cons rfl (.cons (ai64 rfl (by omega)) (.nil _)))))))) rfl
          show AV.int .i64 (min (IntKind.i64.wrap (IntKind.i64.wrap (10 * ((natM (t.take k) : Nat) : Int)) + IntKind.i64.wrap (IntKind.u8.wrap (((t[k].toNat : Nat) : Int) - 48)))) 9007199254740992) = _
          rw [List.take_succ_eq_append_getElem hlt, natM_snoc, IntWalk.u8_in _ ⟨by omega, by omega⟩, IntWalk.i64_in (10 * ((natM (t.take k) : Nat) : Int)) ⟨by omega, by omega⟩, IntWalk.i64_in (((t[k].toNat : Nat) : Int) - 48) ⟨by omega, by omega⟩, IntWalk.i64_in _ ⟨by omega, by omega⟩]
          congr 1; omega
        · obtain rfl : k = t.length := by omega
          show S cx _ B _ _ [(0, .ptr 0 v 0), (2, .int .i64 i), (6, .str t), (7, .int .i64 (natM (t.take t.length) : Nat)), (41, .sl true false 1 (t.map byteAV)), (42, .int .i64 (t.length : Nat)), (43, .int .i64 (t.length : Nat))] (spH v u w s j o ins out)
          rw [List.take_length]
          have hm : natM t = min (natOf t) 9007199254740992 := rfl
          by_cases hb : 9007199254740991 < natOf t
          · rw [if_pos (.inl hb)]
            refine pB [.b false, .b true, .b true] rfl ?_
            exact S_callP rfl rfl rfl (failH v u w s j o ins out 3 i) ⟨rfl, v, u, w, j, o, ins, out, rfl⟩
          · have hmn : natM t = natOf t := by omega
            rw [hmn]
            have fin : ∀ F : Fr, True := fun _ => trivial
            by_cases h1 : i + 1 < j
            · have hl1 : (0 : Int) < (t.length : Int) := by omega
              have hh : ((t.getD (0 : Int).toNat 0).toNat : Int) = ((s[i].toNat : Nat) : Int) := by
                show (((t.getD 0 0).toNat : Nat) : Int) = _
                rw [List.getD, ht0]; rfl
              by_cases h2 : s[i] = 48
              · rw [if_pos (.inr ⟨h2, h1⟩)]
                refine pa [.b false, .b false, .b true, .b true] rfl ?_ ?_
                · (repeat' with_reducible apply AllP_cons) <;> try exact aC
                  rw [hh, h2]; rfl
                exact S_callP rfl rfl rfl (failH v u w s j o ins out 3 i) ⟨rfl, v, u, w, j, o, ins, out, rfl⟩
              · rw [if_neg (by rintro (h | ⟨h, _⟩); exact hb h; exact h2 h)]
                refine pa [.b false, .b false, .b true, .b false] rfl ?_ ?_
                · (repeat' with_reducible apply AllP_cons) <;> try exact aC
                  · rw [hh]; exact beq_false_of_ne (fun h => h2 (UInt8.toNat_inj.1 (by show s[i].toNat = 48; omega)))
                  · show 0 + out.length * 4 = _; rw [tokC_len]; omega
                  · show (out.length + 1) * 40 ≤ 140737488355328; omega
                refine S_nil ⟨_, _, rfl, trivial, u, w + 1, rfl, ?_⟩
                show [spB v s j o (insV u ins) (.ms 2 (w + 1) 0 (out.length + 1) 4 false), insB u ins, (w + 1, some (Box.cells (out.flatMap tokC ++ [.int .i64 2, .str t, .int .i64 (natOf t : Nat), .int .i64 i]) ⟨false, none⟩))] = _
                unfold spH outV outB
                rw [List.length_append, List.flatMap_append]; rfl
            · rw [if_neg (by rintro (h | ⟨_, h⟩); exact hb h; exact h1 h)]
              refine pa [.b false, .b false, .b false, .b false] rfl ?_ ?_
              · (repeat' with_reducible apply AllP_cons) <;> try exact aC
                · show 0 + out.length * 4 = _; rw [tokC_len]; omega
                · show (out.length + 1) * 40 ≤ 140737488355328; omega
              refine S_nil ⟨_, _, rfl, trivial, u, w + 1, rfl, ?_⟩
              show [spB v s j o (insV u ins) (.ms 2 (w + 1) 0 (out.length + 1) 4 false), insB u ins, (w + 1, some (Box.cells (out.flatMap tokC ++ [.int .i64 2, .str t, .int .i64 (natOf t : Nat), .int .i64 i]) ⟨false, none⟩))] = _
              unfold spH outV outB
              rw [List.length_append, List.flatMap_append]; rfl
      · rw [if_neg c2]
        rw [Bool.not_eq_true] at c2
        rw [c2] at hDig
        by_cases c3 : s[i] = 34
        · rw [if_pos c3]
          have e3 : ((((s.getD (i : Int).toNat 0).toNat : Nat) : Int) == 34) = true := by rw [hgc, c3]; rfl
          refine pa [.v (.bool false), .b false, .v (.bool false), .b false, .b true] rfl ?_ ?_
          · (repeat' with_reducible apply AllP_cons) <;> try exact aC
            · exact hLet _
            · exact hDig _
          refine S_call rfl rfl rfl (text_ok v u w s i o ins out hi hs hl) (fun r σ' h => ?_) (fun r σ' h => h)
          obtain rfl := h.ret
          refine pa [] rfl trivial ?_
          exact S_nil ⟨_, _, rfl, trivial, h⟩
        · rw [if_neg c3]
          have e3 : ((((s.getD (i : Int).toNat 0).toNat : Nat) : Int) == 34) = false := by rw [hgc]; exact beq_false_of_ne (fun h => c3 (UInt8.toNat_inj.1 (by show s[i].toNat = 34; omega)))
          refine pa [.v (.bool false), .b false, .v (.bool false), .b false, .b false] rfl ?_ ?_
          · (repeat' with_reducible apply AllP_cons) <;> try exact aC
            · exact hLet _
            · exact hDig _
          refine S_call rfl rfl rfl (sign_ok v u w s i o ins out hi hs ho hl) (fun r σ' h => ?_) (fun r σ' h => h)
          obtain rfl := h.ret
          refine pa [] rfl trivial ?_
          exact S_nil ⟨_, _, rfl, trivial, h⟩
end Go.Proofs.YtmdegomejbpldaaGreatDoor
end
section
set_option linter.unusedVariables false
set_option linter.unusedSimpArgs false
set_option maxRecDepth 20000
namespace Go.Proofs.YtmdegomejbpldaaGreatDoor
open Go Go.Ab
theorem skipH (v u w : Nat) (s : List UInt8) (i o : Nat) (ins : List Nat) (out : List Tok) (hi : i ≤ s.length) (hs : s.length ≤ 1048576) :
    CallOk cx 26 [.ptr 0 v 0] (spH v u w s i o ins out) (fun r σ => r = .ret (.tup []) ∧ σ = spH v u w s (gapC s i) o ins out) :=
  skip_ok v u w _ _ s i o _ _ hi hs
def spA (v u w : Nat) (s : List UInt8) (i : Int) (o : Nat) (ins : List Nat) (out : List Tok) : Heap := [(v, some (.cells [.str s, .int .i64 i, .int .i64 (o : Nat), insV u ins, outV w out] ⟨false, some 64⟩)), insB u ins, outB w out]
theorem oneS_o {s : List UInt8} {i o j o' : Nat} {t : Tok} (h : oneS s i o = .inr (t, j, o')) (ho : o ≤ 30) : o' ≤ 30 := by
  unfold oneS at h
  split at h
  · cases h; exact ho
  · split at h
    · split at h
      · cases h
      · cases h; exact ho
    · split at h
      · split at h
        · cases h
        · cases h; exact ho
      · split at h
        · cases h
        · split at h
          · split at h
            · cases h
            · cases h; omega
          · split at h
            · split at h
              · cases h
              · cases h; omega
            · cases h; exact ho
def lnS (s : List UInt8) (i o : Nat) (ins : List Nat) (out : List Tok) : Flt ⊕ (Nat × Nat × List Nat × List Tok) := match lineF (s.length + 1) s i o out with
  | .inl e => .inl e
  | .inr (k, out') => .inr (k, 0, ins, out')
structure LSt where
  f : Nat
  j : Nat
  o : Nat
  u : Nat
  w : Nat
  out : List Tok
theorem line_ok (v u w : Nat) (s : List UInt8) (i o : Nat) (ins : List Nat) (out : List Tok) (hi : i ≤ s.length) (hs : s.length ≤ 6000) (ho : o ≤ 30) (hl : out.length + (s.length - i) ≤ 800000) :
    CallOk cx 28 [.ptr 0 v 0] (spH v u w s i o ins out) (SpEnd s (lnS s i o ins out) v) :=
  callOk_intro (fun a w => Tryz.call28 a w) Tryz.func28 rfl Tryz.ntmps28 rfl fun B => by
    refine pa [] rfl trivial ?_
    refine S_while (α := LSt) (fun q => [(0, .ptr 0 v 0)]) (fun q => spH v q.u q.w s q.j q.o ins q.out)
      (fun q => q.j ≤ s.length ∧ q.o ≤ 30 ∧ q.out.length + (s.length - q.j) ≤ 800000 ∧ s.length - q.j < q.f ∧ lineF q.f s q.j q.o q.out = lineF (s.length + 1) s i o out) (fun q => s.length - q.j) ⟨s.length + 1, i, o, u, w, out⟩
      ⟨hi, ho, hl, by show s.length - i < s.length + 1; omega, rfl⟩ (.cons rfl (.nil _)) rfl ?_
    rintro ⟨f, j, o', u', w', out'⟩ ⟨h1, h2, h3, h4, h5⟩
    simp only at h1 h2 h3 h4 h5
    show S cx _ B _ _ [(0, .ptr 0 v 0)] (spH v u' w' s j o' ins out')
    obtain ⟨f, rfl⟩ : ∃ g, f = g + 1 := ⟨f - 1, by omega⟩
    rw [lineF] at h5
    have hwj : IntKind.i64.wrap ((j : Nat) + 1) = ((j + 1 : Nat) : Int) := by rw [IntWalk.i64_in _ ⟨by omega, by omega⟩]; omega
    by_cases hlt : j < s.length
    · have hgc : (((s.getD (j : Int).toNat 0).toNat : Nat) : Int) = ((s[j].toNat : Nat) : Int) := by rw [Int.toNat_natCast, getD_byte hlt]
      have hs0 : s[j]? = some s[j] := List.getElem?_eq_getElem hlt
      have hj2 : (0 : Int) ≤ (j : Int) ∧ (j : Int) < (s.length : Int) := by omega
      rw [hs0] at h5
      by_cases hc : s[j] = 10
      · have he : ((((s.getD (j : Int).toNat 0).toNat : Nat) : Int) != 10) = false := by rw [hgc, hc]; rfl
        have he2 : ((((s.getD (j : Int).toNat 0).toNat : Nat) : Int) == 10) = true := by rw [hgc, hc]; rfl
        by_cases hop : 0 < o'
        · rw [if_pos ⟨hlt, .inr hop⟩, if_pos (by rw [hc])] at h5
          have hg := gapC_le (s := s) (i := j + 1) (by omega)
          refine pB [.b true, .b false, .b true, .b true] rfl ?_
          refine S_heap (spH v u' w' s (j + 1) o' ins out') ?_ ?_
          · show spA v u' w' s (IntKind.i64.wrap ((j : Nat) + 1)) o' ins out' = _
            rw [hwj]; rfl
          refine pa [.c (.tup []) (spH v u' w' s (gapC s (j + 1)) o' ins out')] rfl ?_ ?_
          · (repeat' with_reducible apply AllP_cons) <;> try exact aC
            exact skipH v u' w' s (j + 1) o' ins out' (by omega) (by omega)
          exact S_round ⟨f, gapC s (j + 1), o', u', w', out'⟩ (by show s.length - gapC s (j + 1) < s.length - j; omega) ⟨hg.2, h2, by show out'.length + (s.length - gapC s (j + 1)) ≤ 800000; omega, by show s.length - gapC s (j + 1) < f; omega, h5⟩ (.cons rfl (.nil _)) rfl
        · rw [if_neg (by rintro ⟨_, h | h⟩; exact h (by rw [hc]); exact hop h), if_neg hop, if_pos hlt] at h5
          refine pa [.b true, .b false, .b false, .b false, .c (.tup []) (spH v u' (w' + 1) s j o' ins (out' ++ [tokLine j])), .b true] rfl ?_ ?_
          · (repeat' with_reducible apply AllP_cons) <;> try exact aC
            exact putH v u' w' s j o' ins out' 6 [] j (by omega)
          refine S_heap (spH v u' (w' + 1) s (j + 1) 0 ins (out' ++ [tokLine j])) ?_ ?_
          · show spA v u' (w' + 1) s (IntKind.i64.wrap ((j : Nat) + 1)) o' ins (out' ++ [tokLine j]) = _
            rw [hwj, show o' = 0 by omega]; rfl
          refine S_nil ⟨_, _, rfl, trivial, ?_⟩
          rw [lnS, ← h5]
          exact ⟨u', w' + 1, rfl, rfl⟩
      · have he : ((((s.getD (j : Int).toNat 0).toNat : Nat) : Int) != 10) = true := by rw [hgc]; exact bne_iff_ne.2 (fun h => hc (UInt8.toNat_inj.1 (by show s[j].toNat = 10; omega)))
        have he2 : ((((s.getD (j : Int).toNat 0).toNat : Nat) : Int) == 10) = false := by rw [hgc]; exact beq_false_of_ne (fun h => hc (UInt8.toNat_inj.1 (by show s[j].toNat = 10; omega)))
        rw [if_pos ⟨hlt, .inl (by simpa using hc)⟩, if_neg (by simpa using hc)] at h5
        refine pB [.b true, .b true, .b true, .b false] rfl ?_
        refine S_call rfl rfl rfl (next_ok v u' w' s j o' ins out' hlt (by omega) (by omega) (by omega)) (fun r σ' h => ?_) (fun r σ' h => ?_)
        · obtain rfl := h.ret
          cases hx : oneS s j o' with
          | inl e => rw [hx] at h; cases h.1
          | inr q =>
            obtain ⟨t, j2, o2⟩ := q
            rw [hx] at h h5
            obtain ⟨u2, w2, _, rfl⟩ := h
            have hb := oneS_le hlt hx
            have hb2 := oneS_o hx h2
            have hg := gapC_le (s := s) (i := j2) (by omega)
            refine pa [.c (.tup []) (spH v u2 w2 s (gapC s j2) o2 ins (out' ++ [t]))] rfl ?_ ?_
            · (repeat' with_reducible apply AllP_cons) <;> try exact aC
              exact skipH v u2 w2 s j2 o2 ins (out' ++ [t]) (by omega) (by omega)
            exact S_round ⟨f, gapC s j2, o2, u2, w2, out' ++ [t]⟩ (by show s.length - gapC s j2 < s.length - j; omega) ⟨hg.2, hb2, by show (out' ++ [t]).length + (s.length - gapC s j2) ≤ 800000; simp; omega, by show s.length - gapC s j2 < f; omega, h5⟩ (.cons rfl (.nil _)) rfl
        · cases hx : oneS s j o' with
          | inl e =>
            rw [hx] at h h5
            rw [lnS, ← h5]
            exact h
          | inr q => rw [hx] at h; obtain ⟨_, _, h, _⟩ := h; cases h
    · rw [if_neg (fun h => hlt h.1), if_neg hlt] at h5
      by_cases hop : 0 < o'
      · rw [if_pos hop] at h5
        refine pB [.b false, .b false, .b true] rfl ?_
        refine S_callP rfl rfl rfl (failH v u' w' s j o' ins out' 1 j) ?_
        rw [lnS, ← h5]
        exact ⟨rfl, v, u', w', j, o', ins, out', rfl⟩
      · rw [if_neg hop] at h5
        refine pa [.b false, .b false, .b false, .c (.tup []) (spH v u' (w' + 1) s j o' ins (out' ++ [tokLine j])), .b false] rfl ?_ ?_
        · (repeat' with_reducible apply AllP_cons) <;> try exact aC
          exact putH v u' w' s j o' ins out' 6 [] j (by omega)
        refine S_nil ⟨_, _, rfl, trivial, ?_⟩
        rw [lnS, ← h5]
        exact ⟨u', w' + 1, rfl, by rw [show o' = 0 by omega]⟩
end Go.Proofs.YtmdegomejbpldaaGreatDoor
end
section
set_option linter.unusedVariables false
set_option linter.unusedSimpArgs false
set_option maxRecDepth 20000
namespace Go.Proofs.YtmdegomejbpldaaGreatDoor
open Go Go.Ab
theorem stopAt_stops {p : UInt8 → Bool} {s : List UInt8} : ∀ (n i : Nat), s.length - i = n → ∀ (h : stopAt p s i < s.length), p s[stopAt p s i] = false
  | 0, i, hn, h => by rw [stopAt_end (by omega)] at h; omega
  | n + 1, i, hn, h => by
    have hi : i < s.length := by omega
    by_cases hp : p s[i] = true
    · simp only [stopAt_yes hi hp] at h ⊢
      exact stopAt_stops n (i + 1) (by omega) h
    · rw [Bool.not_eq_true] at hp
      simp only [stopAt_no hi hp]; exact hp
theorem gapC_or {s : List UInt8} {i : Nat} (h : gapC s i < s.length) : s[gapC s i] = 10 ∨ gapC s i = gapE s i := by
  by_cases h1 : s[gapE s i]? = some 35
  · left
    have e : gapC s i = stopAt (fun c => !(c == 10)) s (gapE s i) := by rw [gapC, if_pos h1]
    simp only [e] at h ⊢
    simpa using stopAt_stops (p := fun c => !(c == 10)) _ _ rfl h
  · right; rw [gapC, if_neg h1]
theorem gapC_end {s : List UInt8} {i : Nat} (h : s.length ≤ i) : gapC s i = i := by
  have e : gapE s i = i := stopAt_end h
  rw [gapC, e, List.getElem?_eq_none h, if_neg (by simp)]
theorem furS_zero {ins : List Nat} (hi : Insok ins) (i : Nat) : furS 0 i ins = .inr (ins.take (stay ins 0), List.replicate (ins.length - stay ins 0) (tokOut i)) := by
  have h0 : 0 ∈ ins := List.mem_of_getElem? hi.zero
  rw [furS, if_neg (by omega), if_pos h0]
theorem lineF_le : ∀ (f : Nat) {s : List UInt8} {i o k : Nat} {out out' : List Tok}, i ≤ s.length → lineF f s i o out = .inr (k, out') → i ≤ k ∧ k ≤ s.length ∧ out'.length ≤ out.length + (k - i) + 1 ∧ (i < s.length → i < k)
  | 0, s, i, o, k, out, out', hi, h => by cases h
  | f + 1, s, i, o, k, out, out', hi, h => by
    rw [lineF] at h
    split at h
    · rename_i hc
      have hlt := hc.1
      split at h
      · have hg := gapC_le (s := s) (i := i + 1) (by omega)
        have := lineF_le f hg.2 h
        omega
      · split at h
        · cases h
        · rename_i t j o' hx
          have hb := oneS_le hlt hx
          have hg := gapC_le (s := s) (i := j) (by omega)
          have := lineF_le f hg.2 h
          simp only [List.length_append, List.length_singleton] at this
          omega
    · split at h
      · cases h
      · cases h
        rw [List.length_append, List.length_singleton]
        split <;> omega
def AlEnd (s : List UInt8) (x : Flt ⊕ List Tok) (v : Nat) : Out → Heap → Prop := fun e σ => match x with
  | .inl x => e = .panic (flt x) ∧ ∃ v u w i o ins out, σ = spHI v u w s i o ins out
  | .inr l => ∃ u w i o ins, e = .ret (.tup []) ∧ σ = spH v u w s i o ins l
structure ASt where
  f : Nat
  i : Nat
  u : Nat
  w : Nat
  ins : List Nat
  out : List Tok
theorem all_ok (v u w : Nat) (s : List UInt8) (hs : s.length ≤ 6000) :
    CallOk cx 19 [.ptr 0 v 0] (spH v u w s 0 0 [0] []) (AlEnd s (allF (s.length + 1) s 0 [0] []) v) :=
  callOk_intro (fun a w => Tryz.call19 a w) Tryz.func19 rfl Tryz.ntmps19 rfl fun B => by
    refine pa [] rfl trivial ?_
    refine S_while (α := ASt) (fun q => [(0, .ptr 0 v 0)]) (fun q => spH v q.u q.w s q.i 0 q.ins q.out)
      (fun q => q.i ≤ s.length ∧ Insok q.ins ∧ q.ins.length ≤ 31 ∧ q.out.length + q.ins.length ≤ 4 * q.i + 1 ∧ s.length - q.i < q.f ∧ allF q.f s q.i q.ins q.out = allF (s.length + 1) s 0 [0] []) (fun q => s.length - q.i) ⟨s.length + 1, 0, u, w, [0], []⟩
      ⟨Nat.zero_le _, ⟨List.pairwise_singleton _ _, rfl⟩, lble rfl, lble rfl, by show s.length - 0 < s.length + 1; omega, rfl⟩ (.cons rfl (.nil _)) rfl ?_
    rintro ⟨f, i, u', w', ins, out⟩ ⟨h1, h2, h3, h4, h5, h6⟩
    simp only at h1 h2 h3 h4 h5 h6
    show S cx _ B _ _ [(0, .ptr 0 v 0)] (spH v u' w' s i 0 ins out)
    obtain ⟨f, rfl⟩ : ∃ g, f = g + 1 := ⟨f - 1, by omega⟩
    rw [allF] at h6
    obtain ⟨J, hJ⟩ : ∃ J, J = gapC s i := ⟨_, rfl⟩
    have hg := gapC_le (s := s) (i := i) h1
    rw [← hJ] at h6 hg
    have hbk := back_ok v u' w' s J 0 ins out 0 h2 h3 (by omega)
    have hsk := skipH v u' w' s i 0 ins out h1 (by omega)
    rw [← hJ] at hsk
    by_cases hge : s.length ≤ J
    · rw [if_pos hge, furS_zero h2] at h6
      have hfin : AlEnd s (allF (s.length + 1) s 0 [0] []) v (.ret (.tup [])) (spH v u' (w' + (ins.length - stay ins 0)) s J 0 (ins.take (stay ins 0)) (out ++ List.replicate (ins.length - stay ins 0) (tokOut J))) := by
        rw [← h6]; exact ⟨_, _, _, _, _, rfl, rfl⟩
      by_cases hlt : i < s.length
      · refine pB [.b true, .c (.tup []) (spH v u' w' s J 0 ins out), .b false, .b false, .b true, .c (.tup []) (spH v u' (w' + (ins.length - stay ins 0)) s J 0 (ins.take (stay ins 0)) (out ++ List.replicate (ins.length - stay ins 0) (tokOut J)))] rfl ?_
        exact S_nil ⟨_, _, rfl, trivial, hfin⟩
      · have : J = i := by rw [hJ]; exact gapC_end (by omega)
        subst this
        refine pB [.b false, .c (.tup []) (spH v u' (w' + (ins.length - stay ins 0)) s J 0 (ins.take (stay ins 0)) (out ++ List.replicate (ins.length - stay ins 0) (tokOut J)))] rfl ?_
        exact S_nil ⟨_, _, rfl, trivial, hfin⟩
    · have hJl : J < s.length := by omega
      have hgc : (((s.getD (J : Int).toNat 0).toNat : Nat) : Int) = ((s[J].toNat : Nat) : Int) := by rw [Int.toNat_natCast, getD_byte hJl]
      have hs0 : s[J]? = some s[J] := List.getElem?_eq_getElem hJl
      have hj2 : (0 : Int) ≤ (J : Int) ∧ (J : Int) < (s.length : Int) := by omega
      rw [if_neg hge, hs0] at h6
      by_cases hc : s[J] = 10
      · rw [if_pos (by rw [hc])] at h6
        have he : ((((s.getD (J : Int).toNat 0).toNat : Nat) : Int) == 10) = true := by rw [hgc, hc]; rfl
        have hwj : IntKind.i64.wrap ((J : Nat) + 1) = ((J + 1 : Nat) : Int) := by rw [IntWalk.i64_in _ ⟨by omega, by omega⟩]; omega
        refine pB [.b true, .c (.tup []) (spH v u' w' s J 0 ins out), .b true, .b true] rfl ?_
        refine S_round ⟨f, J + 1, u', w', ins, out⟩ (by show s.length - (J + 1) < s.length - i; omega) ⟨hJl, h2, h3, by show out.length + ins.length ≤ 4 * (J + 1) + 1; omega, by show s.length - (J + 1) < f; omega, h6⟩ (.cons rfl (.nil _)) ?_
        show spA v u' w' s (IntKind.i64.wrap ((J : Nat) + 1)) 0 ins out = _
        rw [hwj]; rfl
      · rw [if_neg (by simpa using hc)] at h6
        have he : ((((s.getD (J : Int).toNat 0).toNat : Nat) : Int) == 10) = false := by rw [hgc]; exact beq_false_of_ne (fun h => hc (UInt8.toNat_inj.1 (by show s[J].toNat = 10; omega)))
        have hgE : J = gapE s i := by
          rcases gapC_or (s := s) (i := i) (by rw [← hJ]; exact hJl) with h | h
          · exact absurd (by simpa [← hJ] using h) hc
          · rw [hJ]; exact h
        have hwn : IntKind.i64.wrap ((J : Int) - (i : Int)) = ((gapE s i - i : Nat) : Int) := by rw [IntWalk.i64_in _ ⟨by omega, by omega⟩]; omega
        refine pB [.b true, .c (.tup []) (spH v u' w' s J 0 ins out), .b true, .b false, .b false] rfl ?_
        refine S_calle rfl rfl rfl (args := [.ptr 0 v 0, .int .i64 (gapE s i - i : Nat)]) (by rw [← hwn]; rfl) (begin_ok v u' w' s J 0 ins out (gapE s i - i) h2 h3 (by omega)) (fun r σ' h => ?_) (fun r σ' h => ?_)
        · obtain rfl := h.ret
          unfold begS at h
          cases hx : furS (gapE s i - i) J ins with
          | inl e => rw [hx] at h; cases h.1
          | inr q =>
            obtain ⟨ins', l⟩ := q
            rw [hx] at h h6
            obtain ⟨u2, w2, _, rfl⟩ := h
            obtain ⟨k1, k2, k3, k4⟩ := furS_ok h2 h3 hx
            simp only at h6
            refine pa [] rfl trivial ?_
            refine S_call rfl rfl rfl (line_ok v u2 w2 s J 0 ins' (out ++ l) (by omega) hs (by decide) (by simp; omega)) (fun r σ' h => ?_) (fun r σ' h => ?_)
            · obtain rfl := h.ret
              unfold lnS at h
              cases hy : lineF (s.length + 1) s J 0 (out ++ l) with
              | inl e => rw [hy] at h; cases h.1
              | inr q =>
                obtain ⟨k, out2⟩ := q
                rw [hy] at h h6
                obtain ⟨u3, w3, _, rfl⟩ := h
                have hb := lineF_le _ (by omega) hy
                have hb4 := hb.2.2.2 hJl
                rw [List.length_append] at hb
                refine pa [] rfl trivial ?_
                exact S_round ⟨f, k, u3, w3, ins', out2⟩ (by show s.length - k < s.length - i; omega) ⟨hb.2.1, k1, k2, by show out2.length + ins'.length ≤ 4 * k + 1; omega, by show s.length - k < f; omega, h6⟩ (.cons rfl (.nil _)) rfl
            · unfold lnS at h
              cases hy : lineF (s.length + 1) s J 0 (out ++ l) with
              | inl e =>
                rw [hy] at h h6
                rw [← h6]; exact h
              | inr q => rw [hy] at h; obtain ⟨_, _, h, _⟩ := h; cases h
        · unfold begS at h
          cases hx : furS (gapE s i - i) J ins with
          | inl e =>
            rw [hx] at h h6
            rw [← h6]; exact h
          | inr q => rw [hx] at h; obtain ⟨_, _, h, _⟩ := h; cases h
end Go.Proofs.YtmdegomejbpldaaGreatDoor
end
section
set_option linter.unusedVariables false
set_option linter.unusedSimpArgs false
set_option maxRecDepth 20000
namespace Go.Proofs.YtmdegomejbpldaaGreatDoor
open Go Go.Ab
section
variable {P : Tok → Prop} {s : List UInt8}
theorem all_line (h1 : ∀ i o t j o', i < s.length → oneS s i o = .inr (t, j, o') → P t) (h6 : ∀ i, P (tokLine i)) :
    ∀ (f : Nat) {i o k : Nat} {out out' : List Tok}, i ≤ s.length → lineF f s i o out = .inr (k, out') → (∀ t ∈ out, P t) → ∀ t ∈ out', P t
  | 0, i, o, k, out, out', hi, h, hq => by cases h
  | f + 1, i, o, k, out, out', hi, h, hq => by
    rw [lineF] at h
    split at h
    · rename_i hc
      split at h
      · exact all_line h1 h6 f (gapC_le (by omega)).2 h hq
      · split at h
        · cases h
        · rename_i t j o' hx
          have hb := oneS_le hc.1 hx
          refine all_line h1 h6 f (gapC_le (by omega)).2 h (fun t' ht => ?_)
          rcases List.mem_append.1 ht with ht | ht
          · exact hq _ ht
          · simp at ht; rw [ht]; exact h1 _ _ _ _ _ hc.1 hx
    · split at h
      · cases h
      · cases h
        intro t' ht
        rcases List.mem_append.1 ht with ht | ht
        · exact hq _ ht
        · simp at ht; rw [ht]; exact h6 _
theorem all_fur (h7 : ∀ i, P (tokIn i)) (h8 : ∀ i, P (tokOut i)) {n i : Nat} {ins ins' : List Nat} {l : List Tok} (h : furS n i ins = .inr (ins', l)) : ∀ t ∈ l, P t := by
  unfold furS at h
  split at h
  · split at h
    · cases h
    · cases h
      intro t ht; simp at ht; rw [ht]; exact h7 _
  · split at h
    · cases h
      intro t ht
      rw [List.eq_of_mem_replicate ht]; exact h8 _
    · cases h
theorem all_all (h1 : ∀ i o t j o', i < s.length → oneS s i o = .inr (t, j, o') → P t) (h6 : ∀ i, P (tokLine i)) (h7 : ∀ i, P (tokIn i)) (h8 : ∀ i, P (tokOut i)) :
    ∀ (f : Nat) {i : Nat} {ins : List Nat} {out l : List Tok}, i ≤ s.length → allF f s i ins out = .inr l → (∀ t ∈ out, P t) → ∀ t ∈ l, P t
  | 0, i, ins, out, l, hi, h, hq => by cases h
  | f + 1, i, ins, out, l, hi, h, hq => by
    rw [allF] at h
    have hg := gapC_le hi
    have app : ∀ {l' : List Tok}, (∀ t ∈ l', P t) → ∀ t ∈ out ++ l', P t := fun hl t ht => (List.mem_append.1 ht).elim (hq t) (hl t)
    split at h
    · split at h
      · cases h
      · rename_i hx; cases h; exact app (all_fur h7 h8 hx)
    · split at h
      · exact all_all h1 h6 h7 h8 f (by omega) h hq
      · split at h
        · cases h
        · rename_i hx
          split at h
          · cases h
          · rename_i hy
            exact all_all h1 h6 h7 h8 f (lineF_le _ hg.2 hy).2.1 h (all_line h1 h6 _ hg.2 hy (app (all_fur h7 h8 hx)))
theorem splitS_all (h1 : ∀ i o t j o', i < s.length → oneS s i o = .inr (t, j, o') → P t) (h6 : ∀ i, P (tokLine i)) (h7 : ∀ i, P (tokIn i)) (h8 : ∀ i, P (tokOut i)) : ∀ t ∈ (splitS s).1, P t := by
  unfold splitS
  split
  · intro t ht; cases ht
  · split
    · intro t ht; cases ht
    · rename_i h; exact all_all h1 h6 h7 h8 _ (Nat.zero_le _) h (fun t ht => by cases ht)
end
theorem splitS_size (s : List UInt8) : (splitS s).1.length ≤ 24040 := by
  have key : ∀ (f : Nat) (i : Nat) (ins : List Nat) (out l : List Tok), s.length ≤ 6000 → i ≤ s.length → Insok ins → ins.length ≤ 31 → out.length + ins.length ≤ 4 * i + 1 → allF f s i ins out = .inr l → l.length ≤ 4 * s.length + 40 := by
    intro f
    induction f with
    | zero => intro i ins out l hs hi h2 h3 h4 h; cases h
    | succ f ih =>
      intro i ins out l hs hi h2 h3 h4 h
      rw [allF] at h
      have hg := gapC_le (s := s) (i := i) hi
      split at h
      · rw [furS_zero h2] at h
        cases h
        simp; omega
      · rename_i hge
        split at h
        · exact ih (gapC s i + 1) ins out l hs (by omega) h2 h3 (by omega) h
        · split at h
          · cases h
          · rename_i ins' l' hx
            obtain ⟨k1, k2, k3, k4⟩ := furS_ok h2 h3 hx
            split at h
            · cases h
            · rename_i k out2 hy
              have hb := lineF_le _ hg.2 hy
              have hb4 := hb.2.2.2 (by omega)
              have hb5 := hb.2.2.1
              simp only [List.length_append] at hb5
              exact ih k ins' out2 l hs hb.2.1 k1 k2 (by omega) h
  unfold splitS
  split
  · simp
  · split
    · simp
    · rename_i h1 l h
      have := key _ _ _ _ _ (by omega) (Nat.zero_le _) ⟨List.pairwise_singleton _ _, rfl⟩ (by decide) (by decide) h
      show l.length ≤ 24040; omega
theorem quoteS_text : ∀ (n : Nat) (s : List UInt8), s.length ≤ n → ∀ {i : Nat} {b b' : List UInt8} {j : Nat}, quoteS s i b = .inr (b', j) → b'.length ≤ b.length + s.length
  | 0, s, hn, i, b, b', j, h => by
    have : s = [] := List.length_eq_zero_iff.1 (by omega)
    subst this; simp [quoteS] at h
  | n + 1, [], hn, i, b, b', j, h => by simp [quoteS] at h
  | n + 1, c :: r, hn, i, b, b', j, h => by
    simp only [List.length_cons] at hn ⊢
    rw [quoteS.eq_def] at h
    simp only at h
    split at h
    · cases h
    · split at h
      · cases h; omega
      · split at h
        · have := quoteS_text n r (by omega) h
          simp at this; omega
        · split at h
          · cases h
          · rename_i d r
            simp only [List.length_cons] at hn ⊢
            split at h
            · cases h
            · have := quoteS_text n r (by omega) h
              simp at this; omega
structure TokG (s : List UInt8) (t : Tok) : Prop where
  kind : 1 ≤ t.kind ∧ t.kind ≤ 8
  sign : t.kind = 4 → t.text ∈ signs18
  word : t.kind = 5 → t.text ∈ words14
  size : t.text.length ≤ s.length
  name : t.kind = 1 → ∃ i, i < s.length ∧ isLet (s.getD i 0) = true ∧ t.text = cutT s i (stopAt (fun c => isLet c || isDg c) s i) ∧ t.text ∉ words14
  num : t.num ≤ 9007199254740991
theorem cut_size (s : List UInt8) (i j : Nat) : (cutT s i j).length ≤ s.length := by
  unfold cutT
  rw [List.length_drop, List.length_take]; omega
theorem oneS_good {s : List UInt8} {i o j o' : Nat} {t : Tok} (hi : i < s.length) (h : oneS s i o = .inr (t, j, o')) : TokG s t := by
  unfold oneS at h
  split at h
  · rename_i h1
    cases h
    refine ⟨?_, ?_, ?_, cut_size _ _ _, ?_, Nat.zero_le _⟩
    · show 1 ≤ (if _ then 5 else 1) ∧ (if _ then 5 else 1) ≤ 8
      split <;> omega
    · intro h; exfalso; revert h; show (if _ then 5 else 1) = 4 → False; split <;> omega
    · intro h
      have h : (if cutT s i (stopAt (fun c => isLet c || isDg c) s i) ∈ words14 then 5 else 1) = 5 := h
      split at h
      · assumption
      · omega
    · intro h
      have h : (if cutT s i (stopAt (fun c => isLet c || isDg c) s i) ∈ words14 then 5 else 1) = 1 := h
      split at h
      · omega
      · exact ⟨i, hi, h1, rfl, by assumption⟩
  · split at h
    · split at h
      · cases h
      · rename_i hbig
        cases h
        exact ⟨⟨Nat.le_of_ble_eq_true rfl, Nat.le_of_ble_eq_true rfl⟩, fun h => (by cases h), fun h => (by cases h), cut_size _ _ _, fun h => (by cases h), by show natOf _ ≤ _; omega⟩
    · split at h
      · split at h
        · cases h
        · rename_i b j' hq
          cases h
          have := quoteS_text _ _ (Nat.le_refl _) hq
          refine ⟨⟨Nat.le_of_ble_eq_true rfl, Nat.le_of_ble_eq_true rfl⟩, fun h => (by cases h), fun h => (by cases h), ?_, fun h => (by cases h), Nat.zero_le _⟩
          show b.length ≤ s.length
          rw [List.length_drop] at this
          simp only [List.length_nil] at this
          omega
      · split at h
        · cases h
        · rename_i g hs
          have hg := List.mem_of_find?_eq_some hs
          have hl := signAt_le hs
          have fin : ∀ {x : Flt ⊕ (Tok × Nat × Nat)} {jj oo : Nat}, x = .inr (⟨4, g, 0, i⟩, jj, oo) → x = .inr (t, j, o') → TokG s t := fun h1 h2 => by
            rw [h1] at h2; cases h2
            exact ⟨⟨Nat.le_of_ble_eq_true rfl, Nat.le_of_ble_eq_true rfl⟩, fun _ => hg, fun h => (by cases h), by show g.length ≤ _; omega, fun h => (by cases h), Nat.zero_le _⟩
          split at h
          · split at h
            · cases h
            · exact fin rfl h
          · split at h
            · split at h
              · cases h
              · exact fin rfl h
            · exact fin rfl h
theorem splitS_good (s : List UInt8) : ∀ t ∈ (splitS s).1, TokG s t :=
  splitS_all (fun _ _ _ _ _ hi h => oneS_good hi h) (fun _ => ⟨⟨Nat.le_of_ble_eq_true rfl, Nat.le_of_ble_eq_true rfl⟩, nofun, nofun, Nat.zero_le _, nofun, Nat.zero_le _⟩) (fun _ => ⟨⟨Nat.le_of_ble_eq_true rfl, Nat.le_of_ble_eq_true rfl⟩, nofun, nofun, Nat.zero_le _, nofun, Nat.zero_le _⟩) (fun _ => ⟨⟨Nat.le_of_ble_eq_true rfl, Nat.le_of_ble_eq_true rfl⟩, nofun, nofun, Nat.zero_le _, nofun, Nat.zero_le _⟩)
theorem stopAt_all {p : UInt8 → Bool} {s : List UInt8} (h : ∀ c ∈ s, p c = true) : stopAt p s 0 = s.length := by
  unfold stopAt
  rw [List.drop_zero, Nat.zero_add]
  congr 1
  induction s with
  | nil => rfl
  | cons c r ih => rw [List.takeWhile_cons, if_pos (h c (List.mem_cons_self ..)), ih (fun x hx => h x (List.mem_cons_of_mem _ hx))]
theorem isNm_iff (s : List UInt8) : isNm s = true ↔ s ≠ [] ∧ isLet (s.getD 0 0) = true ∧ (∀ c ∈ s, (isLet c || isDg c) = true) ∧ s ∉ words14 := by
  cases s with
  | nil => simp [isNm]
  | cons c r =>
    rw [isNm]
    simp only [Bool.and_eq_true, List.all_eq_true, Bool.not_eq_true', List.contains_eq_mem, decide_eq_false_iff_not, List.getD_cons_zero, List.mem_cons, forall_eq_or_imp, ne_eq, reduceCtorEq, not_false_eq_true, true_and]
    constructor
    · rintro ⟨⟨h1, h2⟩, h3⟩; exact ⟨h1, ⟨by rw [h1]; rfl, h2⟩, h3⟩
    · rintro ⟨h1, ⟨_, h2⟩, h3⟩; exact ⟨⟨h1, h2⟩, h3⟩
theorem mem_tw {p : UInt8 → Bool} : ∀ {s : List UInt8} {c : UInt8}, c ∈ s.takeWhile p → p c = true
  | [], c, h => by cases h
  | x :: r, c, h => by
    rw [List.takeWhile_cons] at h
    split at h
    · rcases List.mem_cons.1 h with h | h
      · rw [h]; assumption
      · exact mem_tw h
    · cases h
theorem isLet_no {c : UInt8} (h : isLet c = true) : c ≠ 32 ∧ c ≠ 35 ∧ c ≠ 10 := by
  refine ⟨?_, ?_, ?_⟩ <;> (rintro rfl; revert h; decide)
theorem splitS_name {s : List UInt8} (h : isNm s = true) (hl : s.length ≤ 6000) : splitS s = ([⟨1, s, 0, 0⟩, tokLine s.length], (0, 0)) := by
  obtain ⟨h0, h1, h2, h3⟩ := (isNm_iff s).1 h
  have hpos : 0 < s.length := List.length_pos_iff.2 h0
  have hc : s[0]? = some (s.getD 0 0) := by simp [List.getD, hpos]
  obtain ⟨n1, n2, n3⟩ := isLet_no h1
  have g0 : gapE s 0 = 0 := stopAt_no hpos (by
    have e : s.getD 0 0 = s[0] := by simp [List.getD, hpos]
    rw [← e]; exact beq_false_of_ne n1)
  have gc0 : gapC s 0 = 0 := by
    unfold gapC
    rw [g0, hc, if_neg (by simpa using n2)]
  have gcl : gapC s s.length = s.length := gapC_end (Nat.le_refl _)
  have hst := stopAt_all (p := fun c => isLet c || isDg c) h2
  have hct : cutT s 0 s.length = s := by simp [cutT]
  have one : oneS s 0 0 = .inr (⟨1, s, 0, 0⟩, s.length, 0) := by
    unfold oneS
    rw [if_pos h1, hst, hct, if_neg h3]
  have line : lineF (s.length + 1) s 0 0 [] = .inr (s.length, [⟨1, s, 0, 0⟩, tokLine s.length]) := by
    rw [lineF, if_pos ⟨hpos, .inl (by rw [hc]; simpa using n3)⟩, if_neg (by rw [hc]; simpa using n3), one]
    show lineF s.length s (gapC s s.length) 0 ([] ++ [⟨1, s, 0, 0⟩]) = _
    rw [gcl]
    obtain ⟨m, hm⟩ : ∃ m, s.length = m + 1 := ⟨s.length - 1, by omega⟩
    rw [show lineF s.length s s.length 0 = lineF (m + 1) s s.length 0 by rw [hm]]
    rw [lineF, if_neg (by omega), if_neg (by omega), if_neg (by omega)]; rfl
  have fz : ∀ i, furS 0 i [0] = .inr ([0], []) := fun i => rfl
  unfold splitS
  rw [if_neg (by omega)]
  have : allF (s.length + 1) s 0 [0] [] = .inr [⟨1, s, 0, 0⟩, tokLine s.length] := by
    rw [allF, gc0, g0, if_neg (by omega), if_neg (by rw [hc]; simpa using n3), fz]
    show (match lineF (s.length + 1) s 0 0 ([] ++ []) with | .inl e => _ | .inr (k, out') => _) = _
    rw [List.append_nil, line]
    show allF s.length s s.length [0] _ = _
    obtain ⟨m, hm⟩ : ∃ m, s.length = m + 1 := ⟨s.length - 1, by omega⟩
    rw [show allF s.length s s.length [0] = allF (m + 1) s s.length [0] by rw [hm]]
    rw [allF, gcl, if_pos (Nat.le_refl _), fz]; rfl
  rw [this]
theorem name_of {s : List UInt8} {t : Tok} {u : List Tok} (h : (splitS s).1 = t :: u) (hk : t.kind = 1) (ht : t.text = s) : isNm s = true := by
  have hg := splitS_good s t (by rw [h]; exact List.mem_cons_self ..)
  obtain ⟨i, hi, h1, h2, h3⟩ := hg.name hk
  rw [ht] at h2 h3
  have hb := stopAt_lt (p := fun c => isLet c || isDg c) hi (by rw [h1]; rfl)
  have hl : s.length = (stopAt (fun c => isLet c || isDg c) s i) - i := by
    have : (cutT s i (stopAt (fun c => isLet c || isDg c) s i)).length = stopAt (fun c => isLet c || isDg c) s i - i := by
      unfold cutT; rw [List.length_drop, List.length_take]; omega
    rw [← h2] at this; exact this
  obtain rfl : i = 0 := by omega
  refine (isNm_iff s).2 ⟨by rintro rfl; simp at hi, h1, ?_, h3⟩
  have : ((s.drop 0).takeWhile (fun c => isLet c || isDg c)).length = s.length := by
    unfold stopAt at hl; omega
  rw [List.drop_zero] at this
  have e := (List.takeWhile_prefix (fun c => isLet c || isDg c) (l := s)).eq_of_length this
  intro c hc
  rw [← e] at hc
  exact mem_tw hc
end Go.Proofs.YtmdegomejbpldaaGreatDoor
end
