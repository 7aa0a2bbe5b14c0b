/-
  The evaluator, and its soundness: 'go'.
-/
import Derived.Test.YtjpmngjoohoddaaAbN
set_option linter.unusedVariables false
set_option linter.unusedSimpArgs false
namespace Go.Ab
open Go

def guardA (all : Array Oper) (o : Oper) (K : List Nat) (fr : Fr) : Option Bool :=
  match o.guard with
  | none => some true
  | some (j, want) => match all[j]? with
    | some oj => match oj.dst with
      | some d => match fr.get d with
        | .bool b => bif memN d K then
            match b with
            | true => some want
            | false => some (!want)
          else none
        | .tup vs => match vs with
          | [] => some false
          | _ :: _ => none
        | _ => none
      | none => none
    | none => none

theorem yielded_of {cx : Cx} {r : Rl} {w : World} {n : Nat} {fr : Fr} {a : Act} {all : Array Oper} {j d : Nat} {oj : Oper} {b : Bool} (hf : FRel r w n fr a) (hj : all[j]? = some oj) (hd : oj.dst = some d) (hb : fr.get d = .bool b) :
    yielded all a.tmps j = some b := by
  have hv := hf.get d
  rw [hb] at hv
  have h1 : a.tmps[d]? = some (.bool b) := by
    rw [Array.getD_eq_getD_getElem?] at hv
    cases h : a.tmps[d]? with
    | none => rw [h] at hv; simp only [Option.getD_none, undef] at hv; cases hv
    | some v => rw [h] at hv; simp only [Option.getD_some] at hv; cases hv; rfl
  simp [yielded, hj, hd, h1]

theorem guardA_wanted {cx : Cx} {r : Rl} {w : World} {n : Nat} {fr : Fr} {a : Act} {all : Array Oper} {o : Oper} {K : List Nat} {t : Bool} (hf : FRel r w n fr a) (h : guardA all o K fr = some t) :
    Region.wanted o (yielded all a.tmps) = t := by
  unfold guardA at h
  split at h
  · rename_i hg
    simp only [Option.some.injEq] at h
    subst h
    simp [Region.wanted, hg]
  · rename_i j want hg
    split at h
    case h_2 => cases h
    rename_i oj hj
    split at h
    case h_2 => cases h
    rename_i d hd
    split at h
    · rename_i b hb
      cases hm : memN d K with
      | false => rw [hm] at h; cases h
      | true =>
        rw [hm] at h
        simp only [cond_true] at h
        have hy := yielded_of (cx := cx) hf hj hd hb
        split at h <;> (simp only [Option.some.injEq] at h; subst h; cases want <;> simp [Region.wanted, hg, hy])
    · rename_i vs hb
      split at h
      case h_2 => cases h
      simp only [Option.some.injEq] at h
      subst h
      have hv := hf.get d
      rw [hb] at hv
      have hy : yielded all a.tmps j = none := by
        rw [Array.getD_eq_getD_getElem?] at hv
        cases h1 : a.tmps[d]? with
        | none => simp [yielded, hj, hd, h1]
        | some v =>
          rw [h1] at hv
          simp only [Option.getD_some] at hv
          cases hv
          simp [yielded, hj, hd, h1]
      simp [Region.wanted, hg, hy]
    · cases h

def setA (d : Option Nat) (v : AV) (fr : Fr) : Fr := match d with | some d => (d, v) :: fr | none => fr
def dstOk (n : Nat) (d : Option Nat) : Bool := match d with | some d => Nat.blt d n | none => true

theorem FRel.setA {r : Rl} {w : World} {n : Nat} {fr : Fr} {a : Act} {d : Option Nat} {v : Value} {x : AV} (h : FRel r w n fr a) (hd : dstOk n d = true) (hv : VRel r w v x) :
    FRel r w n (setA d x fr) (a.put d v) := by
  cases d with
  | none => exact h
  | some d => exact h.set (by simpa [dstOk, Nat.blt_eq] using hd) hv

theorem Act.put_defers (a : Act) (d : Option Tmp) (v : Value) : (a.put d v).defers = a.defers := by cases d <;> rfl

theorem Dfs.put {B : Bs} {a : Act} (h : Dfs B a) (d : Option Tmp) (v : Value) : Dfs B (a.put d v) := fun e => by rw [Act.put_defers]; exact h e

section
variable {cx : Cx} {n : Nat} {B : Bs} {k : List AI} {Q : Post} {fr : Fr} {σ : Heap}

theorem S_op {M : List Nat} {all : Array Oper} {o : Oper} {l : List Oper} {K : List Nat} {C : List Prop} {v : AV} {σ' : Heap} (hg : guardA all o K fr = some true) (h : aOp cx M o.dst o.op fr σ = some (C, v, σ')) (hC : AllP C)
    (hd : dstOk n o.dst = true) (hk : S cx n B (.ops all l K :: k) Q (setA o.dst v fr) σ') : S cx n B (.ops all (o :: l) K :: k) Q fr σ := by
  intro r a w hi hf hdf hx
  have hw := guardA_wanted (cx := cx) hf hg
  obtain ⟨r', w', v', hrun, hv, hi', hx'⟩ := aOp_run hi hf h hC
  unfold wpList
  rw [if_pos hw]
  refine .inl ?_
  unfold Oper.wp
  have hf' : FRel r' w' n (setA o.dst v fr) (a.put o.dst v') := (hf.mono (hx'.grow hi)).setA hd hv
  have hgo := hk r' (a.put o.dst v') w' hi' hf' (hdf.put _ _) (hx.trans hx')
  rcases hrun with hrun | ⟨hrun, hu⟩
  · rw [hrun]; exact hgo
  · rw [hrun]; subst hu; exact hgo

theorem S_op_skip {all : Array Oper} {o : Oper} {l : List Oper} {K : List Nat} (hg : guardA all o K fr = some false) (hd : dstOk n o.dst = true) (hk : S cx n B (.ops all l K :: k) Q (setA o.dst (.tup []) fr) σ) :
    S cx n B (.ops all (o :: l) K :: k) Q fr σ := by
  intro r a w hi hf hdf hx
  have hw := guardA_wanted (cx := cx) hf hg
  unfold wpList
  rw [if_neg (by rw [hw]; simp)]
  exact hk r _ w hi (hf.setA hd (.tup rfl (fun i h => absurd h (by simp)))) (hdf.put _ _) hx

/-- A guard is looked at: two ways. -/
theorem S_guard {all : Array Oper} {o oj : Oper} {l : List Oper} {K : List Nat} {j d : Nat} {want b : Bool} (hg : o.guard = some (j, want)) (hj : all[j]? = some oj) (hd : oj.dst = some d) (hb : fr.get d = .bool b)
    (ht : b = true → S cx n B (.ops all (o :: l) (d :: K) :: k) Q ((d, .bool true) :: fr) σ) (hf : b = false → S cx n B (.ops all (o :: l) (d :: K) :: k) Q ((d, .bool false) :: fr) σ) :
    S cx n B (.ops all (o :: l) K :: k) Q fr σ := by
  intro r a w hi hfr hdf hx
  have key : ∀ c : Bool, b = c → FRel r w n ((d, .bool c) :: fr) a := by
    intro c hc
    subst hc
    refine ⟨hfr.size, fun t => ?_, fun vs hm => ?_⟩
    · rw [Fr.get_cons]
      split
      · rename_i h; subst h; rw [← hb]; exact hfr.get d
      · exact hfr.get t
    · rw [Fr.get_cons] at hm
      split at hm
      · cases hm
      · exact hfr.defs vs hm
  cases hbb : b with
  | true => exact ht hbb r a w hi (key true hbb) hdf hx
  | false => exact hf hbb r a w hi (key false hbb) hdf hx
end

/-- What can't be evaluated by itself. -/
def stopOp : Op → Bool
  | .call { callee := .builtin b, .. } => match b with
    | .append | .copy | .len | .unsafeSliceData | .min | .max => false
    | _ => true
  | .call _ => true
  | .defer _ => true
  | .panic _ => true
  | .go _ => true
  | .indexAddr .. => true
  | .lookup .. => true
  | .mapUpdate .. => true
  | .next .. => true
  | .entry _ => true
  | _ => false

def forceV {α : Type} (v : AV) (c : AV → α) : α :=
  match v with
  | .top => c .top
  | .bool b => c (.bool b)
  | .int k n => c (.int k n)
  | .str s => c (.str s)
  | .nilp => c .nilp
  | .ptr id ver off => c (.ptr id ver off)
  | .eptr id ver off => c (.eptr id ver off)
  | .rp st cs => c (.rp st cs)
  | .nils => c .nils
  | .sl st fl sz xs => c (.sl st fl sz xs)
  | .ms id ver off len sz full => c (.ms id ver off len sz full)
  | .nilm => c .nilm
  | .map id ver => c (.map id ver)
  | .func fn a b => c (.func fn a b)
  | .nilf => c .nilf
  | .iface t v => c (.iface t v)
  | .nili => c .nili
  | .agg cs => c (.agg cs)
  | .tup vs => c (.tup vs)
  | .mark vs => c (.mark vs)

theorem forceV_eq {α : Type} (v : AV) (c : AV → α) : forceV v c = c v := by cases v <;> rfl

def forceL {α β : Type} : List α → (List α → β) → β
  | [], c => c []
  | x :: r, c => forceL r fun r' => c (x :: r')

theorem forceL_eq {α β : Type} : ∀ (l : List α) (c : List α → β), forceL l c = c l
  | [], c => rfl
  | x :: r, c => forceL_eq r _

def setC {α : Type} (d : Option Nat) (v : AV) (fr : Fr) (c : Fr → α) : α := match d with | some d => c ((d, v) :: fr) | none => c fr

theorem setC_eq {α : Type} (d : Option Nat) (v : AV) (fr : Fr) (c : Fr → α) : setC d v fr c = c (setA d v fr) := by cases d <;> rfl

def pushAll {α : Type} : List Prop → List Prop → (List Prop → α) → α
  | [], C, c => c C
  | p :: r, C, c => pushAll r (p :: C) c

theorem pushAll_eq {α : Type} : ∀ (D C : List Prop) (c : List Prop → α), pushAll D C c = c (D.reverse ++ C)
  | [], C, c => rfl
  | p :: r, C, c => by rw [pushAll, pushAll_eq r]; simp

structure Rs where
  C : List Prop
  todo : List AI
  fr : Fr
  σ : Heap

def runA (cx : Cx) (M : List Nat) (n : Nat) : Nat → List Prop → List AI → Fr → Heap → Rs
  | 0, C, k, fr, σ => ⟨C, k, fr, σ⟩
  | f + 1, C, k, fr, σ =>
    match k with
    | [] => ⟨C, [], fr, σ⟩
    | .code c :: k => match c with
      | .skip => runA cx M n f C k fr σ
      | .label _ => runA cx M n f C k fr σ
      | .seq a b => runA cx M n f C (.code a :: .code b :: k) fr σ
      | .block id c => runA cx M n f C (.code c :: .blk id :: k) fr σ
      | .region id ops draw => match draw with
        | false => runA cx M n f C (.ops ops ops.toList [] :: k) fr σ
        | true => ⟨C, .code (.region id ops true) :: k, fr, σ⟩
      | .exit id => match popTo id k with
        | some k' => runA cx M n f C k' fr σ
        | none => ⟨C, .code (.exit id) :: k, fr, σ⟩
      | c => ⟨C, .code c :: k, fr, σ⟩
    | .blk _ :: k => runA cx M n f C k fr σ
    | .inv I :: k => ⟨C, .inv I :: k, fr, σ⟩
    | .ops all l K :: k => match l with
      | [] => runA cx M n f C k fr σ
      | o :: r => match guardA all o K fr with
        | some true => match stopOp o.op with
          | true => ⟨C, .ops all (o :: r) K :: k, fr, σ⟩
          | false => match dstOk n o.dst with
            | true => match aOp cx M o.dst o.op fr σ with
              | some (C', v, σ') => pushAll C' C fun C => forceV v fun v => forceL σ' fun σ' => setC o.dst v fr fun fr => runA cx M n f C (.ops all r K :: k) fr σ'
              | none => ⟨C, .ops all (o :: r) K :: k, fr, σ⟩
            | false => ⟨C, .ops all (o :: r) K :: k, fr, σ⟩
        | some false => match dstOk n o.dst with
          | true => setC o.dst (.tup []) fr fun fr => runA cx M n f C (.ops all r K :: k) fr σ
          | false => ⟨C, .ops all (o :: r) K :: k, fr, σ⟩
        | none => ⟨C, .ops all (o :: r) K :: k, fr, σ⟩

theorem AllP_rev {C : List Prop} : ∀ {D : List Prop}, AllP (D.reverse ++ C) → AllP D ∧ AllP C
  | [], h => ⟨trivial, h⟩
  | p :: r, h => by
    simp only [List.reverse_cons, List.append_assoc, List.singleton_append] at h
    obtain ⟨h1, h2⟩ := AllP_rev h
    exact ⟨⟨h2.1, h1⟩, h2.2⟩

theorem runA_sound {cx : Cx} {M : List Nat} {n : Nat} {B : Bs} {Q : Post} : ∀ (f : Nat) (C : List Prop) (k : List AI) (fr : Fr) (σ : Heap) (R : Rs), runA cx M n f C k fr σ = R → AllP R.C →
    AllP C ∧ (S cx n B R.todo Q R.fr R.σ → S cx n B k Q fr σ) := by
  intro f
  induction f with
  | zero => intro C k fr σ R h hC; subst h; exact ⟨hC, id⟩
  | succ f ih =>
    intro C k fr σ R h hC
    unfold runA at h
    split at h
    · subst h; exact ⟨hC, id⟩
    · rename_i c k'
      split at h
      · obtain ⟨h1, h2⟩ := ih _ _ _ _ _ h hC; exact ⟨h1, fun hs => S_skip (h2 hs)⟩
      · obtain ⟨h1, h2⟩ := ih _ _ _ _ _ h hC; exact ⟨h1, fun hs => S_label (h2 hs)⟩
      · obtain ⟨h1, h2⟩ := ih _ _ _ _ _ h hC; exact ⟨h1, fun hs => S_seq (h2 hs)⟩
      · obtain ⟨h1, h2⟩ := ih _ _ _ _ _ h hC; exact ⟨h1, fun hs => S_block (h2 hs)⟩
      · split at h
        · obtain ⟨h1, h2⟩ := ih _ _ _ _ _ h hC; exact ⟨h1, fun hs => S_region (h2 hs)⟩
        · subst h; exact ⟨hC, id⟩
      · split at h
        · rename_i id k'' hp
          obtain ⟨h1, h2⟩ := ih _ _ _ _ _ h hC; exact ⟨h1, fun hs => S_exit hp (h2 hs)⟩
        · subst h; exact ⟨hC, id⟩
      · subst h; exact ⟨hC, id⟩
    · obtain ⟨h1, h2⟩ := ih _ _ _ _ _ h hC; exact ⟨h1, fun hs => S_blk (h2 hs)⟩
    · subst h; exact ⟨hC, id⟩
    · split at h
      · obtain ⟨h1, h2⟩ := ih _ _ _ _ _ h hC; exact ⟨h1, fun hs => S_ops_nil (h2 hs)⟩
      · split at h
        · rename_i hg
          split at h
          · subst h; exact ⟨hC, id⟩
          · split at h
            · rename_i hd
              split at h
              · rename_i C' v σ' ha
                rw [pushAll_eq] at h
                simp only [forceV_eq, forceL_eq, setC_eq] at h
                obtain ⟨h1, h2⟩ := ih _ _ _ _ _ h hC
                obtain ⟨h3, h4⟩ := AllP_rev h1
                exact ⟨h4, fun hs => S_op hg ha h3 hd (h2 hs)⟩
              · subst h; exact ⟨hC, id⟩
            · subst h; exact ⟨hC, id⟩
        · rename_i hg
          split at h
          · rename_i hd
            rw [setC_eq] at h
            obtain ⟨h1, h2⟩ := ih _ _ _ _ _ h hC
            exact ⟨h1, fun hs => S_op_skip hg hd (h2 hs)⟩
          · subst h; exact ⟨hC, id⟩
        · subst h; exact ⟨hC, id⟩

/-- The machine goes on by itself. -/
theorem go {cx : Cx} {M : List Nat} {n : Nat} {B : Bs} {Q : Post} {k k' : List AI} {fr fr' : Fr} {σ σ' : Heap} {C : List Prop} (f : Nat) (h : runA cx M n f [] k fr σ = ⟨C, k', fr', σ'⟩) (hC : AllP C)
    (hk : S cx n B k' Q fr' σ') : S cx n B k Q fr σ :=
  (runA_sound f [] k fr σ _ h hC).2 hk

/-- The same, where every new slice is a finished one. -/
theorem ab {cx : Cx} {n : Nat} {B : Bs} {Q : Post} {k k' : List AI} {fr fr' : Fr} {σ σ' : Heap} {C : List Prop} (f : Nat) (h : runA cx [] n f [] k fr σ = ⟨C, k', fr', σ'⟩) (hC : AllP C)
    (hk : S cx n B k' Q fr' σ') : S cx n B k Q fr σ := go f h hC hk

theorem Weak.nil (fr : Fr) : Weak fr [] := fun t => .inl rfl
theorem Weak.cons {fr fr' : Fr} {t : Nat} {v : AV} (h : fr.get t = v) (hw : Weak fr fr') : Weak fr ((t, v) :: fr') := fun s => by
  rw [Fr.get_cons]
  by_cases hs : t = s
  · subst hs; rw [if_pos rfl]; exact .inr h.symm
  · rw [if_neg hs]; exact hw s

end Go.Ab
