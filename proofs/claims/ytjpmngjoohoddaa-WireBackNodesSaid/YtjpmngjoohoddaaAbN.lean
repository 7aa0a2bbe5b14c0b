/-
  The machine: a state is what is left to do, a frame and a heap. 'go' runs it as far as no test, no call and no loop stands in the way.
-/
import Derived.Test.YtjpmngjoohoddaaAbM
set_option linter.unusedVariables false
set_option linter.unusedSimpArgs false
namespace Go.Ab
open Go

inductive AExit where
  | normal
  | ret
  | exit (id : Nat)
  | goto (l : Nat)
  | panic (v : AV)

def ERel (r : Rl) (w : World) : Exit → AExit → Prop
  | .normal, .normal => True
  | .ret, .ret => True
  | .exit i, .exit j => i = j
  | .goto i, .goto j => i = j
  | .panic chain, .panic v => ∃ v', chain = [{ v := v', recovered := false }] ∧ VRel r w v' v
  | _, _ => False

/-- Where the call began. -/
structure Bs where
  r : Rl
  σ : Heap
  w : World
  df : Bool := false

/-- Nothing is deferred, where nothing may be. -/
def Dfs (B : Bs) (a : Act) : Prop := B.df = false → a.defers = []

abbrev Post := AExit → Fr → Heap → Prop

def Lift (cx : Cx) (n : Nat) (B : Bs) (Q : Post) : Exit → Act → World → Prop := fun e a w =>
  ∃ ae fr σ r, Q ae fr σ ∧ ERel r w e ae ∧ Inv cx r σ w ∧ FRel r w n fr a ∧ Dfs B a ∧ Ext B.r B.σ B.w r σ w

def Here (cx : Cx) (n : Nat) (B : Bs) (fr : Fr) (σ : Heap) (R : Act → World → Prop) : Prop :=
  ∀ r a w, Inv cx r σ w → FRel r w n fr a → Dfs B a → Ext B.r B.σ B.w r σ w → R a w

def CodeOk (cx : Cx) (n : Nat) (B : Bs) (c : Code) (Q : Post) (fr : Fr) (σ : Heap) : Prop := Here cx n B fr σ (c.wp cx.P (Lift cx n B Q))

def OpsOk (cx : Cx) (n : Nat) (B : Bs) (all : Array Oper) (l : List Oper) (Q : Post) (fr : Fr) (σ : Heap) : Prop := Here cx n B fr σ (wpList cx.P all (Lift cx n B Q) l)

inductive AI where
  | code (c : Code)
  | blk (id : Nat)
  | ops (all : Array Oper) (l : List Oper) (K : List Nat)
  | inv (M : Fr → Heap → Prop)

def after (cx : Cx) (n : Nat) (B : Bs) : List AI → Post → Post
  | [], Q => Q
  | .code c :: k, Q => fun e => match e with
    | .normal => CodeOk cx n B c (after cx n B k Q)
    | e => after cx n B k Q e
  | .blk id :: k, Q => fun e => match e with
    | .exit id' => if id' = id then after cx n B k Q .normal else after cx n B k Q (.exit id')
    | e => after cx n B k Q e
  | .ops all l _ :: k, Q => fun e => match e with
    | .normal => OpsOk cx n B all l (after cx n B k Q)
    | e => after cx n B k Q e
  | .inv M :: k, Q => fun e => match e with
    | .normal => M
    | e => after cx n B k Q e

def S (cx : Cx) (n : Nat) (B : Bs) (todo : List AI) (Q : Post) (fr : Fr) (σ : Heap) : Prop := after cx n B todo Q .normal fr σ

section
variable {cx : Cx} {n : Nat} {B : Bs} {k : List AI} {Q : Post} {fr : Fr} {σ : Heap}

theorem Lift.mk {e : Exit} {ae : AExit} {Q : Post} {r : Rl} {a : Act} {w : World} (h : Q ae fr σ) (he : ERel r w e ae) (hi : Inv cx r σ w) (hf : FRel r w n fr a) (hd : Dfs B a) (hx : Ext B.r B.σ B.w r σ w) : Lift cx n B Q e a w :=
  ⟨ae, fr, σ, r, h, he, hi, hf, hd, hx⟩

theorem S_skip (h : S cx n B k Q fr σ) : S cx n B (.code .skip :: k) Q fr σ :=
  fun r a w hi hf hd hx => wp_skip (Lift.mk h trivial hi hf hd hx)

theorem S_label {l : Nat} (h : S cx n B k Q fr σ) : S cx n B (.code (.label l) :: k) Q fr σ :=
  fun r a w hi hf hd hx => wp_label (Lift.mk h trivial hi hf hd hx)

theorem S_seq {x y : Code} (h : S cx n B (.code x :: .code y :: k) Q fr σ) : S cx n B (.code (.seq x y) :: k) Q fr σ := by
  intro r a w hi hf hd hx
  refine wp_seq (wp_mono (h r a w hi hf hd hx) fun e a w hq => ?_)
  obtain ⟨ae, fr', σ', r', hq, he, hi', hf', hd', hx'⟩ := hq
  cases e <;> cases ae <;> first | exact he.elim | skip
  · exact hq r' a w hi' hf' hd' hx'
  · exact Lift.mk hq he hi' hf' hd' hx'
  · exact Lift.mk hq he hi' hf' hd' hx'
  · exact Lift.mk hq he hi' hf' hd' hx'
  · exact Lift.mk hq he hi' hf' hd' hx'

theorem S_block {id : Nat} {c : Code} (h : S cx n B (.code c :: .blk id :: k) Q fr σ) : S cx n B (.code (.block id c) :: k) Q fr σ := by
  intro r a w hi hf hd hx
  refine wp_block (wp_mono (h r a w hi hf hd hx) fun e a w hq => ?_)
  obtain ⟨ae, fr', σ', r', hq, he, hi', hf', hd', hx'⟩ := hq
  cases e <;> cases ae <;> first | exact he.elim | skip
  · exact Lift.mk hq he hi' hf' hd' hx'
  · rename_i i j
    have hij : i = j := he
    subst hij
    simp only [after] at hq
    simp only [Exit.inBlock]
    split at hq
    · rename_i hid
      rw [if_pos hid]
      exact Lift.mk hq trivial hi' hf' hd' hx'
    · rename_i hid
      rw [if_neg hid]
      exact Lift.mk (ae := .exit i) hq rfl hi' hf' hd' hx'
  · exact Lift.mk hq he hi' hf' hd' hx'
  · exact Lift.mk hq he hi' hf' hd' hx'
  · exact Lift.mk hq he hi' hf' hd' hx'

theorem S_blk {id : Nat} (h : S cx n B k Q fr σ) : S cx n B (.blk id :: k) Q fr σ := h

theorem S_region {id : Nat} {ops : Array Oper} {K : List Nat} (h : S cx n B (.ops ops ops.toList K :: k) Q fr σ) : S cx n B (.code (.region id ops false) :: k) Q fr σ :=
  fun r a w hi hf hd hx => wp_region_list (h r a w hi hf hd hx)

theorem S_ops_nil {all : Array Oper} {K : List Nat} (h : S cx n B k Q fr σ) : S cx n B (.ops all [] K :: k) Q fr σ :=
  fun r a w hi hf hd hx => wpList_nil (Lift.mk h trivial hi hf hd hx)

def popTo (id : Nat) : List AI → Option (List AI)
  | [] => none
  | .blk i :: k => bif Nat.beq i id then some k else popTo id k
  | .code _ :: k => popTo id k
  | .ops .. :: k => popTo id k
  | .inv _ :: k => popTo id k

theorem after_exit {id : Nat} : ∀ {k k' : List AI}, popTo id k = some k' → after cx n B k' Q .normal fr σ → after cx n B k Q (.exit id) fr σ
  | [], k', h, _ => by simp [popTo] at h
  | .blk i :: k, k', h, hq => by
    simp only [popTo] at h
    cases hb : Nat.beq i id with
    | true =>
      rw [hb] at h
      simp only [cond_true, Option.some.injEq] at h
      subst h
      have := Nat.eq_of_beq_eq_true hb
      subst this
      simp only [after, if_true]
      exact hq
    | false =>
      rw [hb] at h
      simp only [cond_false] at h
      have hne : ¬ id = i := fun e => by subst e; simp at hb
      simp only [after, if_neg hne]
      exact after_exit h hq
  | .code _ :: k, k', h, hq => after_exit (k := k) h hq
  | .ops .. :: k, k', h, hq => after_exit (k := k) h hq
  | .inv _ :: k, k', h, hq => after_exit (k := k) h hq

theorem S_exit {id : Nat} {k' : List AI} (hp : popTo id k = some k') (h : S cx n B k' Q fr σ) : S cx n B (.code (.exit id) :: k) Q fr σ :=
  fun r a w hi hf hd hx => wp_exit (Lift.mk (ae := .exit id) (after_exit hp h) rfl hi hf hd hx)

theorem after_ret : ∀ (k : List AI), after cx n B k Q .ret = Q .ret
  | [] => rfl
  | .blk i :: k => after_ret k
  | .code _ :: k => after_ret k
  | .ops .. :: k => after_ret k
  | .inv _ :: k => after_ret k

theorem after_panic (v : AV) : ∀ (k : List AI), after cx n B k Q (.panic v) = Q (.panic v)
  | [] => rfl
  | .blk i :: k => after_panic v k
  | .code _ :: k => after_panic v k
  | .ops .. :: k => after_panic v k
  | .inv _ :: k => after_panic v k

theorem S_ret (h : Q .ret fr σ) : S cx n B (.code .ret :: k) Q fr σ :=
  fun r a w hi hf hd hx => wp_ret (Lift.mk (ae := .ret) (by rw [after_ret]; exact h) trivial hi hf hd hx)

theorem S_nil (h : Q .normal fr σ) : S cx n B [] Q fr σ := h

theorem S_cond {c : Operand} {x y : Code} {b : Bool} (hc : ev cx fr c = .bool b) (ht : b = true → S cx n B (.code x :: k) Q fr σ) (hf : b = false → S cx n B (.code y :: k) Q fr σ) : S cx n B (.code (.cond c x y) :: k) Q fr σ := by
  intro r a w hi hf' hd hx
  have hv := ev_rel hi hf' c
  rw [hc] at hv
  have he : a.eval c = .bool b := by generalize a.eval c = z at hv; cases hv; rfl
  exact wp_cond_split he (fun h => ht h r a w hi hf' hd hx) (fun h => hf h r a w hi hf' hd hx)

theorem S_inv {M : Fr → Heap → Prop} (h : M fr σ) : S cx n B (.inv M :: k) Q fr σ := h

theorem S_code_weak {c : Code} {fr' : Fr} (hw : Weak fr fr') (h : S cx n B (.code c :: k) Q fr' σ) : S cx n B (.code c :: k) Q fr σ :=
  fun r a w hi hf hd hx => h r a w hi (hf.weak hw) hd hx

theorem S_ops_weak {all : Array Oper} {l : List Oper} {K : List Nat} {fr' : Fr} (hw : Weak fr fr') (h : S cx n B (.ops all l K :: k) Q fr' σ) : S cx n B (.ops all l K :: k) Q fr σ :=
  fun r a w hi hf hd hx => h r a w hi (hf.weak hw) hd hx

/-- A loop: what holds at its head, with a measure. -/
theorem S_loop {c : Code} (I : Nat → Fr → Heap → Prop) (m : Nat) (h0 : I m fr σ)
    (hb : ∀ m fr σ, I m fr σ → S cx n B (.code c :: .inv (fun fr' σ' => ∃ m' fr'', m' < m ∧ I m' fr'' σ' ∧ Weak fr' fr'') :: k) Q fr σ) : S cx n B (.code (.loop c) :: k) Q fr σ := by
  intro r a w hi hf hd hx b kk cs
  have key : ∀ m (fr : Fr) (σ : Heap) (r : Rl) (a : Act) (w : World), I m fr σ → Inv cx r σ w → FRel r w n fr a → Dfs B a → Ext B.r B.σ B.w r σ w →
      ∃ e a' w', Lift cx n B (after cx n B k Q) e a' w' ∧ Arrives cx.P (lone (b.at a (.code c :: .inLoop c :: kk)) cs w) b kk cs e a' w' := by
    intro m
    induction m using Nat.strongRecOn with
    | _ m ih =>
      intro fr σ r a w hI hi hf hd hx
      obtain ⟨e, a₁, w₁, ⟨ae, fr', σ', r', hq, he, hi', hf', hd', hx'⟩, harr⟩ := hb m fr σ hI r a w hi hf hd hx b (.inLoop c :: kk) cs
      cases e <;> cases ae <;> first | exact he.elim | skip
      · obtain ⟨m', fr'', hlt, hI', hw⟩ := hq
        obtain ⟨e₂, a₂, w₂, hq₂, harr₂⟩ := ih m' hlt fr'' σ' r' a₁ w₁ hI' hi' (hf'.weak hw) hd' hx'
        exact ⟨e₂, a₂, w₂, hq₂, .of_steps (Steps.trans harr (.one step_inLoop)) harr₂⟩
      · exact ⟨_, a₁, w₁, Lift.mk hq he hi' hf' hd' hx', .pass (x := .inLoop c) rfl (fun _ _ => .inl (by simp)) harr⟩
      · exact ⟨_, a₁, w₁, Lift.mk hq he hi' hf' hd' hx', .pass (x := .inLoop c) rfl (fun _ _ => .inl (by simp)) harr⟩
      · exact ⟨_, a₁, w₁, Lift.mk hq he hi' hf' hd' hx', .pass (x := .inLoop c) rfl (fun _ _ => .inl (by simp)) harr⟩
      · exact ⟨_, a₁, w₁, Lift.mk hq he hi' hf' hd' hx', .pass (x := .inLoop c) rfl (fun _ _ => .inl (by simp)) harr⟩
  obtain ⟨e, a', w', hq, harr⟩ := key m fr σ r a w h0 hi hf hd hx
  exact ⟨e, a', w', hq, .of_steps (.one step_loop) harr⟩

end
end Go.Ab
