/-
  Regions whose order is open: operations that leave the heap alone may come in any order that their edges allow; the others stand behind them.
-/
import Derived.Test.YtjpmngjoohoddaaAbS
import Derived.Orders
set_option linter.unusedVariables false
set_option linter.unusedSimpArgs false
namespace Go.Ab
open Go

theorem blt_lt {a b : Nat} (h : Nat.blt a b = true) : a < b := by simpa [Nat.blt_eq] using h
theorem lt_blt {a b : Nat} (h : a < b) : Nat.blt a b = true := by simpa [Nat.blt_eq] using h

/-- A direct edge: 'j' waits for 'i'. -/
def edge (ops : List Oper) (j i : Nat) : Bool :=
  match ops[j]? with
  | some o => o.after.toList.any fun e => match e.ground with
    | .textOnly _ => false
    | .gcOnly _ => false
    | _ => Nat.beq e.on i
  | none => false

def anyB : List Bool → Bool
  | [] => false
  | b :: r => match b with | true => true | false => anyB r
def allB : List Bool → Bool
  | [] => true
  | b :: r => match b with | true => allB r | false => false

theorem anyB_mem : ∀ {l : List Bool}, anyB l = true → true ∈ l
  | [], h => by cases h
  | true :: r, _ => List.mem_cons_self ..
  | false :: r, h => List.mem_cons_of_mem _ (anyB_mem h)
theorem allB_mem : ∀ {l : List Bool}, allB l = true → ∀ b ∈ l, b = true
  | [], h, b, hb => by cases hb
  | true :: r, h, b, hb => by
    rcases List.mem_cons.1 hb with rfl | hb
    · rfl
    · exact allB_mem (l := r) h b hb
  | false :: r, h, b, hb => by cases h

def dstOf (ops : List Oper) (i : Nat) : Option Nat := (ops[i]?).bind (·.dst)

def eqDst : Option Nat → Nat → Bool
  | some d, t => Nat.beq d t
  | none, _ => false

theorem eqDst_iff {o : Option Nat} {t : Nat} : eqDst o t = true ↔ o = some t := by
  cases o with
  | none => simp [eqDst]
  | some d => simp only [eqDst, Option.some.injEq]; exact ⟨Nat.eq_of_beq_eq_true, fun h => by subst h; exact Nat.beq_refl d⟩

/-- The slots that an operation looks at. -/
def slotsOf (ops : List Oper) (o : Oper) : List Nat :=
  (o.op.operands.toList.filterMap fun x => match x with | .tmp t => some t | _ => none) ++
  (match o.guard with
   | some (g, _) => match dstOf ops g with | some d => [d] | none => []
   | none => [])

/-- Among the first 'm': where 'j' reads slot 't', whoever writes it comes before by an edge, or behind by one. -/
def readOk (ops : List Oper) (m j t : Nat) : Bool :=
  allB ((List.range m).map fun i => match eqDst (dstOf ops i) t with
    | false => true
    | true => match Nat.blt i j with
      | true => edge ops j i
      | false => match Nat.beq i j with
        | true => true
        | false => edge ops i j)

def drawOk (ops : List Oper) (m : Nat) : Bool :=
  allB ((List.range m).map fun j => match ops[j]? with
    | some o =>
      match allB ((slotsOf ops o).map fun t => readOk ops m j t) with
      | true => match o.dst with
        | some d => allB ((List.range m).map fun i => match eqDst (dstOf ops i) d with | true => Nat.beq i j | false => true)
        | none => true
      | false => false
    | none => false) &&
  allB ((List.range ops.length).map fun j => match Nat.blt m j with
    | true => edge ops j (j - 1)
    | false => true) &&
  allB ((List.range ops.length).map fun j => match ops[j]? with
    | some o => allB (o.after.toList.map fun e => match e.ground with
      | .textOnly _ => true
      | .gcOnly _ => true
      | _ => Nat.blt e.on j)
    | none => true) &&
  (match Nat.blt m ops.length with
   | true => allB ((List.range m).map fun i => anyB ((List.range (m + 1)).map fun k => match Nat.blt i k with | true => edge ops k i | false => false))
   | false => true)

def Listed (listed : Array Bool) (i : Nat) : Prop := listed.getD i false = true

theorem edge_iff {ops : Array Oper} {j i : Nat} : edge ops.toList j i = true ↔ ∃ o, ops[j]? = some o ∧ ∃ e ∈ o.after, Region.binds .any e = true ∧ e.on = i := by
  unfold edge
  rw [Array.getElem?_toList]
  cases ops[j]? with
  | none => simp
  | some o =>
    simp only [Option.some.injEq, exists_eq_left', List.any_eq_true, Array.mem_toList_iff]
    constructor
    · rintro ⟨e, he, hb⟩
      refine ⟨e, he, ?_, ?_⟩
      · unfold Region.binds; cases hg : e.ground <;> simp [hg] at hb ⊢
      · cases hg : e.ground <;> simp [hg] at hb <;> omega
    · rintro ⟨e, he, hb, rfl⟩
      refine ⟨e, he, ?_⟩
      unfold Region.binds at hb
      cases hg : e.ground <;> simp [hg] at hb ⊢

def ovl : List Oper → List AV → Fr → Fr
  | o :: r, v :: vs, fr => ovl r vs (setA o.dst v fr)
  | _, _, fr => fr

theorem setA_get (d : Option Nat) (v : AV) (fr : Fr) (t : Nat) : (setA d v fr).get t = if d = some t then v else fr.get t := by
  cases d with
  | none => simp [setA]
  | some d => simp only [setA, Fr.get_cons, Option.some.injEq]

theorem ovl_get : ∀ (l : List Oper) (vs : List AV) (fr : Fr) (t : Nat), l.length = vs.length →
    (∃ (i : Nat) (o : Oper) (v : AV), l[i]? = some o ∧ o.dst = some t ∧ vs[i]? = some v ∧ (ovl l vs fr).get t = v) ∨ ((∀ (i : Nat) (o : Oper), l[i]? = some o → o.dst ≠ some t) ∧ (ovl l vs fr).get t = fr.get t)
  | [], [], fr, t, _ => .inr ⟨fun i o h => by simp at h, rfl⟩
  | [], v :: vs, fr, t, h => by simp at h
  | o :: r, [], fr, t, h => by simp at h
  | o :: r, v :: vs, fr, t, h => by
    rcases ovl_get r vs (setA o.dst v fr) t (by simpa using h) with ⟨i, o', v', h1, h2, h3, h4⟩ | ⟨h1, h2⟩
    · exact .inl ⟨i + 1, o', v', by simpa using h1, h2, by simpa using h3, h4⟩
    · rw [setA_get] at h2
      by_cases hd : o.dst = some t
      · rw [if_pos hd] at h2
        exact .inl ⟨0, o, v, rfl, hd, rfl, h2⟩
      · rw [if_neg hd] at h2
        refine .inr ⟨fun i o' hi => ?_, h2⟩
        cases i with
        | zero => simp at hi; subst hi; exact hd
        | succ i => exact h1 i o' (by simpa using hi)

/-- The temporaries, when these have come. -/
structure FL (r : Rl) (w : World) (n : Nat) (fr : Fr) (ops : List Oper) (m : Nat) (vals : List AV) (listed : Array Bool) (a : Act) : Prop where
  size : a.tmps.size = n
  done : ∀ j d v, j < m → Listed listed j → dstOf ops j = some d → vals[j]? = some v → VRel r w (a.tmps.getD d undef) v
  rest : ∀ t, (∀ j, j < m → Listed listed j → dstOf ops j ≠ some t) → VRel r w (a.tmps.getD t undef) (fr.get t)
  defs : ∀ vs, fr.get n = .mark vs → DRel r w a.defers vs

/-- One operation of those whose order is open. -/
def StepD (cx : Cx) (n : Nat) (all : Array Oper) (σ : Heap) (K : List Nat) (fr : Fr) (o : Oper) (v : AV) : Prop :=
  dstOk n o.dst = true ∧ ((guardA all o K fr = some false ∧ v = .tup []) ∨ (guardA all o K fr = some true ∧ ∀ r a w, Inv cx r σ w → FRel r w n fr a → ∀ Q, o.wp cx.P a w (fun a' w' => ∃ r' v', a' = a.put o.dst v' ∧ VRel r' w' v' v ∧ Inv cx r' σ w' ∧ Ext r σ w r' σ w') Q))

def restr (ops : List Oper) (o : Oper) (fr : Fr) : Fr := (slotsOf ops o).map fun t => (t, fr.get t)

theorem restr_get (l : List Nat) (fr : Fr) (t : Nat) : Fr.get (l.map fun t => (t, fr.get t)) t = .top ∨ (t ∈ l ∧ Fr.get (l.map fun t => (t, fr.get t)) t = fr.get t) := by
  induction l with
  | nil => exact .inl rfl
  | cons x r ih =>
    simp only [List.map_cons, Fr.get_cons]
    by_cases hx : x = t
    · subst hx; rw [if_pos rfl]; exact .inr ⟨List.mem_cons_self .., rfl⟩
    · rw [if_neg hx]
      rcases ih with h | ⟨h1, h2⟩
      · exact .inl h
      · exact .inr ⟨List.mem_cons_of_mem _ h1, h2⟩

theorem wpOp_list {P : Program} {ops : Array Oper} {Q : Exit → Act → World → Prop} {q : Nat} {o : Oper} {rest : List Oper} {a : Act} {w : World} (ho : ops[q]? = some o) (h : wpList P ops Q (o :: rest) a w) : wpOp P ops Q q (wpList P ops Q rest) a w := by
  unfold wpOp
  simp only [ho]
  unfold wpList at h
  exact h

theorem listed_lt {listed : Array Bool} {i : Nat} (h : Listed listed i) : i < listed.size := by
  rcases Nat.lt_or_ge i listed.size with h' | h'
  · exact h'
  · unfold Listed at h; rw [Array.getD_eq_getD_getElem?, Array.getElem?_eq_none h'] at h; cases h

theorem listed_true {listed : Array Bool} {i : Nat} (h : i < listed.size) : listed.getD i true = listed.getD i false := by
  simp [Array.getD_eq_getD_getElem?, h]

theorem listed_set {listed : Array Bool} {i j : Nat} (hi : i < listed.size) : Listed (listed.setIfInBounds i true) j ↔ j = i ∨ Listed listed j := by
  unfold Listed
  by_cases h : i = j
  · subst h; simp [hi]
  · rw [getD_set_ne false h]
    constructor
    · exact fun h => .inr h
    · rintro (h' | h')
      · exact absurd h'.symm h
      · exact h'

/-- What stands behind comes in the order of the text. -/
theorem wpAny_tail {P : Program} {ops : Array Oper} {Q : Exit → Act → World → Prop} {m : Nat} (hch : ∀ j, m < j → j < ops.size → edge ops.toList j (j - 1) = true) (hlo : ∀ j i, edge ops.toList j i = true → i < j) :
    ∀ (f q : Nat) (listed : Array Bool) (a : Act) (w : World), f + q = ops.size → m ≤ q → listed.size = ops.size → (∀ i, i < ops.size → (Listed listed i ↔ i < q)) → wpList P ops Q (ops.toList.drop q) a w → wpAny P .any ops Q f listed a w
  | 0, q, listed, a, w, hf, hm, hs, hl, h => by
    refine ⟨?_, ?_⟩
    · apply List.eq_nil_iff_forall_not_mem.2
      intro j hj
      obtain ⟨h0, o, ho, _⟩ := mem_ready.1 hj
      have hjlt := (Array.getElem?_eq_some_iff.1 ho).1
      rw [listed_true (by omega)] at h0
      have := (hl j hjlt).2 (by omega)
      rw [this] at h0; cases h0
    · rw [List.drop_of_length_le (by simp; omega)] at h
      exact h
  | f + 1, q, listed, a, w, hf, hm, hs, hl, h => by
    have hq : q < ops.size := by omega
    have hd : ops.toList.drop q = ops[q] :: ops.toList.drop (q + 1) := by rw [List.drop_eq_getElem_cons (by simpa using hq)]; simp
    rw [hd] at h
    have hqr : q ∈ Region.ready .any ops listed := by
      refine mem_ready.2 ⟨?_, ops[q], Array.getElem?_eq_getElem hq, fun e he hb => ?_⟩
      · rw [listed_true (by omega)]
        cases hx : listed.getD q false with
        | false => rfl
        | true => have := (hl q hq).1 hx; omega
      · have h1 : e.on < q := hlo q e.on (edge_iff.2 ⟨ops[q], Array.getElem?_eq_getElem hq, e, he, hb, rfl⟩)
        exact (hl e.on (by omega)).2 h1
    refine ⟨fun h0 => absurd (h0 ▸ hqr) (by simp), fun i hi => ?_⟩
    obtain ⟨h0, o, ho, hall⟩ := mem_ready.1 hi
    have hilt := (Array.getElem?_eq_some_iff.1 ho).1
    rw [listed_true (by omega)] at h0
    have hge : q ≤ i := by
      rcases Nat.lt_or_ge i q with h' | h'
      · have := (hl i hilt).2 h'; rw [this] at h0; cases h0
      · exact h'
    have hiq : i = q := by
      rcases Nat.eq_or_lt_of_le hge with h' | h'
      · exact h'.symm
      · obtain ⟨o', ho', e, he, hb, hon⟩ := edge_iff.1 (hch i (by omega) hilt)
        rw [ho] at ho'; cases ho'
        have := hall e he hb
        rw [hon] at this
        have := (hl (i - 1) (by omega)).1 this
        omega
    subst hiq
    refine wpOp_mono (fun a' w' h' => ?_) (wpOp_list (Array.getElem?_eq_getElem hilt) h)
    refine wpAny_tail hch hlo f (i + 1) _ a' w' (by omega) (by omega) (by simpa using hs) (fun k hk => ?_) h'
    rw [listed_set (by omega), hl k hk]; omega

def Down (ops : List Oper) (listed : Array Bool) : Prop := ∀ j i, Listed listed j → edge ops j i = true → Listed listed i

def unl (listed : Array Bool) : Nat := listed.toList.countP fun b => !b

theorem unl_set {listed : Array Bool} {i : Nat} (hi : i < listed.size) (h : listed.getD i false = false) : unl (listed.setIfInBounds i true) + 1 = unl listed := by
  unfold unl
  have hb : listed.toList[i]'(by simpa using hi) = false := by
    simpa [Array.getD_eq_getD_getElem?, hi] using h
  rw [Array.toList_setIfInBounds, List.countP_set (by simpa using hi)]
  have hpos : 0 < listed.toList.countP fun b => !b := List.countP_pos_iff.2 ⟨false, hb ▸ List.getElem_mem _, rfl⟩
  simp only [hb, Bool.not_false, if_true, Bool.not_true, Bool.false_eq_true, if_false]
  omega

theorem exists_least {p : Nat → Prop} : ∀ (b : Nat), (∃ j, j < b ∧ p j) → ∃ j, j < b ∧ p j ∧ ∀ i, i < j → ¬ p i
  | 0, ⟨j, h, _⟩ => absurd h (by omega)
  | b + 1, h => by
    by_cases hb : ∃ j, j < b ∧ p j
    · obtain ⟨j, h1, h2, h3⟩ := exists_least b hb
      exact ⟨j, by omega, h2, h3⟩
    · obtain ⟨j, h1, h2⟩ := h
      have : j = b := by
        rcases Nat.lt_or_ge j b with h' | h'
        · exact absurd ⟨j, h', h2⟩ hb
        · omega
      subst this
      exact ⟨j, h1, h2, fun i hi hp => hb ⟨i, hi, hp⟩⟩

section
variable {cx : Cx} {n : Nat} {B : Bs} {k : List AI} {Q : Post} {fr : Fr} {σ : Heap}

theorem wpAny_front {ops : Array Oper} {m : Nat} {vals : List AV} {K : List Nat} {Q' : Exit → Act → World → Prop} (hmN : m ≤ ops.size) (hlen : vals.length = m)
    (hread : ∀ j o t, j < m → ops.toList[j]? = some o → t ∈ slotsOf ops.toList o → readOk ops.toList m j t = true)
    (huniq : ∀ i j d, i < m → j < m → dstOf ops.toList i = some d → dstOf ops.toList j = some d → i = j)
    (hch : ∀ j, m < j → j < ops.size → edge ops.toList j (j - 1) = true) (hlo : ∀ j i, edge ops.toList j i = true → i < j)
    (hcl : m < ops.size → ∀ i, i < m → ∃ k, i < k ∧ k ≤ m ∧ edge ops.toList k i = true)
    (hstep : ∀ (j : Nat) o v, j < m → ops.toList[j]? = some o → vals[j]? = some v → StepD cx n ops σ K (restr ops.toList o (ovl (ops.toList.take j) (vals.take j) fr)) o v)
    (hend : ∀ r a w, Inv cx r σ w → FRel r w n (ovl (ops.toList.take m) vals fr) a → Dfs B a → Ext B.r B.σ B.w r σ w → wpList cx.P ops Q' (ops.toList.drop m) a w) :
    ∀ (f : Nat) (listed : Array Bool) (r : Rl) (a : Act) (w : World), listed.size = ops.size → unl listed = f → Down ops.toList listed → (∀ j, m ≤ j → ¬ Listed listed j) →
      FL r w n fr ops.toList m vals listed a → Inv cx r σ w → Dfs B a → Ext B.r B.σ B.w r σ w → wpAny cx.P .any ops Q' f listed a w := by
  have ovlN : ∀ i, i ≤ m → ∀ vs, (ovl (ops.toList.take i) (vals.take i) fr).get n = .mark vs → fr.get n = .mark vs := by
    intro i him vs hm
    rcases ovl_get (ops.toList.take i) (vals.take i) fr n (by simp [hlen]; omega) with ⟨i', o', v', k1, k2, k3, k4⟩ | ⟨k1, k2⟩
    · exfalso
      have hi'i : i' < i := by
        rcases Nat.lt_or_ge i' i with h' | h'
        · exact h'
        · rw [List.getElem?_eq_none (by simp; omega)] at k1; cases k1
      rw [List.getElem?_take_of_lt hi'i] at k1 k3
      have hds := (hstep i' o' v' (by omega) k1 k3).1
      rw [k2] at hds
      have := blt_lt hds
      omega
    · rw [← k2]; exact hm
  have fin : ∀ (f : Nat) (listed : Array Bool) (r : Rl) (a : Act) (w : World), listed.size = ops.size → unl listed = f → (∀ j, j < m → Listed listed j) → (∀ j, m ≤ j → ¬ Listed listed j) →
      FL r w n fr ops.toList m vals listed a → Inv cx r σ w → Dfs B a → Ext B.r B.σ B.w r σ w → wpAny cx.P .any ops Q' f listed a w := by
    intro f listed r a w hs hf hall hno hfl hi hd hx
    have hcount : unl listed + m = ops.size := by
      have hl : listed.toList = List.replicate m true ++ List.replicate (ops.size - m) false := by
        apply List.ext_getElem
        · simp; omega
        · intro j h1 h2
          have hj : j < listed.size := by simpa using h1
          have h3 : listed.getD j false = listed.toList[j] := by simp [Array.getD_eq_getD_getElem?, hj]
          by_cases hjm : j < m
          · rw [List.getElem_append_left (by simpa using hjm), List.getElem_replicate, ← h3]; exact hall j hjm
          · rw [List.getElem_append_right (by simp; omega), List.getElem_replicate, ← h3]
            have := hno j (by omega)
            unfold Listed at this
            simpa using this
      unfold unl
      rw [hl, List.countP_append, List.countP_replicate, List.countP_replicate]
      simp; omega
    refine wpAny_tail hch hlo f m listed a w (by omega) (Nat.le_refl m) hs (fun i hi' => ⟨fun h => ?_, fun h => hall i h⟩) (hend r a w hi ⟨hfl.size, fun t => ?_, fun vs hm => ?_⟩ hd hx)
    case refine_3 =>
      refine hfl.defs vs (ovlN m (Nat.le_refl _) vs ?_)
      rw [show vals.take m = vals from List.take_of_length_le (by omega)]
      exact hm
    · rcases Nat.lt_or_ge i m with h' | h'
      · exact h'
      · exact absurd h (hno i h')
    · rcases ovl_get (ops.toList.take m) vals fr t (by simp [hlen]; omega) with ⟨i, o, v, h1, h2, h3, h4⟩ | ⟨h1, h2⟩
      · rw [h4]
        have him : i < m := by
          rcases Nat.lt_or_ge i m with h' | h'
          · exact h'
          · rw [List.getElem?_eq_none (by simp; omega)] at h1; cases h1
        rw [List.getElem?_take_of_lt him] at h1
        exact hfl.done i t v him (hall i him) (by simp [dstOf, h1, h2]) h3
      · rw [h2]
        refine hfl.rest t (fun j hj _ hdj => ?_)
        obtain ⟨o, ho, hod⟩ := Option.bind_eq_some_iff.1 hdj
        exact h1 j o (by rw [List.getElem?_take_of_lt hj]; exact ho) hod
  intro f
  induction f with
  | zero =>
    intro listed r a w hs hf hdn hno hfl hi hd hx
    refine fin 0 listed r a w hs hf (fun j hj => ?_) hno hfl hi hd hx
    rcases hb : listed.getD j false with _ | _
    · have := unl_set (by omega) hb
      omega
    · exact hb
  | succ f ih =>
    intro listed r a w hs hf hdn hno hfl hi hd hx
    by_cases hall : ∀ j, j < m → Listed listed j
    · exact fin (f + 1) listed r a w hs hf hall hno hfl hi hd hx
    have hex : ∃ j, j < m ∧ ¬ Listed listed j := by
      apply Classical.byContradiction
      intro h
      exact hall (fun j hj => Classical.byContradiction fun hl => h ⟨j, hj, hl⟩)
    refine ⟨fun h0 => ?_, fun i hir => ?_⟩
    · obtain ⟨j, h1, h2, h3⟩ := exists_least m hex
      have hjr : j ∈ Region.ready .any ops listed := by
        refine mem_ready.2 ⟨?_, ops[j]'(by omega), Array.getElem?_eq_getElem _, fun e he hb => ?_⟩
        · rw [listed_true (by omega)]; simpa [Listed] using h2
        · have h4 : e.on < j := hlo j e.on (edge_iff.2 ⟨ops[j]'(by omega), Array.getElem?_eq_getElem _, e, he, hb, rfl⟩)
          exact Classical.byContradiction fun h5 => h3 e.on h4 h5
      rw [h0] at hjr; cases hjr
    · obtain ⟨h0, o, ho, hedges⟩ := mem_ready.1 hir
      have hilt := (Array.getElem?_eq_some_iff.1 ho).1
      rw [listed_true (by omega)] at h0
      have hed : ∀ j, edge ops.toList i j = true → Listed listed j := by
        intro j hj
        obtain ⟨o', ho', e, he, hb, hon⟩ := edge_iff.1 hj
        rw [ho] at ho'; cases ho'
        rw [← hon]; exact hedges e he hb
      have him : i < m := by
        rcases Nat.lt_or_ge i m with h' | h'
        · exact h'
        · exfalso
          rcases Nat.eq_or_lt_of_le h' with h'' | h''
          · subst h''
            refine hall (fun j hj => ?_)
            have key : ∀ d j, d + j = m → j < m → Listed listed j := by
              intro d
              induction d using Nat.strongRecOn with
              | _ d ihd =>
                intro j hdj hj
                obtain ⟨k, h1, h2, h3⟩ := hcl hilt j hj
                rcases Nat.eq_or_lt_of_le h2 with h4 | h4
                · subst h4; exact hed j h3
                · exact hdn k j (ihd (m - k) (by omega) k (by omega) h4) h3
            exact key (m - j) j (by omega) hj
          · exact hno (i - 1) (by omega) (hed _ (hch i h'' hilt))
      have hol : ops.toList[i]? = some o := by simpa using ho
      obtain ⟨v, hv⟩ : ∃ v, vals[i]? = some v := ⟨vals[i]'(by omega), List.getElem?_eq_getElem _⟩
      obtain ⟨hdst, hst⟩ := hstep i o v him hol hv
      have hnl : ¬ Listed listed i := by simp [Listed, h0]
      have hfr : FRel r w n (restr ops.toList o (ovl (ops.toList.take i) (vals.take i) fr)) a := by
        refine ⟨hfl.size, fun t => ?_, fun vs hm => ?_⟩
        case refine_2 =>
          unfold restr at hm
          rcases restr_get (slotsOf ops.toList o) (ovl (ops.toList.take i) (vals.take i) fr) n with h | ⟨h1, h2⟩
          · rw [h] at hm; cases hm
          · rw [h2] at hm
            exact hfl.defs vs (ovlN i (by omega) vs hm)
        unfold restr
        rcases restr_get (slotsOf ops.toList o) (ovl (ops.toList.take i) (vals.take i) fr) t with h | ⟨h1, h2⟩
        · rw [h]; exact .top
        · rw [h2]
          have hro := hread i o t him hol h1
          have hrd : ∀ i', i' < m → dstOf ops.toList i' = some t → (i' < i → edge ops.toList i i' = true) ∧ (i < i' → edge ops.toList i' i = true) := by
            intro i' hi' hd'
            have := allB_mem hro _ (List.mem_map.2 ⟨i', List.mem_range.2 hi', rfl⟩)
            rw [eqDst_iff.2 hd'] at this
            simp only at this
            constructor
            · intro hlt
              rw [lt_blt hlt] at this
              exact this
            · intro hlt
              rw [show Nat.blt i' i = false by cases hbb : Nat.blt i' i with | false => rfl | true => (have := blt_lt hbb; omega), show Nat.beq i' i = false by cases hbb : Nat.beq i' i with | false => rfl | true => (have := Nat.eq_of_beq_eq_true hbb; omega)] at this
              exact this
          rcases ovl_get (ops.toList.take i) (vals.take i) fr t (by simp [hlen]; omega) with ⟨i', o', v', k1, k2, k3, k4⟩ | ⟨k1, k2⟩
          · rw [k4]
            have hi'i : i' < i := by
              rcases Nat.lt_or_ge i' i with h' | h'
              · exact h'
              · rw [List.getElem?_eq_none (by simp; omega)] at k1; cases k1
            rw [List.getElem?_take_of_lt hi'i] at k1 k3
            have hd' : dstOf ops.toList i' = some t := by simp only [dstOf, k1, Option.bind_some, k2]
            exact hfl.done i' t v' (by omega) (hed _ ((hrd i' (by omega) hd').1 hi'i)) hd' k3
          · rw [k2]
            refine hfl.rest t (fun j hj hlj hdj => ?_)
            rcases Nat.lt_trichotomy j i with h' | h' | h'
            · obtain ⟨oj, hoj, hod⟩ := Option.bind_eq_some_iff.1 hdj
              exact k1 j oj (by rw [List.getElem?_take_of_lt h']; exact hoj) hod
            · subst h'; exact hnl hlj
            · exact hnl (hdn j i hlj ((hrd j hj hdj).2 h'))
      have next : ∀ (r' : Rl) (w' : World) (v' : Value), VRel r' w' v' v → Inv cx r' σ w' → Ext r σ w r' σ w' → wpAny cx.P .any ops Q' f (listed.setIfInBounds i true) (a.put o.dst v') w' := by
        intro r' w' v' hv' hi' hx'
        have hun := unl_set (by omega) h0
        refine ih _ r' _ w' (by simpa using hs) (by omega) (fun j l hj he => ?_) (fun j hj hl => ?_) ⟨?_, fun j d u hj hl hdj hu => ?_, fun t ht => ?_, fun vs hm => by rw [Act.put_defers]; exact (hfl.defs vs hm).mono (hx'.grow hi)⟩ hi' (hd.put _ _) (hx.trans hx')
        · rw [listed_set (by omega)] at hj ⊢
          rcases hj with rfl | hj
          · exact .inr (hed l he)
          · exact .inr (hdn j l hj he)
        · rw [listed_set (by omega)] at hl
          rcases hl with rfl | hl
          · omega
          · exact hno j hj hl
        · cases hod : o.dst <;> simp [Act.put, hfl.size]
        · have hg := hx'.grow hi
          rw [listed_set (by omega)] at hl
          by_cases hji : j = i
          · subst hji
            rw [hv] at hu; cases hu
            have hod : o.dst = some d := by simpa [dstOf, hol] using hdj
            rw [hod]
            rw [hod] at hdst
            simp only [Act.put]
            rw [getD_setIfInBounds (by rw [hfl.size]; exact blt_lt hdst), if_pos rfl]
            exact hv'
          · have hl' := hl.resolve_left hji
            have hold := (hfl.done j d u hj hl' hdj hu).mono hg
            cases hod : o.dst with
            | none => exact hold
            | some d' =>
              have hne : d' ≠ d := fun e => hji (huniq j i d hj him hdj (by subst e; simp [dstOf, hol, hod]))
              rw [hod] at hdst
              simp only [Act.put]
              rw [getD_setIfInBounds (by rw [hfl.size]; exact blt_lt hdst), if_neg hne]
              exact hold
        · have hg := hx'.grow hi
          have hold := (hfl.rest t (fun j hj hl => ht j hj ((listed_set (by omega)).2 (.inr hl)))).mono hg
          have hti := ht i him ((listed_set (by omega)).2 (.inl rfl))
          cases hod : o.dst with
          | none => exact hold
          | some d' =>
            have hne : d' ≠ t := fun e => hti (by subst e; simp [dstOf, hol, hod])
            rw [hod] at hdst
            simp only [Act.put]
            rw [getD_setIfInBounds (by rw [hfl.size]; exact blt_lt hdst), if_neg hne]
            exact hold
      unfold wpOp
      simp only [ho]
      rcases hst with ⟨hg, rfl⟩ | ⟨hg, hgo⟩
      · rw [guardA_wanted (cx := cx) hfr hg]
        simp only [Bool.false_eq_true, if_false]
        exact next r w undef (.tup rfl (fun i h => absurd h (by simp))) hi (Ext.refl _ _ _)
      · rw [guardA_wanted (cx := cx) hfr hg]
        simp only [if_true]
        refine .inl (Oper.wp_mono (fun a' w' h => ?_) (hgo r a w hi hfr Q'))
        obtain ⟨r', v', rfl, h2, h3, h4⟩ := h
        exact next r' w' v' h2 h3 h4

theorem drawOk_spec {ops : Array Oper} {m : Nat} (h : drawOk ops.toList m = true) :
    (∀ j o t, j < m → ops.toList[j]? = some o → t ∈ slotsOf ops.toList o → readOk ops.toList m j t = true) ∧
    (∀ i j d, i < m → j < m → dstOf ops.toList i = some d → dstOf ops.toList j = some d → i = j) ∧
    (∀ j, m < j → j < ops.size → edge ops.toList j (j - 1) = true) ∧ (∀ j i, edge ops.toList j i = true → i < j) ∧
    (m < ops.size → ∀ i, i < m → ∃ k, i < k ∧ k ≤ m ∧ edge ops.toList k i = true) := by
  unfold drawOk at h
  simp only [Bool.and_eq_true] at h
  obtain ⟨⟨⟨h1, h2⟩, h3⟩, h4⟩ := h
  refine ⟨fun j o t hj ho ht => ?_, fun i j d hi hj hdi hdj => ?_, fun j hj hjs => ?_, fun j i he => ?_, fun hm i hi => ?_⟩
  · have := allB_mem h1 _ (List.mem_map.2 ⟨j, List.mem_range.2 hj, rfl⟩)
    rw [ho] at this
    simp only at this
    split at this
    · rename_i hb
      exact allB_mem hb _ (List.mem_map.2 ⟨t, ht, rfl⟩)
    · cases this
  · have := allB_mem h1 _ (List.mem_map.2 ⟨j, List.mem_range.2 hj, rfl⟩)
    obtain ⟨o, ho, hod⟩ := Option.bind_eq_some_iff.1 hdj
    rw [ho] at this
    simp only at this
    split at this
    · rw [hod] at this
      simp only at this
      have := allB_mem this _ (List.mem_map.2 ⟨i, List.mem_range.2 hi, rfl⟩)
      rw [eqDst_iff.2 hdi] at this
      exact Nat.eq_of_beq_eq_true this
    · cases this
  · have := allB_mem h2 _ (List.mem_map.2 ⟨j, List.mem_range.2 (by simpa using hjs), rfl⟩)
    rw [lt_blt hj] at this
    exact this
  · obtain ⟨o, ho, e, hee, hb, rfl⟩ := edge_iff.1 he
    have hj := (Array.getElem?_eq_some_iff.1 ho).1
    have := allB_mem h3 _ (List.mem_map.2 ⟨j, List.mem_range.2 (by simpa using hj), rfl⟩)
    rw [Array.getElem?_toList, ho] at this
    have := allB_mem this _ (List.mem_map.2 ⟨e, by simpa using hee, rfl⟩)
    unfold Region.binds at hb
    cases hg : e.ground <;> simp [hg] at hb this <;> omega
  · rw [lt_blt (by simpa using hm)] at h4
    have := allB_mem h4 _ (List.mem_map.2 ⟨i, List.mem_range.2 hi, rfl⟩)
    obtain ⟨k, hk, he⟩ := List.mem_map.1 (anyB_mem this)
    have hkm := List.mem_range.1 hk
    split at he
    · rename_i hb
      exact ⟨k, blt_lt hb, by omega, he⟩
    · cases he

/-- A pure call's answer, or what the machine makes of an operation. -/
def oneD (cx : Cx) (K : List Nat) (n : Nat) (all : Array Oper) (σ : Heap) (o : Oper) (fr : Fr) (rs : List AV) : Option (List Prop × AV × List AV) :=
  match dstOk n o.dst with
  | false => none
  | true => match guardA all o K fr with
    | some false => some ([], .tup [], rs)
    | some true => match callA cx fr o.op with
      | some (f, args) => match rs with
        | r :: rs => some ([∃ args', Calc cx f args' r ∧ Frzs σ args args'], r, rs)
        | [] => none
      | none => match o.op with
        | .indexAddr .. => match rs with
          | x :: rs => match idxA cx fr σ o.op x with
            | some (C, v) => some (C, v, rs)
            | none => none
          | [] => none
        | .load _ y => match ev cx fr y with
          | .eptr _ _ _ => match rs with
            | x :: rs => match loadA cx fr σ o.op x with
              | some C => some (C, x, rs)
              | none => none
            | [] => none
          | _ => match aOp cx [] o.dst o.op fr σ with
            | some (C, v, σ') => some ((σ' = σ) :: C, v, rs)
            | none => none
        | _ => match stopOp o.op with
          | true => none
          | false => match aOp cx [] o.dst o.op fr σ with
            | some (C, v, σ') => some ((σ' = σ) :: C, v, rs)
            | none => none
    | none => none

def runD (cx : Cx) (K : List Nat) (n : Nat) (all : Array Oper) (ops : List Oper) (σ : Heap) : List Oper → Fr → List AV → Option (List Prop × List AV × Fr)
  | [], fr, rs => some ([], [], fr)
  | o :: r, fr, rs => match oneD cx K n all σ o (restr ops o fr) rs with
    | some (C, v, rs') => match runD cx K n all ops σ r (setA o.dst v fr) rs' with
      | some (D, vs, fr') => some (C ++ D, v :: vs, fr')
      | none => none
    | none => none

theorem oneD_spec {K : List Nat} {all : Array Oper} {o : Oper} {fr : Fr} {rs rs' : List AV} {C : List Prop} {v : AV} (h : oneD cx K n all σ o fr rs = some (C, v, rs')) (hC : AllP C) : StepD cx n all σ K fr o v := by
  unfold oneD at h
  split at h
  · cases h
  rename_i hd
  refine ⟨hd, ?_⟩
  split at h
  · rename_i hg
    simp only [Option.some.injEq, Prod.mk.injEq] at h
    obtain ⟨rfl, rfl, rfl⟩ := h
    exact .inl ⟨hg, rfl⟩
  · rename_i hg
    refine .inr ⟨hg, fun r a w hi hf Q => ?_⟩
    split at h
    · rename_i f args hc
      split at h
      case h_2 => cases h
      simp only [Option.some.injEq, Prod.mk.injEq] at h
      obtain ⟨rfl, rfl, rfl⟩ := h
      obtain ⟨⟨args', hp, hz⟩, _⟩ := hC
      obtain ⟨vs, h1, h2⟩ := callA_run hi hf hc hp.call.1
      unfold Oper.wp
      rw [h1, Oper.upon_enter]
      have hvs : VRels { S := r.S, I := fun b => r.I b ∨ Live r σ b, ρ := fun _ _ => none } w vs args' := by
        refine ⟨h2.1.trans hz.1, fun i hi' => ?_⟩
        exact (hz.2 i (by rw [hz.1]; exact hi') hi').rel (r' := { S := r.S, I := fun b => r.I b ∨ Live r σ b, ρ := fun _ _ => none }) hi (fun b h => h) (fun b h => Or.inl (hi.SI b h)) (fun _ b h => Or.inl h) (fun b h => ⟨Or.inr h, fun h => by cases h⟩) (h2.2 i (by rw [hz.1]; exact hi'))
      refine (hp.call.2 _ w vs hi.empty hvs).mono fun e w' ⟨out, σ', r1, ⟨ho, hσ'⟩, hor, hi1, hx1⟩ => ?_
      subst ho; subst hσ'
      cases e with
      | returned u =>
        obtain ⟨hi2, hx2⟩ := after_pure hi hi1 hx1
        have hu : VRel r1 w' u _ := hor
        exact ⟨{ S := r1.S, I := fun b => r.I b ∨ r1.S b, ρ := r.ρ }, u, rfl, hu.free hp.free (fun b h => h) (fun b h => Or.inr h) (fun h => by cases h), hi2, hx2⟩
      | panicked chain => exact hor.elim
      | outgrown => exact hor.elim
    · split at h
      · rename_i t s i hop
        split at h
        case h_2 => cases h
        split at h
        case h_2 => cases h
        rename_i x rs0 C' v' hx
        simp only [Option.some.injEq, Prod.mk.injEq] at h
        obtain ⟨rfl, rfl, rfl⟩ := h
        obtain ⟨r', w', v', hrun, hv, hi', hx'⟩ := idxA_run hi hf (o := o) hx hC
        unfold Oper.wp
        rcases hrun with hrun | ⟨hrun, hu⟩
        · rw [hrun]; exact ⟨r', v', rfl, hv, hi', hx'⟩
        · rw [hrun]; subst hu; exact ⟨r', _, rfl, hv, hi', hx'⟩
      · split at h
        · split at h
          case h_2 => cases h
          rename_i x rs0
          split at h
          case h_2 => cases h
          rename_i C' hx
          simp only [Option.some.injEq, Prod.mk.injEq] at h
          obtain ⟨rfl, rfl, rfl⟩ := h
          obtain ⟨r', w', v', hrun, hv, hi', hx'⟩ := loadA_run hi hf (o := o) hx hC
          unfold Oper.wp
          rcases hrun with hrun | ⟨hrun, hu⟩
          · rw [hrun]; exact ⟨r', v', rfl, hv, hi', hx'⟩
          · rw [hrun]; subst hu; exact ⟨r', _, rfl, hv, hi', hx'⟩
        · split at h
          case h_2 => cases h
          rename_i C' v' σ' ha
          simp only [Option.some.injEq, Prod.mk.injEq] at h
          obtain ⟨rfl, rfl, rfl⟩ := h
          obtain ⟨hσ, hC⟩ := hC
          subst hσ
          obtain ⟨r', w', v', hrun, hv, hi', hx'⟩ := aOp_run hi hf ha hC
          unfold Oper.wp
          rcases hrun with hrun | ⟨hrun, hu⟩
          · rw [hrun]; exact ⟨r', v', rfl, hv, hi', hx'⟩
          · rw [hrun]; subst hu; exact ⟨r', _, rfl, hv, hi', hx'⟩
      · split at h
        · cases h
        · split at h
          case h_2 => cases h
          rename_i C' v' σ' ha
          simp only [Option.some.injEq, Prod.mk.injEq] at h
          obtain ⟨rfl, rfl, rfl⟩ := h
          obtain ⟨hσ, hC⟩ := hC
          subst hσ
          obtain ⟨r', w', v', hrun, hv, hi', hx'⟩ := aOp_run hi hf ha hC
          unfold Oper.wp
          rcases hrun with hrun | ⟨hrun, hu⟩
          · rw [hrun]; exact ⟨r', v', rfl, hv, hi', hx'⟩
          · rw [hrun]; subst hu; exact ⟨r', _, rfl, hv, hi', hx'⟩
  · cases h

theorem runD_spec {K : List Nat} {all : Array Oper} {ops : List Oper} : ∀ {l : List Oper} {fr fr' : Fr} {rs vals : List AV} {C : List Prop}, runD cx K n all ops σ l fr rs = some (C, vals, fr') → AllP C →
    vals.length = l.length ∧ fr' = ovl l vals fr ∧ ∀ (j : Nat) (o : Oper) (v : AV), l[j]? = some o → vals[j]? = some v → StepD cx n all σ K (restr ops o (ovl (l.take j) (vals.take j) fr)) o v
  | [], fr, fr', rs, vals, C, h, hC => by
    simp only [runD, Option.some.injEq, Prod.mk.injEq] at h
    obtain ⟨rfl, rfl, rfl⟩ := h
    exact ⟨rfl, rfl, fun j o v h => by simp at h⟩
  | o :: l, fr, fr', rs, vals, C, h, hC => by
    simp only [runD] at h
    split at h
    case h_2 => cases h
    rename_i C1 v rs' h1
    split at h
    case h_2 => cases h
    rename_i D vs fr1 h2
    simp only [Option.some.injEq, Prod.mk.injEq] at h
    obtain ⟨rfl, rfl, rfl⟩ := h
    obtain ⟨hC1, hD⟩ := AllP_append hC
    obtain ⟨k1, k2, k3⟩ := runD_spec h2 hD
    refine ⟨by simp [k1], by rw [k2]; rfl, fun j oj vj hj hvj => ?_⟩
    cases j with
    | zero =>
      simp only [List.getElem?_cons_zero, Option.some.injEq] at hj hvj
      subst hj; subst hvj
      exact oneD_spec h1 hC1
    | succ j =>
      simp only [List.getElem?_cons_succ] at hj hvj
      exact k3 j oj vj hj hvj

theorem S_draw {id : Nat} {ops : Array Oper} {vals : List AV} {C : List Prop} {fr' : Fr} (m : Nat) (K : List Nat) (rs : List AV) (hP : cx.P.follows .mixedOrders = true) (hchk : drawOk ops.toList m = true) (hmN : Nat.ble m ops.size = true)
    (hrun : runD cx K n ops ops.toList σ (ops.toList.take m) fr rs = some (C, vals, fr')) (hC : AllP C)
    (hk : S cx n B (.ops ops (ops.toList.drop m) [] :: k) Q fr' σ) : S cx n B (.code (.region id ops true) :: k) Q fr σ := by
  intro r a w hi hf hd hx
  obtain ⟨c1, c2, c3, c4, c5⟩ := drawOk_spec hchk
  obtain ⟨k1, k2, k3⟩ := runD_spec hrun hC
  have hmN' := Nat.le_of_ble_eq_true hmN
  have hlen : vals.length = m := by rw [k1]; simp; omega
  obtain ⟨hi1, hx1⟩ := hi.heap_eq (w' := { w with drawn := w.drawn + 1 }) rfl rfl rfl rfl
  have hf1 := hf.mono (hx1.grow hi)
  have nl : ∀ {j : Nat}, ¬ Listed (Array.replicate ops.size false) j := by
    intro j hj
    unfold Listed at hj
    rw [Array.getD_eq_getD_getElem?, Array.getElem?_replicate] at hj
    split at hj <;> simp at hj
  refine wp_region_any hP ?_
  refine wpAny_front (cx := cx) (n := n) (B := B) (fr := fr) (σ := σ) (m := m) (vals := vals) (K := K) hmN' hlen c1 c2 c3 c4 c5 (fun j o v hj ho hv => ?_) (fun r a w hi hf hd hx => ?_) ops.size _ r a _ (by simp) ?_ (fun j i hj => ?_) (fun j _ => ?_) ⟨hf1.size, fun j d v _ hj => ?_, fun t _ => hf1.get t, hf1.defs⟩ hi1 hd (hx.trans hx1)
  · have h := k3 j o v (by rw [List.getElem?_take_of_lt hj]; exact ho) hv
    rw [List.take_take, Nat.min_eq_left (by omega)] at h
    exact h
  · rw [k2] at hk
    exact hk r a w hi hf hd hx
  · unfold unl; simp [List.countP_replicate]
  · exact absurd hj nl
  · exact nl
  · exact absurd hj nl

end
end Go.Ab
