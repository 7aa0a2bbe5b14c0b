/-
  Texts of our own, in one file.
-/
import Derived.Test.YtjcjaonfhlfnaaaGreatDoorGrpC
import Derived.Lib.Bytealg
import Derived.Scope
import Derived.KernelRfl
import Derived.Shelf.SlIter.Nil
import Derived.Shelf.SortM.Plain
import Derived.Shelf.SortM.SortNone
import Derived.Sort.Grow
import Derived.Deep.Draws
import Derived.Shelf.SlIter.Sorted
import Derived.StringKeys
import Derived.RangeFuncLeaves
import Derived.RangeFuncGives
import Derived.OwnWalkIn
section
set_option linter.unusedVariables false
set_option linter.unusedSimpArgs false
namespace Go.Ab
open Go
def InL (P : Program) (c : Code) (Q : Exit → Act → World → Prop) (a : Act) (w : World) : Prop :=
  ∀ (b : Frame) (k : List Item) (cs : List Frame), ∃ e a' w', Q e a' w' ∧ Arrives P (lone (b.at a (.inLoop c :: k)) cs w) b k cs e a' w'
theorem inL_from {P : Program} {c : Code} {Q : Exit → Act → World → Prop} {a : Act} {w : World} (h : c.wp P (Exit.then (InL P c Q) Q) a w) (b : Frame) (k : List Item) (cs : List Frame) :
    ∃ e a' w', Q e a' w' ∧ Arrives P (lone (b.at a (.code c :: .inLoop c :: k)) cs w) b k cs e a' w' := by
  obtain ⟨e, a₁, w₁, hq, harr⟩ := h b (.inLoop c :: k) cs
  cases e with
  | normal =>
    obtain ⟨e₂, a₂, w₂, hq₂, harr₂⟩ := hq b k cs
    exact ⟨e₂, a₂, w₂, hq₂, .of_steps harr harr₂⟩
  | exit id => exact ⟨_, a₁, w₁, hq, .pass (x := .inLoop c) rfl (fun _ _ => .inl (by simp)) harr⟩
  | goto l => exact ⟨_, a₁, w₁, hq, .pass (x := .inLoop c) rfl (fun _ _ => .inl (by simp)) harr⟩
  | ret => exact ⟨_, a₁, w₁, hq, .pass (x := .inLoop c) rfl (fun _ _ => .inl (by simp)) harr⟩
  | panic ch => exact ⟨_, a₁, w₁, hq, .pass (x := .inLoop c) rfl (fun _ _ => .inl (by simp)) harr⟩
  | outgrown => exact ⟨_, a₁, w₁, hq, .pass (x := .inLoop c) rfl (fun _ _ => .inl (by simp)) harr⟩
theorem inL_round {P : Program} {c : Code} {Q : Exit → Act → World → Prop} {a : Act} {w : World} (h : c.wp P (Exit.then (InL P c Q) Q) a w) : InL P c Q a w := fun b k cs => by
  obtain ⟨e, a', w', q, r⟩ := inL_from h b k cs
  exact ⟨e, a', w', q, .of_steps (.one step_inLoop) r⟩
theorem loop_in {P : Program} {c : Code} {Q : Exit → Act → World → Prop} {a : Act} {w : World} (h : c.wp P (Exit.then (InL P c Q) Q) a w) : (Code.loop c).wp P Q a w := fun b k cs => by
  obtain ⟨e, a', w', q, r⟩ := inL_from h b k cs
  exact ⟨e, a', w', q, .of_steps (.one step_loop) r⟩
section
variable {cx : Cx} {n : Nat} {B : Bs} {k : List AI} {Q : Post} {fr : Fr} {σ : Heap}
def LP (cx : Cx) (n : Nat) (B : Bs) (c : Code) (Q : Post) : Fr → Heap → Prop := fun fr σ => Here cx n B fr σ (InL cx.P c (Lift cx n B Q))
theorem body_lp {c : Code} (h : S cx n B (.code c :: .inv (LP cx n B c (after cx n B k Q)) :: k) Q fr σ) : Here cx n B fr σ (c.wp cx.P (Exit.then (InL cx.P c (Lift cx n B (after cx n B k Q))) (Lift cx n B (after cx n B k Q)))) := by
  intro r a w hi hf hd hx
  refine wp_mono (h r a w hi hf hd hx) fun e a w hq => ?_
  obtain ⟨ae, fr', σ', r', hq, he, hi', hf', hd', hx'⟩ := hq
  cases e <;> cases ae <;> first | exact he.elim | skip
  · exact hq r' a w hi' hf' hd' hx'
  · exact Lift.mk hq he hi' hf' hd' hx'
  · exact Lift.mk hq he hi' hf' hd' hx'
  · exact Lift.mk hq he hi' hf' hd' hx'
  · exact Lift.mk hq he hi' hf' hd' hx'
theorem S_loopX {c : Code} (h : S cx n B (.code c :: .inv (LP cx n B c (after cx n B k Q)) :: k) Q fr σ) : S cx n B (.code (.loop c) :: k) Q fr σ :=
  fun r a w hi hf hd hx => loop_in (body_lp h r a w hi hf hd hx)
theorem S_lp {c : Code} (h : S cx n B (.code c :: .inv (LP cx n B c (after cx n B k Q)) :: k) Q fr σ) : S cx n B (.inv (LP cx n B c (after cx n B k Q)) :: k) Q fr σ :=
  S_inv (M := LP cx n B c (after cx n B k Q)) fun r a w hi hf hd hx => inL_round (body_lp h r a w hi hf hd hx)
theorem S_stepX {all : Array Oper} {o : Oper} {l : List Oper} {K : List Nat} {v : AV} {σ' : Heap} (h : StepX cx n all σ σ' K fr o v) (hk : S cx n B (.ops all l K :: k) Q (setA o.dst v fr) σ') : S cx n B (.ops all (o :: l) K :: k) Q fr σ := by
  obtain ⟨hd, ⟨hg, rfl, rfl⟩ | ⟨hg, h⟩⟩ := h
  · exact S_op_skip hg hd hk
  · intro r a w hi hf hdf hx
    have hw := guardA_wanted (cx := cx) hf hg
    unfold wpList
    rw [if_pos hw]
    refine .inl ?_
    refine Oper.wp_mono (fun a' w' h' => ?_) (h r a w hi hf _)
    obtain ⟨r', v', rfl, hv, hi', hx'⟩ := h'
    refine hk r' _ w' hi' ((hf.mono (hx'.grow hi)).setA hd hv) (fun hdd => ?_) (hx.trans hx')
    rw [Act.put_defers]; exact hdf hdd
end
inductive XI where
  | code (c : Code)
  | blk (id : Nat)
  | ops (all : Array Oper) (l : List Oper) (K : List Nat)
  | lp (c : Code)
def trX (cx : Cx) (n : Nat) (B : Bs) (Q : Post) : List XI → List AI
  | [] => []
  | .code c :: k => .code c :: trX cx n B Q k
  | .blk i :: k => .blk i :: trX cx n B Q k
  | .ops a l K :: k => .ops a l K :: trX cx n B Q k
  | .lp c :: k => .inv (LP cx n B c (after cx n B (trX cx n B Q k) Q)) :: trX cx n B Q k
def popX (id : Nat) : List XI → Option (List XI)
  | [] => none
  | .blk i :: k => bif Nat.beq i id then some k else popX id k
  | .code _ :: k => popX id k
  | .ops .. :: k => popX id k
  | .lp _ :: k => popX id k
theorem popX_tr {cx : Cx} {n : Nat} {B : Bs} {Q : Post} {id : Nat} : ∀ {k k' : List XI}, popX id k = some k' → popTo id (trX cx n B Q k) = some (trX cx n B Q k')
  | .blk i :: k, k', h => by
    unfold popX at h
    simp only [trX, popTo]
    cases hb : Nat.beq i id with
    | true => rw [hb] at h; cases h; rfl
    | false => rw [hb] at h; exact popX_tr (k := k) h
  | .code c :: k, k', h => popX_tr (k := k) h
  | .ops .. :: k, k', h => popX_tr (k := k) h
  | .lp c :: k, k', h => popX_tr (k := k) h
def isTop : AV → Bool
  | .top => true
  | _ => false
def freeO : Op → Bool
  | .move _ => true
  | .assign _ => true
  | .pick .. => true
  | .nilCheck _ => true
  | .binOp .. => true
  | .unOp .. => true
  | .makeInterface .. => true
  | .makeFunc .. => true
  | .fieldAddr .. => true
  | .field .. => true
  | .index .. => true
  | .typeAssert .. => true
  | .extract .. => true
  | .build .. => true
  | .indexAddr .. => true
  | _ => false
structure Ex (cx : Cx) where
  ext : FuncId → List AV → Option AV
  extOk : ∀ g args v, ext g args = some v → ∀ r w vs, VRels r w vs args → ∃ v', (callFunc g vs).run cx.P w = .ok (.value v') w ∧ VRel r w v' v
  lay : TypeId → Nat → TypeId → Bool
  meth : TypeId → String → Option (FuncId × Option TypeId)
  methOk : ∀ T name f, meth T name = some (f, none) → MethP cx.P T name f
  methLk : ∀ T name f el, meth T name = some (f, some el) → MethL cx.P T name f el
  pur : Heap → FuncId → List AV → Option AV
  purOk : ∀ σ g args v, pur σ g args = some v → CallOk cx g args σ (fun o s => o = .ret v ∧ s = σ)
  layOk : ∀ T off u, lay T off u = true → 0 < cx.P.cellsOf T ∧ ∀ k, liesAt cx.P cx.P.depth T (k + 1) off u 1 = true
abbrev Run := FuncId → List AV → Heap → Option (AV × Heap)
def FOk (cx : Cx) (F : Run) : Prop := ∀ g args σ v σ', F g args σ = some (v, σ') → CallOk cx g args σ (fun e s => e = .ret v ∧ s = σ')
def unsX (cx : Cx) (E : Ex cx) (fr : Fr) (σ : Heap) (o : Op) : Option (AV × Heap) := match o with
  | .convert s d x => match cx.P.underlying s, cx.P.underlying d, ev cx fr x with
    | some (.pointer t), some .unsafePointer, .ptr id ver off => match boxAt σ id, szOf cx.P t with
      | some (cur, cs, _), some m => match Nat.beq ver cur && Nat.blt off cs.length && Nat.blt 0 m with
        | true => some (.ptr id ver off, σ)
        | false => none
      | _, _ => none
    | some .unsafePointer, some (.pointer u), .ptr id ver off => match σ[id]? with
      | some (cur, some (.cells cs ⟨_, some T⟩)) => match Nat.beq ver cur && (cx.P.info? u).isSome && Nat.ble (cx.P.cellsOf T) cs.length && E.lay T off u with
        | true => some (.ptr id ver off, σ)
        | false => none
      | _ => none
    | _, _, _ => none
  | .call { callee := .builtin .unsafeString, args := args, argTypes := ts } => match args.toList, ts.toList with
    | [p, m], [pt, _] => match ev cx fr p, ev cx fr m with
      | .nilp, .int .i64 j => match decide (j = 0) with
        | true => some (.str [], σ)
        | false => none
      | .eptr id ver 0, .int .i64 j => match σ[id]?, cx.P.underlying pt with
        | some (cur, some (.cells cs ⟨_, some T⟩)), some (.pointer e) => match Nat.beq ver cur && Nat.beq T e && Nat.beq (cx.P.cellsOf e) 1 && textX ((cs.take j.toNat).map byteOf) cs j with
          | true => some (.str ((cs.take j.toNat).map byteOf), σ.set id (cur, none))
          | false => none
        | _, _ => none
      | _, _ => none
    | _, _ => none
  | .lookup t m k ok => match cx.P.underlying t with
    | some (.map kt et) => match keyFits cx.P kt (ev cx fr k), ev cx fr m, zeroV cx.P et with
      | true, .nilm, some z => some (okV ok z false, σ)
      | _, _, _ => none
    | _ => none
  | .entry x => match ev cx fr x with
    | .ptr id ver 0 => match σ[id]? with
      | some (cur, some (.miter mid mv since [b] c)) => match σ[mid]? with
        | some (mver, some (.map [(k, v)] (some ([d], c')))) => match Nat.beq ver cur && Nat.beq mv mver && Nat.beq b d && Nat.beq c c' with
          | true => some (.tup [k, v], σ)
          | false => none
        | _ => none
      | _ => none
    | _ => none
  | _ => none
where textX (s : List UInt8) (cs : List AV) (j : Int) : Bool := decide (j = (s.length : Nat)) && Nat.blt 0 s.length && Nat.ble s.length 9223372036854775807 && eqVs (cs.take s.length) (s.map byteAV)
theorem unsX_ok {cx : Cx} {E : Ex cx} {n : Nat} {fr : Fr} {σ σ' : Heap} {o : Oper} {v : AV} (h : unsX cx E fr σ o.op = some (v, σ')) : OpSpec cx n fr σ o v σ' := by
  unfold unsX at h
  split at h
  · rename_i s d x ho
    split at h
    · rename_i h1 h2 h3
      split at h
      case h_2 => cases h
      rename_i h4 h5
      split at h
      case h_2 => cases h
      rename_i hb
      simp only [Bool.and_eq_true] at hb
      cases h
      refine fun r a w hi hf => toU_run (by rw [ho, toU]; simp only [h1, h2, h3, h4, h5]; rfl) ?_ hi hf; exact ⟨Nat.eq_of_beq_eq_true hb.1.1, blt_lt hb.1.2, Nat.pos_iff_ne_zero.1 (blt_lt hb.2), trivial⟩
    · rename_i h1 h2 h3
      split at h
      case h_2 => cases h
      rename_i h4
      split at h
      case h_2 => cases h
      rename_i hb
      simp only [Bool.and_eq_true] at hb
      cases h
      obtain ⟨q1, q2⟩ := E.layOk _ _ _ hb.2
      refine fun r a w hi hf => fromU_run (by rw [ho, fromU]; simp only [h1, h2, h3, h4]; rfl) ?_ hi hf; exact ⟨Nat.eq_of_beq_eq_true hb.1.1.1, hb.1.1.2, q1, Nat.le_of_ble_eq_true hb.1.2, q2, trivial⟩
    · cases h
  · rename_i args ts ho
    split at h
    case h_2 => cases h
    rename_i ha ht
    split at h
    · rename_i h1 h2
      split at h
      case h_2 => cases h
      rename_i hj
      cases h
      refine fun r a w hi hf => ustr_run [] (by rw [ho, uStr]; simp only [ha, ht, h1, h2]; rfl) ?_ hi hf; exact ⟨of_decide_eq_true hj, trivial, trivial⟩
    · rename_i h1 h2
      split at h
      case h_2 => cases h
      rename_i h3 h4
      split at h
      case h_2 => cases h
      rename_i hb
      simp only [unsX.textX, Bool.and_eq_true, decide_eq_true_eq] at hb
      cases h
      obtain ⟨⟨⟨q1, q2⟩, q3⟩, ⟨⟨q4, q5⟩, q6⟩, q7⟩ := hb
      refine fun r a w hi hf => ustr_run _ (by rw [ho, uStr]; simp only [ha, ht, h1, h2, h3, h4]; rfl) ?_ hi hf; exact ⟨Nat.eq_of_beq_eq_true q1, Nat.eq_of_beq_eq_true q2, Nat.eq_of_beq_eq_true q3, q4, List.length_pos_iff.1 (blt_lt q5), Nat.le_of_ble_eq_true q6, eqVs_eq _ _ q7, trivial⟩
    · cases h
  · rename_i ho
    split at h
    case h_2 => cases h
    rename_i h1
    split at h
    · rename_i h2 h3 h4
      cases h
      exact OpSpec.lookN ho h1 h2 h3 h4 rfl
    · cases h
  · rename_i ho
    split at h
    case h_2 => cases h
    rename_i h1
    split at h
    case h_2 => cases h
    rename_i h2
    split at h
    case h_2 => cases h
    rename_i h3
    split at h
    case h_2 => cases h
    rename_i hb
    simp only [Bool.and_eq_true] at hb
    obtain ⟨⟨⟨q1, q2⟩, q3⟩, q4⟩ := hb
    cases h
    obtain rfl := Nat.eq_of_beq_eq_true q1
    obtain rfl := Nat.eq_of_beq_eq_true q2
    obtain rfl := Nat.eq_of_beq_eq_true q3
    obtain rfl := Nat.eq_of_beq_eq_true q4
    exact OpSpec.entryG (seen := []) (i := 0) ho h1 h2 h3 rfl rfl
  · cases h
def othX (cx : Cx) (E : Ex cx) (o : Oper) (fr : Fr) (σ : Heap) : Option (AV × Heap) :=
  match aOp cx [] o.dst o.op fr σ with
  | some (_, v, σ') => match opB cx o.op fr σ with
    | true => some (v, σ')
    | false => none
  | none => match Ab.mapN cx fr σ o.op with
    | some (_, v, σ') => match mapNB cx fr σ o.op with
      | true => some (v, σ')
      | false => none
    | none => match o.op with
      | .insert t m k x => mapX cx fr σ (.mapUpdate t m k x) m k
      | op => match keyO op with
        | some (m, k) => match mapX cx fr σ op m k with
          | some r => some r
          | none => unsX cx E fr σ op
        | none => unsX cx E fr σ op
def nlX (cx : Cx) (fr : Fr) (o : Op) : Option AV := match o with
  | .binOp op t x y _ => match op with
    | .eql => at_ false t x y
    | .neq => at_ true t x y
    | _ => none
  | _ => none
where at_ (neg : Bool) (t : TypeId) (x y : Operand) : Option AV := match cx.P.underlying t, ev cx fr y with
  | some (.slice _), .nils => match ev cx fr x with
    | .nils => some (.bool !neg)
    | .ms _ _ _ len _ _ => match neg, Nat.blt 0 len with
      | false, true => some (.bool false)
      | _, _ => none
    | .sl _ _ _ xs => match xs with
      | [] => none
      | _ :: _ => some (.bool neg)
    | _ => none
  | _, _ => none
theorem nlX_at {cx : Cx} {n : Nat} {fr : Fr} {σ : Heap} {o : Oper} {v : AV} (neg : Bool) {t t' : TypeId} {x y : Operand} (ho : o.op = .binOp (if neg then .neq else .eql) t x y t') (h : nlX.at_ cx fr neg t x y = some v) : OpSpec cx n fr σ o v σ := by
  unfold nlX.at_ at h
  split at h
  case h_2 => cases h
  rename_i hu hy
  split at h
  · rename_i hx; cases h; exact OpSpec.nilN neg ho hu hx hy
  · rename_i hx
    split at h
    · rename_i hl; cases h; exact OpSpec.nilEq ho hu hx hy (.inr ⟨_, _, _, _, _, _, rfl, blt_lt hl, rfl⟩)
    · cases h
  · rename_i hx
    split at h
    · cases h
    · cases h; exact OpSpec.nilSl neg ho hu hx hy (List.cons_ne_nil _ _)
  · cases h
theorem nlX_ok {cx : Cx} {n : Nat} {fr : Fr} {σ : Heap} {o : Oper} {v : AV} (h : nlX cx fr o.op = some v) : OpSpec cx n fr σ o v σ := by
  unfold nlX at h
  split at h
  case h_2 => cases h
  rename_i ho
  split at h
  · exact nlX_at false ho h
  · exact nlX_at true ho h
  · cases h
def hfX (cx : Cx) (fr : Fr) (o : Op) : Option AV := match nlX cx fr o with
  | some v => some v
  | none => capX cx fr o
theorem hfX_ok {cx : Cx} {n : Nat} {fr : Fr} {σ : Heap} {o : Oper} {v : AV} (h : hfX cx fr o.op = some v) : OpSpec cx n fr σ o v σ := by
  unfold hfX at h
  split at h
  · rename_i h1; cases h; exact nlX_ok h1
  · exact capX_ok h
def stepO (cx : Cx) (E : Ex cx) (F : Run) (o : Oper) (fr : Fr) (σ : Heap) : Option (AV × Heap) :=
  match callA cx fr o.op with
  | some (g, args) => match E.ext g args with
    | some v => some (v, σ)
    | none => match E.pur σ g args with
      | some v => some (v, σ)
      | none => F g args σ
  | none => match idxX cx fr o.op with
    | some v => some (v, σ)
    | none => match hfX cx fr o.op with
      | some v => some (v, σ)
      | none => match ldX cx fr σ o.op with
        | some v => some (v, σ)
        | none => othX cx E o fr σ
section
variable {cx : Cx} {n : Nat} {B : Bs} {Q : Post} {fr : Fr} {σ : Heap}
theorem stepO_ok {E : Ex cx} {F : Run} (hF : FOk cx F) {all : Array Oper} {K : List Nat} {o : Oper} {v : AV} {σ' : Heap} (hd : dstOk n o.dst = true) (hg : guardA all o K fr = some true)
    (h : stepO cx E F o fr σ = some (v, σ')) : StepX cx n all σ σ' K fr o v := by
  unfold stepO at h
  split at h
  · rename_i g args hc
    split at h
    · rename_i he
      cases h
      refine specC_step hd hg fun r a w hi hf => ?_
      obtain ⟨vs, h1, h2⟩ := callA_go hi hf hc
      obtain ⟨v', h3, h4⟩ := E.extOk _ _ _ he r w vs h2
      exact ⟨r, w, v', .inl (by rw [h1, h3]), h4, hi, Ext.refl _ _ _⟩
    · split at h
      · rename_i hp
        cases h
        exact callC_step hd hg hc (E.purOk _ _ _ _ hp)
      · exact callC_step hd hg hc (hF _ _ _ _ _ h)
  · split at h
    · rename_i hx
      cases h
      obtain ⟨x, C, h1, hC⟩ := idxX_ok hx σ
      exact specC_step hd hg fun r a w hi hf => idxA_run hi hf h1 hC
    · split at h
      · rename_i hx
        cases h
        exact specC_step hd hg (hfX_ok hx)
      split at h
      · rename_i hl
        cases h
        obtain ⟨C, h1, hC⟩ := ldX_ok hl
        exact specC_step hd hg fun r a w hi hf => loadA_run hi hf h1 hC
      · unfold othX at h
        split at h
        · rename_i ha
          split at h
          case h_2 => cases h
          rename_i hb
          cases h
          exact opC_step hd hg ha (opB_ok ha hb)
        · split at h
          · rename_i hm
            split at h
            case h_2 => cases h
            rename_i hb
            cases h
            exact specC_step hd hg (OpSpec.mapN hm (mapNB_ok hm hb))
          · split at h
            · rename_i ho
              obtain ⟨hh, C, h1, hC⟩ := mapX_ok rfl h
              exact specC_step hd hg (OpSpec.insert ho (OpSpec.map hh h1 hC))
            · split at h
              · rename_i hk
                split at h
                · rename_i hm
                  cases h
                  obtain ⟨hh, C, h1, hC⟩ := mapX_ok hk hm
                  exact specC_step hd hg (OpSpec.map hh h1 hC)
                · exact specC_step hd hg (unsX_ok h)
              · exact specC_step hd hg (unsX_ok h)
def puX (cx : Cx) (o : Op) (fr : Fr) : Option (List Prop × AV) := match o with
  | .build t ps => aBuild cx.P t (ps.toList.map fun p => (p.1, ev cx fr p.2)) |>.map fun v => ([], v)
  | o => aPure cx o fr []
theorem aPure_free {o : Op} (hf : freeO o = true) (σ : Heap) : aPure cx o fr σ = aPure cx o fr [] := by
  cases o <;> first | (cases hf; done) | rfl
theorem aOp_free {d : Option Nat} {o : Op} (hf : freeO o = true) (σ : Heap) : aOp cx [] d o fr σ = (puX cx o fr).map fun p => (p.1, p.2, σ) := by
  cases o <;> first | (cases hf; done) | skip
  case build t ps =>
    simp only [aOp, puX, forceP_eq]
    cases aBuild cx.P t (ps.toList.map fun p => (p.1, ev cx fr p.2)) <;> rfl
  all_goals
    simp only [aOp, puX]
    first
      | (rw [aPure_free hf σ]; cases aPure cx _ fr [] <;> rfl)
theorem opB_free {o : Op} (hf : freeO o = true) (σ u : Heap) : opB cx o fr σ = opB cx o fr u := by
  cases o <;> first | (cases hf; done) | rfl
theorem free_at {E : Ex cx} {F : Run} {o : Oper} {v : AV} {s : Heap} (hf : freeO o.op = true) (h : stepO cx E F o fr σ = some (v, s)) : s = σ ∧ ∀ u, stepO cx E F o fr u = some (v, u) := by
  have hc : callA cx fr o.op = none := by
    cases ho : o.op <;> rw [ho] at hf <;> first | (cases hf; done) | rfl
  have hl : ∀ u, ldX cx fr u o.op = none := fun u => by
    cases ho : o.op <;> rw [ho] at hf <;> first | (cases hf; done) | rfl
  have hm : ∀ u, Ab.mapN cx fr u o.op = none := fun u => by
    cases ho : o.op <;> rw [ho] at hf <;> first | (cases hf; done) | rfl
  have hk : keyO o.op = none := by
    cases ho : o.op <;> rw [ho] at hf <;> first | (cases hf; done) | rfl
  unfold stepO at h ⊢
  simp only [hc] at h ⊢
  split at h
  · rename_i hx
    cases h
    exact ⟨rfl, fun u => rfl⟩
  split at h
  · rename_i hx
    cases h
    exact ⟨rfl, fun u => rfl⟩
  · simp only [hl] at h ⊢
    unfold othX at h ⊢
    simp only [aOp_free hf] at h ⊢
    cases hp : puX cx o.op fr with
    | some p =>
      simp only [hp, Option.map_some] at h
      split at h
      · rename_i hb
        cases h
        refine ⟨rfl, fun u => ?_⟩
        rw [opB_free hf σ u] at hb
        simp only [Option.map_some, hb]
      · cases h
    | none =>
      simp only [hp, Option.map_none, hm] at h
      split at h
      · rename_i ho; rw [ho] at hf; cases hf
      · rw [hk] at h
        exfalso
        simp only [unsX] at h
        split at h
        iterate 4 (· rename_i ho; rw [ho] at hf; cases hf)
        · cases h
theorem ovl_snoc : ∀ (pre : List Oper) (pv : List AV) (o : Oper) (v : AV) (fr : Fr), pv.length = pre.length → ovl (pre ++ [o]) (pv ++ [v]) fr = setA o.dst v (ovl pre pv fr)
  | [], [], o, v, fr, _ => rfl
  | a :: pre, x :: pv, o, v, fr, h => ovl_snoc pre pv o v (setA a.dst x fr) (by simpa using h)
  | [], _ :: _, o, v, fr, h => by simp at h
  | _ :: _, [], o, v, fr, h => by simp at h
noncomputable def getB (fr : Fr) (t : Nat) : AV := List.rec (motive := fun _ => AV) .top (fun p _ ih => Bool.rec ih p.2 (Nat.beq p.1 t)) fr
theorem getB_eq : ∀ (fr : Fr) (t : Nat), getB fr t = fr.get t
  | [], t => rfl
  | p :: r, t => by
    show (Bool.rec (getB r t) p.2 (Nat.beq p.1 t) : AV) = bif Nat.beq p.1 t then p.2 else Fr.get r t
    rw [getB_eq r t]
    cases Nat.beq p.1 t <;> rfl
noncomputable def getH (σ : Heap) (id : Nat) : Option (Nat × Option Box) := List.rec (motive := fun _ => Nat → Option (Nat × Option Box)) (fun _ => none) (fun x _ ih n => Nat.rec (some x) (fun m _ => ih m) n) σ id
theorem getH_eq : ∀ (σ : Heap) (id : Nat), getH σ id = σ[id]?
  | [], id => rfl
  | x :: r, 0 => rfl
  | x :: r, id + 1 => by
    show getH r id = _
    rw [getH_eq r id, List.getElem?_cons_succ]
noncomputable def evB (cx : Cx) (fr : Fr) : Operand → AV
  | .tmp t => getB fr t
  | x => ev cx fr x
theorem evB_eq (cx : Cx) (fr : Fr) (x : Operand) : evB cx fr x = ev cx fr x := by
  cases x <;> first | exact getB_eq _ _ | rfl
noncomputable def boxB (σ : Heap) (id : Nat) : Option (Nat × List AV × Tag) := match getH σ id with
  | some (cur, some (.cells cs g)) => some (cur, cs, g)
  | _ => none
theorem boxB_eq (σ : Heap) (id : Nat) : boxB σ id = boxAt σ id := by
  unfold boxB boxAt
  rw [getH_eq]
  rfl
noncomputable def loadF (P : Program) (t : TypeId) (σ : Heap) (a : AV) : Option (AV × Heap) := match a with
  | .ptr id ver off => match boxB σ id with
    | some (cur, cs, _) => match Nat.beq ver cur with
      | true => match aLoad P t (dropA off cs) with
        | some v => some (v, σ)
        | none => none
      | false => none
    | none => none
  | .eptr id ver off => match boxB σ id, szOf P t with
    | some (cur, cs, _), some _ => match Nat.beq ver cur with
      | true => match aLoad P t (dropA off cs) with
        | some v => some (v, σ)
        | none => none
      | false => none
    | _, _ => none
  | .rp _ cs => match aLoad P t cs with
    | some v => some (v, σ)
    | none => none
  | _ => none
noncomputable def storeF (P : Program) (t : TypeId) (σ : Heap) (a x : AV) : Option (AV × Heap) := match szOf P t with
  | some n => match a with
    | .ptr id ver off => at_ n id ver off x.cells
    | .eptr id ver off => at_ n id ver off x.cells
    | _ => none
  | none => none
where at_ (n id ver off : Nat) (xs : List AV) : Option (AV × Heap) := match getH σ id with
  | some (cur, some (.cells cs ⟨false, gT⟩)) => match Nat.beq xs.length n && allOne xs && Nat.beq ver cur && Nat.ble (off + n) cs.length with
    | true => some (.tup [], σ.set id (cur, some (.cells (setRange cs off xs) ⟨false, gT⟩)))
    | false => none
  | _ => none
def isIS : AV → Bool
  | .int .. => true
  | .str _ => true
  | _ => false
noncomputable def binF (P : Program) (op : BinOp) (t : TypeId) (x y : AV) : Option AV := match isIS x && isIS y with
  | true => match aBin P op t x y with
    | some (_, v) => match binB P op t x y with
      | true => some v
      | false => none
    | none => none
  | false => none
noncomputable def fieldF (P : Program) (s : TypeId) (f : Nat) (x : AV) : Option AV := match fieldOf P s f with
  | some (off, t) => match x with
    | .agg cs => aLoad P t (dropA off cs)
    | _ => none
  | none => none
noncomputable def fadrF (P : Program) (s : TypeId) (f : Nat) (x : AV) : Option AV := match fieldOf P s f with
  | some (off, t) => match szOf P t with
    | some n => match Nat.beq n 0 with
      | true => none
      | false => match x with
        | .ptr id ver o => some (.ptr id ver (o + off))
        | .eptr id ver o => some (.eptr id ver (o + off))
        | .rp st cs => some (.rp st (cs.drop off))
        | _ => none
    | none => none
  | none => none
def extF (x : AV) (i : Nat) : Option AV := match x with
  | .tup vs => vs[i]?
  | _ => none
def chkF (x : AV) : Option AV := match x with
  | .ptr id ver off => some (.ptr id ver off)
  | .eptr id ver off => some (.eptr id ver off)
  | .rp st cs => some (.rp st cs)
  | _ => none
def withH (σ : Heap) (x : Option AV) : Option (AV × Heap) := match x with
  | some v => some (v, σ)
  | none => none
noncomputable def lenF (P : Program) (t : TypeId) (σ : Heap) (x : AV) : Option (AV × Heap) := match aLen P t x σ with
  | some (_, v) => match lenB σ x with
    | true => some (v, σ)
    | false => none
  | none => none
noncomputable def callB (cx : Cx) (E : Ex cx) (F : Run) (fr : Fr) (σ : Heap) (f : Operand) (args : List Operand) : Option (AV × Heap) := match evB cx fr f with
  | .func (.func g) first captured => match E.ext g (first ++ args.map (evB cx fr) ++ captured) with
    | some v => some (v, σ)
    | none => match E.pur σ g (first ++ args.map (evB cx fr) ++ captured) with
      | some v => some (v, σ)
      | none => F g (first ++ args.map (evB cx fr) ++ captured) σ
  | _ => none
inductive IX where
  | mov (x : Operand)
  | load (t : TypeId) (a : Operand)
  | store (t : TypeId) (a x : Operand)
  | chk (x : Operand)
  | fadr (s : TypeId) (x : Operand) (f : Nat)
  | fld (s : TypeId) (x : Operand) (f : Nat)
  | ext (x : Operand) (i : Nat)
  | bin (op : BinOp) (t : TypeId) (x y : Operand)
  | call (f : Operand) (az : List Operand)
  | len (t : TypeId) (x : Operand)
  | oth
def decX : Op → IX
  | .move x => .mov x
  | .assign x => .mov x
  | .load t a => .load t a
  | .store t a x => .store t a x
  | .nilCheck x => .chk x
  | .fieldAddr s x f => .fadr s x f
  | .field s x f => .fld s x f
  | .extract x i => .ext x i
  | .binOp op t x y _ => .bin op t x y
  | .call { callee := .value f, args := ⟨az⟩, .. } => .call f az
  | .call { callee := .builtin .len, args := ⟨[x]⟩, argTypes := ⟨[t]⟩ } => .len t x
  | _ => .oth
noncomputable def stepB (cx : Cx) (E : Ex cx) (F : Run) (o : Oper) (fr : Fr) (σ : Heap) : Option (AV × Heap) := match decX o.op with
  | .mov x => some (evB cx fr x, σ)
  | .load t a => loadF cx.P t σ (evB cx fr a)
  | .store t a x => storeF cx.P t σ (evB cx fr a) (evB cx fr x)
  | .chk x => withH σ (chkF (evB cx fr x))
  | .fadr s x f => withH σ (fadrF cx.P s f (evB cx fr x))
  | .fld s x f => withH σ (fieldF cx.P s f (evB cx fr x))
  | .ext x i => withH σ (extF (evB cx fr x) i)
  | .bin op t x y => match binF cx.P op t (evB cx fr x) (evB cx fr y) with
    | some v => some (v, σ)
    | none => stepO cx E F o fr σ
  | .call f az => callB cx E F fr σ f az
  | .len t x => lenF cx.P t σ (evB cx fr x)
  | .oth => stepO cx E F o fr σ
theorem decX_spec (op : Op) : match decX op with
  | .mov x => op = .move x ∨ op = .assign x
  | .load t a => op = .load t a
  | .store t a x => op = .store t a x
  | .chk x => op = .nilCheck x
  | .fadr s x f => op = .fieldAddr s x f
  | .fld s x f => op = .field s x f
  | .ext x i => op = .extract x i
  | .bin o t x y => ∃ t', op = .binOp o t x y t'
  | .call f az => ∃ ts, op = .call { callee := .value f, args := ⟨az⟩, argTypes := ts }
  | .len t x => op = .call { callee := .builtin .len, args := ⟨[x]⟩, argTypes := ⟨[t]⟩ }
  | .oth => True := by
  cases op
  case call c =>
    obtain ⟨callee, ⟨az⟩, ⟨ts⟩⟩ := c
    cases callee
    case value f => exact ⟨_, rfl⟩
    case invoke r m => exact trivial
    case builtin b =>
      cases b <;> first | exact trivial | skip
      match az, ts with
      | [x], [t] => exact rfl
      | [], _ => exact trivial
      | _ :: _ :: _, _ => exact trivial
      | [_], [] => exact trivial
      | [_], _ :: _ :: _ => exact trivial
  all_goals first | exact .inl rfl | exact .inr rfl | exact rfl | exact ⟨_, rfl⟩ | exact trivial
theorem aBin2_is {P : Program} {op : BinOp} {t : TypeId} {x y : AV} (h : isIS x = true) : aBin2 P op t x y = aBin P op t x y := by
  cases x <;> first | (cases h; done) | rfl
theorem nilCmp_is {P : Program} {op : BinOp} {t : TypeId} {x : AV} {y : Operand} (h : isIS x = true) : nilCmp P op t y x = none := by
  unfold nilCmp
  split
  · cases h
  · rfl
theorem nlX_is {cx : Cx} {fr : Fr} {op : BinOp} {t t' : TypeId} {x y : Operand} (h : isIS (ev cx fr y) = true) : nlX cx fr (.binOp op t x y t') = none := by
  have ha : ∀ b, nlX.at_ cx fr b t x y = none := fun b => by
    unfold nlX.at_
    split
    · rename_i hy; rw [hy] at h; cases h
    · rfl
  cases op <;> first | exact ha _ | rfl
theorem stepB_ok {cx : Cx} {E : Ex cx} {F : Run} {o : Oper} {fr : Fr} {σ : Heap} {v : AV} {σ' : Heap} (h : stepB cx E F o fr σ = some (v, σ')) : stepO cx E F o fr σ = some (v, σ') := by
  have hW : ∀ {x : Option AV}, withH σ x = some (v, σ') → x = some v ∧ σ' = σ := fun h => by
    unfold withH at h; split at h <;> cases h; exact ⟨rfl, rfl⟩
  obtain ⟨d, op, ty, ps, af, gd⟩ := o
  unfold stepB at h
  simp only [evB_eq] at h
  have hdx := decX_spec op
  split at h <;> (rename_i hdq; have hdq : decX op = _ := hdq; rw [hdq] at hdx; simp only at hdx)
  case h_8 =>
    obtain ⟨t', rfl⟩ := hdx
    split at h
    case h_2 => exact h
    rename_i hb
    cases h
    unfold binF at hb
    split at hb
    case h_2 => cases hb
    rename_i his
    split at hb
    case h_2 => cases hb
    rename_i ha
    split at hb
    case h_2 => cases hb
    rename_i hB
    cases hb
    rw [Bool.and_eq_true] at his
    have hx2 : aBin2 cx.P _ _ (ev cx fr _) (ev cx fr _) = _ := (aBin2_is his.1).trans ha
    simp only [stepO, callA, idxX, hfX, nlX_is his.2, capX, ldX, othX, aOp, aPure, nilCmp_is his.1, hx2, opB, pureB, hB]
  all_goals (try subst hdx)
  · cases h; rcases hdx with rfl | rfl <;> rfl
  · unfold loadF at h
    split at h
    · rename_i e
      rw [boxB_eq] at h
      split at h
      case h_2 => cases h
      rename_i hb
      split at h
      case h_2 => cases h
      rename_i hv
      split at h
      case h_2 => cases h
      rename_i hl
      cases h
      rw [dropA_eq] at hl
      simp only [stepO, callA, idxX, hfX, nlX, capX, ldX, e, othX, aOp, aPure, hb, hl, opB, pureB, verB, hv]
    · rename_i e
      rw [boxB_eq] at h
      split at h
      case h_2 => cases h
      rename_i hb hsz
      split at h
      case h_2 => cases h
      rename_i hv
      split at h
      case h_2 => cases h
      rename_i hl
      cases h
      rw [dropA_eq] at hl
      simp only [stepO, callA, idxX, hfX, nlX, capX, ldX, e, hb, hsz, hv, hl]
    · rename_i e
      split at h
      case h_2 => cases h
      rename_i hl
      cases h
      simp only [stepO, callA, idxX, hfX, nlX, capX, ldX, e, othX, aOp, aPure, hl, opB, pureB, verB]
    · cases h
  · unfold storeF at h
    split at h
    case h_2 => cases h
    rename_i n hn
    have hat : ∀ {id ver off : Nat} {xs : List AV}, storeF.at_ σ n id ver off xs = some (v, σ') → ∃ cur cs gT, σ[id]? = some (cur, some (.cells cs ⟨false, gT⟩)) ∧ (Nat.beq xs.length n && allOne xs) = true ∧ (Nat.beq ver cur && Nat.ble (off + n) cs.length) = true ∧ v = .tup [] ∧ σ' = σ.set id (cur, some (.cells (setRange cs off xs) ⟨false, gT⟩)) := fun h => by
      unfold storeF.at_ at h
      rw [getH_eq] at h
      split at h
      case h_2 => cases h
      rename_i hσ
      split at h
      case h_2 => cases h
      rename_i hb
      cases h
      simp only [Bool.and_eq_true] at hb
      exact ⟨_, _, _, hσ, by rw [hb.1.1.1, hb.1.1.2]; rfl, by rw [hb.1.2, hb.2]; rfl, rfl, rfl⟩
    split at h
    · rename_i e
      obtain ⟨cur, cs, gT, h1, h2, h3, rfl, rfl⟩ := hat h
      simp only [stepO, callA, idxX, hfX, nlX, capX, ldX, othX, aOp, aStore, e, hn, h1, h2, cond_true, opB, storeB, storeB.at_, h3]
    · rename_i e
      obtain ⟨cur, cs, gT, h1, h2, h3, rfl, rfl⟩ := hat h
      simp only [stepO, callA, idxX, hfX, nlX, capX, ldX, othX, aOp, aStore, e, hn, h1, h2, cond_true, opB, storeB, storeB.at_, h3]
    · cases h
  · obtain ⟨g, rfl⟩ := hW h
    clear h
    have h := g
    clear g
    unfold chkF at h
    split at h <;> (try (cases h; done)) <;> (rename_i e; cases h; simp only [stepO, callA, idxX, hfX, nlX, capX, ldX, e, othX, aOp, aPure, opB, pureB])
  · obtain ⟨g, rfl⟩ := hW h
    clear h
    have h := g
    clear g
    unfold fadrF at h
    split at h
    case h_2 => cases h
    rename_i e1
    split at h
    case h_2 => cases h
    rename_i e2
    split at h
    · cases h
    rename_i e3
    split at h <;> (try (cases h; done)) <;> (rename_i e; cases h; simp only [stepO, callA, idxX, hfX, nlX, capX, ldX, e, e1, e2, e3, othX, aOp, aPure, opB, pureB, cond_false])
  · obtain ⟨g, rfl⟩ := hW h
    clear h
    have h := g
    clear g
    unfold fieldF at h
    split at h
    case h_2 => cases h
    rename_i e1
    split at h
    case h_2 => cases h
    rename_i e
    rw [dropA_eq] at h
    simp only [stepO, callA, idxX, hfX, nlX, capX, ldX, e, e1, othX, aOp, aPure]
    rw [h]
    rfl
  · obtain ⟨g, rfl⟩ := hW h
    clear h
    have h := g
    clear g
    unfold extF at h
    split at h
    case h_2 => cases h
    rename_i e
    simp only [stepO, callA, idxX, hfX, nlX, capX, ldX, e, othX, aOp, aPure]
    rw [h]
    rfl
  · obtain ⟨ts, rfl⟩ := hdx
    unfold callB at h
    rw [show evB cx fr = ev cx fr from funext (evB_eq cx fr)] at h
    split at h
    case h_2 => cases h
    rename_i e
    simp only [stepO, callA, e]
    exact h
  · unfold lenF at h
    split at h
    case h_2 => cases h
    rename_i ha
    split at h
    case h_2 => cases h
    rename_i hB
    cases h
    simp only [stepO, callA, idxX, hfX, nlX, capX, ldX, othX, aOp, aPure, ha, opB, pureB, hB]
  · exact h
def seenB (m s : Nat) : Bool := Nat.beq (Nat.land (Nat.shiftRight m s) 1) 1
theorem seenB_eq (m s : Nat) : seenB m s = m.testBit s := by
  have h : Nat.land (Nat.shiftRight m s) 1 = (m >>> s) % 2 := Nat.and_one_is_mod _
  unfold seenB
  rw [h, Nat.shiftRight_eq_div_pow, Nat.testBit_eq_decide_div_mod_eq]
  cases hb : Nat.beq (m / 2 ^ s % 2) 1 with
  | true => exact (decide_eq_true (Nat.eq_of_beq_eq_true hb)).symm
  | false => exact (decide_eq_false (Nat.ne_of_beq_eq_false hb)).symm
theorem seenB_put (m p s : Nat) : seenB (Nat.lor m (Nat.shiftLeft 1 p)) s = (seenB m s || decide (p = s)) := by
  rw [seenB_eq, seenB_eq]
  show (m ||| 1 <<< p).testBit s = _
  rw [Nat.testBit_or, Nat.testBit_shiftLeft]
  congr 1
  rcases Nat.lt_trichotomy p s with h | h | h
  · rw [decide_eq_false (Nat.ne_of_lt h)]
    obtain ⟨k, rfl⟩ : ∃ k, s = p + (k + 1) := ⟨s - p - 1, by omega⟩
    rw [Nat.add_sub_cancel_left, Nat.testBit_succ]
    simp
  · subst h; simp
  · rw [decide_eq_false (Nat.ne_of_gt h), decide_eq_false (show ¬ s ≥ p by omega)]; rfl
noncomputable def dupB {α : Type} (fr : Fr) : Nat → Fr → (Fr → α) → α := List.rec (motive := fun _ => Nat → Fr → (Fr → α) → α) (fun _ acc c => c acc)
  (fun p _ ih m acc c => Bool.rec (ih (Nat.lor m (Nat.shiftLeft 1 p.1)) (Bool.rec (p :: acc) acc (isTop p.2)) c) (ih m acc c) (seenB m p.1)) fr
theorem dupB_gen {α : Type} (c : Fr → α) : ∀ (fr : Fr) (m : Nat) (acc : Fr), ∃ fr', dupB fr m acc c = c fr' ∧ ∀ t, (seenB m t = true → fr'.get t = acc.get t) ∧ (seenB m t = false → acc.get t = .top → fr'.get t = .top ∨ fr'.get t = fr.get t)
  | [], m, acc => ⟨acc, rfl, fun t => ⟨fun _ => rfl, fun _ h => .inl h⟩⟩
  | p :: r, m, acc => by
    show ∃ fr', (Bool.rec (dupB r (Nat.lor m (Nat.shiftLeft 1 p.1)) (Bool.rec (p :: acc) acc (isTop p.2)) c) (dupB r m acc c) (seenB m p.1) : α) = c fr' ∧ _
    cases hs : seenB m p.1 with
    | true =>
      obtain ⟨fr', h1, h2⟩ := dupB_gen c r m acc
      refine ⟨fr', h1, fun t => ⟨(h2 t).1, fun h3 h4 => ?_⟩⟩
      have hne : p.1 ≠ t := fun e => by rw [e, h3] at hs; cases hs
      rw [Fr.get_cons, if_neg hne]
      exact (h2 t).2 h3 h4
    | false =>
      have key : ∀ acc', (∀ t, p.1 ≠ t → acc'.get t = acc.get t) → (acc.get p.1 = .top → acc'.get p.1 = .top ∨ acc'.get p.1 = p.2) → ∃ fr', dupB r (Nat.lor m (Nat.shiftLeft 1 p.1)) acc' c = c fr' ∧ ∀ t, (seenB m t = true → fr'.get t = acc.get t) ∧ (seenB m t = false → acc.get t = .top → fr'.get t = .top ∨ fr'.get t = Fr.get (p :: r) t) := fun acc' ha hp => by
        obtain ⟨fr', h1, h2⟩ := dupB_gen c r (Nat.lor m (Nat.shiftLeft 1 p.1)) acc'
        refine ⟨fr', h1, fun t => ?_⟩
        have hq := h2 t
        rw [seenB_put] at hq
        by_cases ht : p.1 = t
        · subst ht
          refine ⟨fun h => (by rw [hs] at h; cases h), fun _ h4 => ?_⟩
          rw [Fr.get_cons, if_pos rfl, hq.1 (by simp)]
          exact hp h4
        · rw [decide_eq_false ht, Bool.or_false] at hq
          rw [Fr.get_cons, if_neg ht]
          exact ⟨fun h => by rw [hq.1 h, ha t ht], fun h h4 => hq.2 h (by rw [ha t ht, h4])⟩
      cases ht : isTop p.2 with
      | true => exact key acc (fun _ _ => rfl) .inl
      | false => exact key (p :: acc) (fun t h => by rw [Fr.get_cons, if_neg h]) fun _ => .inr (by rw [Fr.get_cons, if_pos rfl])
theorem dupB_spec {α : Type} (fr : Fr) (c : Fr → α) : ∃ fr', dupB fr 0 [] c = c fr' ∧ Weak fr fr' := by
  obtain ⟨fr', h1, h2⟩ := dupB_gen c fr 0 []
  exact ⟨fr', h1, fun t => (h2 t).2 (by rw [seenB_eq, Nat.zero_testBit]) rfl⟩
def CameX (cx : Cx) (E : Ex cx) (F : Run) (all : Array Oper) (K : List Nat) (fr : Fr) (s : Heap) (o : Oper) (v : AV) : Prop := (guardA all o K fr = some false ∧ v = .tup []) ∨ (guardA all o K fr = some true ∧ ∃ s', stepO cx E F o fr s = some (v, s'))
noncomputable def restrB (ops : List Oper) (o : Oper) (fr : Fr) : Fr := (slotsOf ops o).map fun t => (t, getB fr t)
theorem restrB_eq (ops : List Oper) (o : Oper) (fr : Fr) : restrB ops o fr = restr ops o fr := by
  unfold restrB restr
  simp only [getB_eq]
noncomputable def drawV {α : Type} (T : Oper → Fr → Heap → Option (AV × Heap)) (all : Array Oper) (ops : List Oper) (K : List Nat) (chg : Oper → Fr → Heap → Bool) : List Oper → Nat → Fr → Heap → (List AV → List (Nat × Heap) → Fr → Option α) → Option α
  | [], i, fr, σ, c => c [] [] fr
  | o :: l, i, fr, σ, c => match guardA all o K (restrB ops o fr) with
    | none => none
    | some false => setC o.dst (.tup []) fr fun fr => drawV T all ops K chg l (i + 1) fr σ fun vs es fr => c (.tup [] :: vs) es fr
    | some true => match T o (restrB ops o fr) σ with
      | none => none
      | some (v, σ') => forceV v fun v => match chg o (restrB ops o fr) σ with
        | true => setC o.dst v fr fun fr => forceL σ' fun σ' => drawV T all ops K chg l (i + 1) fr σ' fun vs es fr => c (v :: vs) ((i, σ') :: es) fr
        | false => setC o.dst v fr fun fr => drawV T all ops K chg l (i + 1) fr σ fun vs es fr => c (v :: vs) es fr
theorem drawV_spec {α : Type} {E : Ex cx} {F : Run} (hF : FOk cx F) {T : Oper → Fr → Heap → Option (AV × Heap)} (hT : ∀ o fr σ v σ', T o fr σ = some (v, σ') → stepO cx E F o fr σ = some (v, σ')) {all : Array Oper} {ops : List Oper} {K : List Nat} {chg : Oper → Fr → Heap → Bool} {fr0 : Fr} {a : α} : ∀ (l pre : List Oper) (pv : List AV) (i : Nat) (σ : Heap) (c : List AV → List (Nat × Heap) → Fr → Option α),
    pv.length = pre.length → i = pre.length → (∀ o ∈ l, dstOk n o.dst = true) → drawV T all ops K chg l i (ovl pre pv fr0) σ c = some a →
    ∃ vs es, c vs es (ovl (pre ++ l) (pv ++ vs) fr0) = some a ∧ vs.length = l.length ∧ stepsL (fun x j y => ∀ o v, (pre ++ l)[j]? = some o → (pv ++ vs)[j]? = some v → StepX cx n all x y K (restr ops o (ovl ((pre ++ l).take j) ((pv ++ vs).take j) fr0)) o v) σ es ∧
      ∀ j o v, pre.length ≤ j → (pre ++ l)[j]? = some o → (pv ++ vs)[j]? = some v → ∃ s, (es = [] → s = σ) ∧ CameX cx E F all K (restr ops o (ovl ((pre ++ l).take j) ((pv ++ vs).take j) fr0)) s o v
  | [], pre, pv, i, σ, c, hl, hi, hd, h => ⟨[], [], by rw [List.append_nil, List.append_nil]; exact h, rfl, trivial, fun j o v hj ho hv => by
    rw [List.append_nil, List.getElem?_eq_none hj] at ho; cases ho⟩
  | o :: l, pre, pv, i, σ, c, hl, hi, hd, h => by
    have h0 : ∀ (vs : List AV), (pre ++ o :: l)[pre.length]? = some o ∧ (pre ++ o :: l).take pre.length = pre ∧ (pv ++ vs).take pre.length = pv := fun vs => by
      refine ⟨by rw [List.getElem?_append_right (Nat.le_refl _), Nat.sub_self]; rfl, List.take_left, by rw [← hl, List.take_left]⟩
    have next : ∀ (v : AV) (s : Heap) (c' : List AV → List (Nat × Heap) → Fr → Option α), CameX cx E F all K (restr ops o (ovl pre pv fr0)) σ o v → drawV T all ops K chg l (i + 1) (setA o.dst v (ovl pre pv fr0)) s c' = some a →
        ∃ vs es, c' vs es (ovl (pre ++ o :: l) (pv ++ v :: vs) fr0) = some a ∧ vs.length = l.length ∧ stepsL (fun x j y => ∀ o' v', (pre ++ o :: l)[j]? = some o' → (pv ++ v :: vs)[j]? = some v' → StepX cx n all x y K (restr ops o' (ovl ((pre ++ o :: l).take j) ((pv ++ v :: vs).take j) fr0)) o' v') s es ∧
          ∀ j o' v', pre.length ≤ j → (pre ++ o :: l)[j]? = some o' → (pv ++ v :: vs)[j]? = some v' → ∃ u, (es = [] → s = σ → u = σ) ∧ CameX cx E F all K (restr ops o' (ovl ((pre ++ o :: l).take j) ((pv ++ v :: vs).take j) fr0)) u o' v' := fun v s c' hcame h' => by
      rw [← ovl_snoc pre pv o v fr0 hl] at h'
      obtain ⟨vs, es, h1, h2, h3, h4⟩ := drawV_spec hF hT l (pre ++ [o]) (pv ++ [v]) (i + 1) s c' (by simp [hl]) (by simp [hi]) (fun x hx => hd x (List.mem_cons_of_mem _ hx)) h'
      simp only [List.append_assoc, List.cons_append, List.nil_append, List.length_append, List.length_cons, List.length_nil] at h1 h3 h4
      refine ⟨vs, es, h1, h2, h3, fun j o' v' hj ho hv => ?_⟩
      rcases Nat.lt_or_ge pre.length j with hj' | hj'
      · obtain ⟨u, q1, q2⟩ := h4 j o' v' (by omega) ho hv
        exact ⟨u, fun he hs => by rw [q1 he, hs], q2⟩
      · have hje : j = pre.length := by omega
        subst hje
        obtain ⟨q1, q2, q3⟩ := h0 (v :: vs)
        rw [q1] at ho
        rw [← hl, List.getElem?_append_right (Nat.le_refl _), Nat.sub_self] at hv
        cases ho; cases hv
        rw [q2, q3]
        exact ⟨σ, fun _ _ => rfl, hcame⟩
    unfold drawV at h
    simp only [restrB_eq, setC_eq, forceV_eq, forceL_eq] at h
    split at h
    · cases h
    · rename_i hg
      obtain ⟨vs, es, h1, h2, h3, h4⟩ := next _ _ _ (.inl ⟨hg, rfl⟩) h
      exact ⟨.tup [] :: vs, es, h1, by simp [h2], h3, fun j o' v' hj ho hv => by
        obtain ⟨u, q1, q2⟩ := h4 j o' v' hj ho hv
        exact ⟨u, fun he => q1 he rfl, q2⟩⟩
    · rename_i hg
      split at h
      · cases h
      · rename_i v σ' hs
        have hs := hT _ _ _ _ _ hs
        have hc : CameX cx E F all K (restr ops o (ovl pre pv fr0)) σ o v := .inr ⟨hg, _, hs⟩
        split at h
        · obtain ⟨vs, es, h1, h2, h3, h4⟩ := next _ _ _ hc h
          refine ⟨v :: vs, (i, σ') :: es, h1, by simp [h2], ⟨fun o' v' ho hv => ?_, h3⟩, fun j o' v' hj ho hv => by
            obtain ⟨u, q1, q2⟩ := h4 j o' v' hj ho hv
            exact ⟨u, (fun he => nomatch he), q2⟩⟩
          obtain ⟨q1, q2, q3⟩ := h0 (v :: vs)
          rw [hi, q1] at ho
          rw [hi, ← hl, List.getElem?_append_right (Nat.le_refl _), Nat.sub_self] at hv
          cases ho; cases hv
          rw [hi, q2, q3]
          exact stepO_ok hF (hd o (List.mem_cons_self ..)) hg hs
        · obtain ⟨vs, es, h1, h2, h3, h4⟩ := next _ _ _ hc h
          exact ⟨v :: vs, es, h1, by simp [h2], h3, fun j o' v' hj ho hv => by
            obtain ⟨u, q1, q2⟩ := h4 j o' v' hj ho hv
            exact ⟨u, fun he => q1 he rfl, q2⟩⟩
theorem stepsL_mono {P P' : Heap → Nat → Heap → Prop} (h : ∀ a j b, P a j b → P' a j b) : ∀ (σ : Heap) (l : List (Nat × Heap)), stepsL P σ l → stepsL P' σ l
  | _, [], _ => trivial
  | σ, (j, s) :: r, ⟨h1, h2⟩ => ⟨h _ _ _ h1, stepsL_mono h s r h2⟩
def rowR (g : Nat → Heap → Bool) : Nat → List Heap → Bool
  | _, [] => true
  | k, s :: r => match g k s with
    | true => rowR g (k + 1) r
    | false => false
theorem rowR_spec {g : Nat → Heap → Bool} : ∀ {l : List Heap} {k : Nat}, rowR g k l = true → runsL (fun k s => g k s = true) k l
  | [], k, h => trivial
  | s :: r, k, h => by
    unfold rowR at h
    split at h
    · rename_i hg; exact ⟨hg, rowR_spec h⟩
    · cases h
def purX {cx : Cx} (E : Ex cx) (σ : Heap) (g : FuncId) (args : List AV) : Option AV := match E.ext g args with
  | some v => some v
  | none => E.pur σ g args
def quietX (cx : Cx) (E : Ex cx) (o : Op) (fr : Fr) (σ : Heap) : Bool := match callA cx fr o with
  | some (g, args) => (purX E σ g args).isSome
  | none => false
def chkO (cx : Cx) (E : Ex cx) (T : Oper → Fr → Heap → Option (AV × Heap)) (ops : Array Oper) (K : List Nat) (fr : Fr) (vs : List AV) (s : Heap) (j : Nat) : Bool :=
  match ops.toList[j]?, vs[j]? with
  | some o, some v => match freeO o.op with
    | true => true
    | false => match guardA ops o K (restr ops.toList o (ovl (ops.toList.take j) (vs.take j) fr)) with
      | some false => true
      | some true => match callA cx (restr ops.toList o (ovl (ops.toList.take j) (vs.take j) fr)) o.op with
        | some (g, args) => match purX E s g args with
          | some v' => eqV v' v
          | none => false
        | none => match keepO o.op with
          | true => match T o (restr ops.toList o (ovl (ops.toList.take j) (vs.take j) fr)) s with
            | some (v', _) => eqV v' v
            | none => false
          | false => false
      | none => false
  | _, _ => false
where keepO : Op → Bool
  | .load .. => true
  | .convert .. => true
  | .slice .. => true
  | .lookup .. => true
  | .buildSlice .. => true
  | .call { callee := .builtin b, .. } => match b with
    | .len | .min | .max | .unsafeSliceData | .cap => true
    | _ => false
  | _ => false
theorem keep_call {o : Op} (h : chkO.keepO o = true) : callA cx fr o = none := by
  cases o <;> first | rfl | skip
  rename_i c
  obtain ⟨callee, az, ts⟩ := c
  cases callee <;> first | rfl | cases h
theorem keep_at {E : Ex cx} {F : Run} {o : Oper} {v : AV} {s : Heap} (hc : callA cx fr o.op = none) (hk : chkO.keepO o.op = true) (h : stepO cx E F o fr σ = some (v, s)) : s = σ := by
  obtain ⟨d, op, ty, ps, af, gd⟩ := o
  simp only at hc hk
  unfold stepO at h
  simp only [hc] at h
  split at h
  · cases h; rfl
  split at h
  · cases h; rfl
  · split at h
    · cases h; rfl
    · have hp : ∀ {C : List Prop} {v : AV} {s : Heap}, (match aPure cx op fr σ with
        | some (C, v) => some (C, v, σ)
        | none => none) = some (C, v, s) → s = σ := fun h => by
        split at h <;> cases h; rfl
      unfold othX at h
      simp only at h
      split at h
      · rename_i ha
        split at h
        case h_2 => cases h
        cases h
        unfold aOp at ha
        split at ha <;> first | (cases hk; done) | skip
        · rw [forceP_eq] at ha
          split at ha
          · rename_i hl
            cases ha
            unfold aLit at hl
            split at hl
            case h_2 => cases hl
            rw [Bool.cond_eq_ite] at hl
            split at hl
            case isFalse => cases hl
            split at hl
            case h_2 => cases hl
            split at hl
            · cases hl; rfl
            · rename_i hin; cases d <;> cases hin
          · cases ha
        · split at ha
          · rename_i hl
            cases ha
            unfold aBytes at hl
            split at hl
            case h_2 => cases hl
            rw [Bool.cond_eq_ite] at hl
            split at hl
            case isFalse => cases hl
            split at hl
            · cases hl; rfl
            · rename_i hin; cases d <;> cases hin
          · split at ha <;> cases ha; rfl
        · exact hp ha
      · split at h
        · rename_i hm
          exfalso
          unfold mapN at hm
          split at hm <;> first | (cases hk; done) | (cases hm; done)
        · split at h
          · cases hk
          · have hun : ∀ {v : AV} {s : Heap}, unsX cx E fr σ op = some (v, s) → s = σ := fun h => by
              unfold unsX at h
              split at h
              · (repeat' split at h) <;> first | (cases h; rfl) | (cases h; done)
              · cases hk
              · (repeat' split at h) <;> first | (cases h; rfl) | (cases h; done)
              · cases hk
              · cases h
            split at h
            case h_2 => exact hun h
            split at h
            case h_2 => exact hun h
            rename_i hx
            cases h
            unfold mapX at hx
            split at hx
            case h_2 => cases hx
            split at hx
            case h_2 => cases hx
            split at hx
            case h_2 => cases hx
            rename_i hm
            cases hx
            unfold mapA at hm
            split at hm <;> first | (cases hk; done) | skip
            · (repeat' split at hm) <;> first | (cases hm; rfl) | (cases hm; done)
            · cases hm
def chgX : Op → Bool
  | .alloc .. => true
  | .box .. => true
  | .store .. => true
  | .makeSlice .. => true
  | .makeMap .. => true
  | .mapUpdate .. => true
  | .insert .. => true
  | .range .. => true
  | .call { callee := .value _, .. } => true
  | .call { callee := .builtin b, .. } => match b with
    | .append | .copy | .delete | .clear | .unsafeString => true
    | _ => false
  | _ => false
noncomputable def drawX (cx : Cx) (E : Ex cx) (T : Oper → Fr → Heap → Option (AV × Heap)) (n : Nat) (ops : Array Oper) (fr : Fr) (σ : Heap) : Option (Fr × Heap) :=
  match cx.P.follows .mixedOrders && drawOk ops.toList ops.size with
  | false => none
  | true => match ops.toList.all (fun o => dstOk n o.dst) with
    | false => none
    | true => drawV T ops ops.toList (guardKs ops.toList ops.toList) (fun o fr σ => match chgX o.op with
      | true => match quietX cx E o.op fr σ with
        | true => false
        | false => true
      | false => false) ops.toList 0 fr σ fun vs es fr' => match es with
      | [] => match (ops.toList.all fun o => freeO o.op || chkO.keepO o.op) || (List.range ops.size).all fun j => chkO cx E T ops (guardKs ops.toList ops.toList) fr vs σ j with
        | true => some (fr', σ)
        | false => none
      | e :: r => match es.all (fun e => Nat.blt e.1 ops.size) && edgesL ops.toList (es.map Prod.fst) with
        | false => none
        | true => match rowR (fun k s => (List.range ops.size).all fun j => memN j (es.map Prod.fst) || chkO cx E T ops (guardKs ops.toList ops.toList) fr vs s j || memN j (exclL ops.toList (es.map Prod.fst) ops.size k)) 0 (heapsL σ es) with
          | true => some (fr', (heapsL σ (e :: r)).getLast (by simp [heapsL]))
          | false => none
theorem chkO_ok {E : Ex cx} {F : Run} (hF : FOk cx F) {T : Oper → Fr → Heap → Option (AV × Heap)} (hT : ∀ o fr σ v σ', T o fr σ = some (v, σ') → stepO cx E F o fr σ = some (v, σ')) {ops : Array Oper} {K : List Nat} {vs : List AV} {s s1 : Heap} {j : Nat} {o : Oper} {v : AV} (ho : ops.toList[j]? = some o) (hv : vs[j]? = some v)
    (hcm : CameX cx E F ops K (restr ops.toList o (ovl (ops.toList.take j) (vs.take j) fr)) s1 o v) (hdo : dstOk n o.dst = true) (hG : chkO cx E T ops K fr vs s j = true) : StepX cx n ops s s K (restr ops.toList o (ovl (ops.toList.take j) (vs.take j) fr)) o v := by
  unfold chkO at hG
  simp only [ho, hv] at hG
  split at hG
  · rename_i hfr
    rcases hcm with ⟨hg, rfl⟩ | ⟨hg, s2, hs⟩
    · exact ⟨hdo, .inl ⟨hg, rfl, rfl⟩⟩
    · exact stepO_ok hF hdo hg ((free_at hfr hs).2 s)
  · split at hG
    · rename_i hg
      rcases hcm with ⟨_, rfl⟩ | ⟨hg2, _⟩
      · exact ⟨hdo, .inl ⟨hg, rfl, rfl⟩⟩
      · rw [hg] at hg2; cases hg2
    · rename_i hg
      split at hG
      · rename_i g args hca
        split at hG
        · rename_i v' hp
          obtain rfl := eqV_eq _ _ hG
          refine stepO_ok (F := F) (E := E) hF hdo hg ?_
          unfold purX at hp
          unfold stepO
          simp only [hca]
          split at hp
          · rename_i he
            cases hp
            simp only [he]
          · rename_i he
            simp only [he, hp]
        · cases hG
      · rename_i hca
        split at hG
        · rename_i hkp
          split at hG
          · rename_i v' s' hs
            have hs := hT _ _ _ _ _ hs
            obtain rfl := eqV_eq _ _ hG
            obtain rfl := keep_at hca hkp hs
            exact stepO_ok hF hdo hg hs
          · cases hG
        · cases hG
    · cases hG
theorem drawX_ok {E : Ex cx} {F : Run} (hF : FOk cx F) {T : Oper → Fr → Heap → Option (AV × Heap)} (hT : ∀ o fr σ v σ', T o fr σ = some (v, σ') → stepO cx E F o fr σ = some (v, σ')) {id : Nat} {ops : Array Oper} {fr' : Fr} {σ' : Heap} {k : List AI} (h : drawX cx E T n ops fr σ = some (fr', σ'))
    (hk : S cx n B k Q fr' σ') : S cx n B (.code (.region id ops true) :: k) Q fr σ := by
  unfold drawX at h
  split at h
  · cases h
  rename_i hok
  rw [Bool.and_eq_true] at hok
  obtain ⟨hP, hok⟩ := hok
  split at h
  · cases h
  rename_i hds
  have hdm := fun o ho => List.all_eq_true.1 hds o ho
  obtain ⟨vs, es, h1, h2, h3, h4⟩ := drawV_spec (n := n) (fr0 := fr) hF hT ops.toList [] [] 0 σ _ rfl rfl hdm h
  have hvl : vs.length = ops.size := by rw [h2, Array.length_toList]
  have htk : ops.toList.take ops.size = ops.toList := by rw [← Array.length_toList, List.take_length]
  have hend : S cx n B k Q fr' σ' → S cx n B (.ops ops (ops.toList.drop ops.size) [] :: k) Q fr' σ' := fun hk => by
    rw [show ops.toList.drop ops.size = [] by rw [← Array.length_toList, List.drop_length]]
    exact S_ops_nil hk
  have hcam : ∀ (j : Nat) (o : Oper) (v : AV), ops.toList[j]? = some o → vs[j]? = some v → ∃ s, (es = [] → s = σ) ∧ CameX cx E F ops (guardKs ops.toList ops.toList) (restr ops.toList o (ovl (ops.toList.take j) (vs.take j) fr)) s o v := fun j o v ho hv => h4 j o v (Nat.zero_le _) ho hv
  split at h1
  · split at h1
    case h_2 => cases h1
    rename_i hall
    cases h1
    refine S_drawOLx [] _ ops.size vs _ hP hok (Nat.ble_eq_true_of_le (Nat.le_refl _)) rfl rfl (by rw [htk]; exact hds) hvl (by rw [htk]; rfl) ⟨?_, trivial⟩ trivial rfl (hend hk)
    intro j o v hjm ho hv hin hx
    obtain ⟨s, q1, q2⟩ := hcam j o v ho hv
    cases q1 rfl
    rw [Bool.or_eq_true] at hall
    rcases hall with hall | hall
    · rcases q2 with ⟨hg, rfl⟩ | ⟨hg, s', hs⟩
      · exact ⟨hdm o (List.mem_of_getElem? ho), .inl ⟨hg, rfl, rfl⟩⟩
      · have := List.all_eq_true.1 hall o (List.mem_of_getElem? ho)
        rw [Bool.or_eq_true] at this
        rcases this with hfr | hkp
        · exact stepO_ok hF (hdm o (List.mem_of_getElem? ho)) hg ((free_at hfr hs).2 _)
        · obtain rfl := keep_at (keep_call hkp) hkp hs
          exact stepO_ok hF (hdm o (List.mem_of_getElem? ho)) hg hs
    · exact chkO_ok hF hT ho hv q2 (hdm o (List.mem_of_getElem? ho)) (List.all_eq_true.1 hall j (List.mem_range.2 hjm))
  · rename_i e r
    split at h1
    · cases h1
    rename_i hb
    simp only [Bool.and_eq_true] at hb
    obtain ⟨hb2, hb3⟩ := hb
    split at h1
    case h_2 => cases h1
    rename_i hD
    cases h1
    refine S_drawOLx _ _ ops.size vs _ hP hok (Nat.ble_eq_true_of_le (Nat.le_refl _)) hb2 hb3 (by rw [htk]; exact hds) hvl (by rw [htk]; rfl) (runsL_mono (fun k s hr => ?_) _ _ (rowR_spec hD)) (stepsL_mono (fun a j b hh => ?_) _ _ h3) rfl (hend hk)
    · intro j o v hjm ho hv hin hx
      have hG := List.all_eq_true.1 hr j (List.mem_range.2 hjm)
      have hm1 : memN j ((e :: r).map Prod.fst) = false := by
        cases hb : memN j ((e :: r).map Prod.fst) with
        | false => rfl
        | true => exact absurd (memN_iff.1 hb) hin
      have hm2 : memN j (exclL ops.toList ((e :: r).map Prod.fst) ops.size k) = false := by
        cases hb : memN j (exclL ops.toList ((e :: r).map Prod.fst) ops.size k) with
        | false => rfl
        | true => exact absurd (memN_iff.1 hb) hx
      rw [hm1, hm2, Bool.false_or, Bool.or_false] at hG
      obtain ⟨s1, _, hcm⟩ := hcam j o v ho hv
      exact chkO_ok hF hT ho hv hcm (hdm o (List.mem_of_getElem? ho)) hG
    · exact hh
structure Mx (cx : Cx) where
  tab : FuncId → Option (Func × Bool)
  ok : ∀ g fn b, tab g = some (fn, b) → cx.P.funcs[g]? = some fn ∧ Enters cx.P g
def endX : List XI → Bool
  | [] => true
  | .code .ret :: _ => true
  | _ => false
structure Rx where
  todo : List XI
  fr : Fr
  σ : Heap
abbrev Gox := Nat → Bool → List XI → Fr → Heap → Rx
structure Ox (cx : Cx) where
  ora : Run → Run
  ok : ∀ F, FOk cx F → ∀ g args σ v σ', ora F g args σ = some (v, σ') → CallOk cx g args σ (fun e s => e = .ret v ∧ s = σ')
def resX (cx : Cx) (fr : Fr) (σ : Heap) (l : List ResultVar) : Option AV := match resAll cx fr σ l with
  | some (_, vs) => match resB σ fr l with
    | true => some (tupOf vs)
    | false => none
  | none => none
def dfX (cx : Cx) (M : Mx cx) (R : Gox) (d : AV) (σ : Heap) : Option Heap := match d with
  | .func (.func g) first cap => match M.tab g with
    | some (fn, _) => match fn.body with
      | some (.seq (.region _ ops false) rest) => match ops.toList with
        | ⟨some t, .call { callee := .builtin .recover, args := ⟨[]⟩, argTypes := ⟨[]⟩ }, _, _, _, none⟩ :: l => match Nat.blt t fn.ntmps && Nat.ble (first ++ cap).length fn.ntmps with
          | true => match R fn.ntmps false [.ops ops l [], .code rest] ((t, .nili) :: enterFr 0 (first ++ cap)) σ with
            | ⟨todo, fr1, σ1⟩ => match endX todo with
              | true => match resX cx fr1 σ1 fn.results.toList with
                | some _ => some σ1
                | none => none
              | false => none
          | false => none
        | _ => none
      | _ => none
    | none => none
  | _ => none
def lvX (cx : Cx) (M : Mx cx) (R : Gox) : List AV → Heap → Option Heap
  | [], σ => some σ
  | d :: ds, σ => match dfX cx M R d σ with
    | some σ' => lvX cx M R ds σ'
    | none => none
def markX : AV → Option (List AV)
  | .mark ds => some ds
  | _ => none
def callX (cx : Cx) (M : Mx cx) (O : Ox cx) (F : Run) (R : Gox) (g : FuncId) (args : List AV) (σ : Heap) : Option (AV × Heap) :=
  match O.ora F g args σ with
  | some r => some r
  | none => match M.tab g with
    | some (fn, df) => match fn.body with
      | some c => match Nat.ble args.length fn.ntmps with
        | true => match df with
          | false => match R fn.ntmps false [.code c] (enterFr 0 args) σ with
            | ⟨todo, fr1, σ1⟩ => match endX todo with
              | true => match resX cx fr1 σ1 fn.results.toList with
                | some v => some (v, σ1)
                | none => none
              | false => none
          | true => match R fn.ntmps true [.code c] ((fn.ntmps, .mark []) :: enterFr 0 args) σ with
            | ⟨todo, fr1, σ1⟩ => match endX todo with
              | true => match markX (fr1.get fn.ntmps) with
                | some ds => match lvX cx M R ds σ1 with
                  | some σ2 => match resX cx ((fn.ntmps, .top) :: fr1) σ2 fn.results.toList with
                    | some v => some (v, σ2)
                    | none => none
                  | none => none
                | none => none
              | false => none
        | false => none
      | none => none
    | none => none
def GoesX (cx : Cx) (n : Nat) (df : Bool) (k : List XI) (fr : Fr) (σ : Heap) (R : Rx) : Prop := ∀ B Q, (df = true → B.df = true) → S cx n B (trX cx n B Q R.todo) Q R.fr R.σ → S cx n B (trX cx n B Q k) Q fr σ
def GOk (cx : Cx) (R : Gox) : Prop := ∀ n df k fr σ, GoesX cx n df k fr σ (R n df k fr σ)
theorem resX_ok {l : List ResultVar} {v : AV} (h : resX cx fr σ l = some v) : ∃ C vs, resAll cx fr σ l = some (C, vs) ∧ AllP C ∧ tupOf vs = v := by
  unfold resX at h
  split at h
  · rename_i hr
    split at h
    · rename_i hb; cases h; exact ⟨_, _, hr, resB_ok hr hb, rfl⟩
    · cases h
  · cases h
theorem S_endX {todo : List XI} (h : endX todo = true) (hn : Q .normal fr σ) (hr : Q .ret fr σ) : S cx n B (trX cx n B Q todo) Q fr σ := by
  match todo, h with
  | [], _ => exact S_nil hn
  | .code .ret :: r, _ => exact S_ret hr
theorem dfX_ok {M : Mx cx} {R : Gox} (hR : GOk cx R) {d : AV} {σ σ' : Heap} (h : dfX cx M R d σ = some σ') (P : Md → Heap → Prop) (hP : P .ret σ') : DCall cx d .ret σ P := by
  unfold dfX at h
  split at h
  case h_2 => cases h
  rename_i g first cap
  split at h
  case h_2 => cases h
  rename_i fn b htab
  obtain ⟨hf, he⟩ := M.ok g fn b htab
  split at h
  case h_2 => cases h
  rename_i id ops rest hb
  split at h
  case h_2 => cases h
  rename_i t ty ps af l hops
  split at h
  case h_2 => cases h
  rename_i hbb
  rw [Bool.and_eq_true] at hbb
  have hg := hR fn.ntmps false [.ops ops l [], .code rest] ((t, .nili) :: enterFr 0 (first ++ cap)) σ
  generalize R fn.ntmps false [.ops ops l [], .code rest] ((t, .nili) :: enterFr 0 (first ++ cap)) σ = X at h hg
  obtain ⟨todo, fr1, σ1⟩ := X
  simp only at h
  split at h
  case h_2 => cases h
  rename_i hend
  split at h
  case h_2 => cases h
  rename_i v hres
  cases h
  obtain ⟨C, vs, q1, q2, q3⟩ := resX_ok hres
  refine dcall_recover he hf hb rfl hbb.2 hops rfl rfl rfl hbb.1 rfl fun B => ?_
  exact hg B _ (fun h => by cases h) (S_endX hend ⟨C, vs, q1, q2, _, rfl, hP⟩ ⟨C, vs, q1, q2, _, rfl, hP⟩)
theorem lvX_ok {M : Mx cx} {R : Gox} (hR : GOk cx R) {fn : Func} {P : Out → Heap → Prop} {fr : Fr} {v : AV} : ∀ {ds : List AV} {σ σ' : Heap}, lvX cx M R ds σ = some σ' → resX cx fr σ' fn.results.toList = some v → P (.ret v) σ' → Lv cx fn P fr ds .ret σ
  | [], σ, σ', h, hr, hP => by
    cases h
    obtain ⟨C, vs, q1, q2, q3⟩ := resX_ok hr
    exact ⟨C, vs, q1, q2, by rw [q3]; exact hP⟩
  | d :: ds, σ, σ', h, hr, hP => by
    unfold lvX at h
    split at h
    · rename_i σ1 hd
      exact dfX_ok hR hd _ (lvX_ok hR h hr hP)
    · cases h
theorem callX_ok {M : Mx cx} {O : Ox cx} {F : Run} {R : Gox} (hF : FOk cx F) (hR : GOk cx R) : FOk cx (callX cx M O F R) := by
  intro g args σ v σ' h
  unfold callX at h
  split at h
  · rename_i ho; cases h; exact O.ok F hF _ _ _ _ _ ho
  split at h
  case h_2 => cases h
  rename_i fn df hfn
  obtain ⟨hf, he⟩ := M.ok g fn df hfn
  split at h
  case h_2 => cases h
  rename_i c hb
  split at h
  case h_2 => cases h
  rename_i ha
  split at h
  · have hg := hR fn.ntmps false [.code c] (enterFr 0 args) σ
    generalize R fn.ntmps false [.code c] (enterFr 0 args) σ = X at h hg
    obtain ⟨todo, fr1, σ1⟩ := X
    simp only at h
    split at h
    case h_2 => cases h
    rename_i hend
    split at h
    case h_2 => cases h
    rename_i u hres
    cases h
    obtain ⟨C, vs, q1, q2, rfl⟩ := resX_ok hres
    exact callOk_intro he hf hb rfl ha fun B => hg B _ (fun h => by cases h) (S_endX hend ⟨C, vs, q1, q2, rfl, rfl⟩ ⟨C, vs, q1, q2, rfl, rfl⟩)
  · have hg := hR fn.ntmps true [.code c] ((fn.ntmps, .mark []) :: enterFr 0 args) σ
    generalize R fn.ntmps true [.code c] ((fn.ntmps, .mark []) :: enterFr 0 args) σ = X at h hg
    obtain ⟨todo, fr1, σ1⟩ := X
    simp only at h
    split at h
    case h_2 => cases h
    rename_i hend
    split at h
    case h_2 => cases h
    rename_i ds hds
    split at h
    case h_2 => cases h
    rename_i σ2 hlv
    split at h
    case h_2 => cases h
    rename_i u hres
    cases h
    have hm : fr1.get fn.ntmps = .mark ds := by
      unfold markX at hds
      split at hds
      · rename_i e; cases hds; exact e
      · cases hds
    refine callOk_introD he hf hb rfl ha fun B hB => hg B _ (fun _ => hB) (S_endX hend ?_ ?_)
    · exact ⟨ds, hm, lvX_ok hR hlv hres ⟨rfl, rfl⟩⟩
    · exact ⟨ds, hm, lvX_ok hR hlv hres ⟨rfl, rfl⟩⟩
def haltX (k : List XI) (fr : Fr) (σ : Heap) : Rx := ⟨k, fr, σ⟩
def nextX (cx : Cx) (fr : Fr) (σ : Heap) : Op → Option (AV × Heap)
  | .next x true => match ev cx fr x with
    | .ptr id cur 0 => match σ[id]? with
      | some (c, some (.siter s pos)) => match Nat.beq c cur with
        | true => match Nat.blt pos s.length with
          | true => some (.tup [.bool true, .int .i64 pos, .int .i32 (decL s pos).1], σ.set id (cur, some (.siter s (pos + (decL s pos).2))))
          | false => some (.tup [.bool false], σ)
        | false => none
      | _ => none
    | _ => none
  | _ => none
def mnextX (cx : Cx) (fr : Fr) (σ : Heap) : Op → Option (AV × Heap)
  | .next x false => match ev cx fr x with
    | .ptr id cur 0 => match σ[id]? with
      | some (ver, some (.miter mid mv since seen last)) => match σ[mid]? with
        | some (mver, some (.map kvs (some (bs, c)))) => match Nat.beq ver cur && Nat.beq mv mver && bs.all (fun b => Nat.blt b since) && Nat.ble since last with
          | true => match bs, kvs with
            | [], _ => some (.tup [.bool false], σ)
            | [b], [(k, v)] => match memN b seen with
              | true => some (.tup [.bool false], σ)
              | false => some (.tup [.bool true, k, v], σ.set id (cur, some (.miter mid mv since (seen ++ [b]) c)))
            | _, _ => none
          | false => none
        | _ => none
      | _ => none
    | _ => none
  | _ => none
theorem mnextX_ok {all : Array Oper} {o : Oper} {l : List Oper} {K : List Nat} {v : AV} {σ' : Heap} {k : List AI} (h : mnextX cx fr σ o.op = some (v, σ')) (hg : guardA all o K fr = some true) (hd : dstOk n o.dst = true)
    (hk : S cx n B (.ops all l K :: k) Q (setA o.dst v fr) σ') : S cx n B (.ops all (o :: l) K :: k) Q fr σ := by
  unfold mnextX at h
  split at h
  case h_2 => cases h
  rename_i x ho
  split at h
  case h_2 => cases h
  rename_i hx
  split at h
  case h_2 => cases h
  rename_i hσ
  split at h
  case h_2 => cases h
  rename_i hσm
  split at h
  case h_2 => cases h
  rename_i hc
  simp only [Bool.and_eq_true] at hc
  obtain ⟨⟨⟨q1, q2⟩, q3⟩, q4⟩ := hc
  obtain rfl := Nat.eq_of_beq_eq_true q1
  obtain rfl := Nat.eq_of_beq_eq_true q2
  have hold := fun b hb => blt_lt (List.all_eq_true.1 q3 b hb)
  have hsl := Nat.le_of_ble_eq_true q4
  split at h
  · cases h
    exact S_mnext ho hx hσ hσm hold hsl hg hd (fun i b hi hb => by simp at hb) (fun _ => hk)
  · split at h
    · rename_i hm
      cases h
      exact S_mnext ho hx hσ hσm hold hsl hg hd (fun i b hi hb hn => by
        rcases i with _ | i
        · cases hb; exact absurd (memN_iff.1 hm) hn
        · simp at hb) (fun _ => hk)
    · rename_i hm
      cases h
      refine S_mnext ho hx hσ hσm hold hsl hg hd (fun i b hi hb hn => ?_) (fun hall => ?_)
      · rcases i with _ | i
        · cases hb; exact hk
        · simp at hb
      · have := memN_iff.2 (hall _ (List.mem_cons_self ..))
        rw [hm] at this; cases this
  · cases h
theorem nextX_ok {all : Array Oper} {o : Oper} {l : List Oper} {K : List Nat} {v : AV} {σ' : Heap} {k : List AI} (h : nextX cx fr σ o.op = some (v, σ')) (hg : guardA all o K fr = some true) (hd : dstOk n o.dst = true)
    (hk : S cx n B (.ops all l K :: k) Q (setA o.dst v fr) σ') : S cx n B (.ops all (o :: l) K :: k) Q fr σ := by
  unfold nextX at h
  split at h
  case h_2 => cases h
  rename_i x ho
  split at h
  case h_2 => cases h
  rename_i hx
  split at h
  case h_2 => cases h
  rename_i hσ
  split at h
  case h_2 => cases h
  rename_i hc
  obtain rfl := Nat.eq_of_beq_eq_true hc
  split at h
  · rename_i hp
    cases h
    exact S_next ho hx hσ hg hd (fun _ => hk) (fun h => absurd (blt_lt hp) (by omega))
  · rename_i hp
    cases h
    refine S_next ho hx hσ hg hd (fun h => ?_) (fun _ => hk)
    rw [show Nat.blt _ _ = true from Nat.ble_eq_true_of_le h] at hp
    cases hp
def invX (cx : Cx) (E : Ex cx) (F : Run) (fr : Fr) (σ : Heap) : Op → Option (AV × Heap)
  | .call { callee := .invoke recv name, args := az, .. } => match ev cx fr recv with
    | .iface T v => match E.meth T name with
      | some (f, none) => F f (v :: az.toList.map (ev cx fr)) σ
      | some (f, some el) => match v with
        | .ptr id ver off => match boxAt σ id with
          | some (cur, cs, _) => match Nat.beq cur ver, aLoad cx.P el (cs.drop off) with
            | true, some x => F f (x :: az.toList.map (ev cx fr)) σ
            | _, _ => none
          | none => none
        | _ => none
      | none => none
    | _ => none
  | _ => none
theorem invX_ok {E : Ex cx} {F : Run} (hF : FOk cx F) {all : Array Oper} {o : Oper} {l : List Oper} {K : List Nat} {v : AV} {σ' : Heap} {k : List AI} (h : invX cx E F fr σ o.op = some (v, σ')) (hg : guardA all o K fr = some true) (hd : dstOk n o.dst = true)
    (hk : S cx n B (.ops all l K :: k) Q (setA o.dst v fr) σ') : S cx n B (.ops all (o :: l) K :: k) Q fr σ := by
  unfold invX at h
  split at h
  case h_2 => cases h
  rename_i ho
  split at h
  case h_2 => cases h
  rename_i hrv
  split at h
  · rename_i hm
    exact S_invoke1 ho hrv (.val (E.methOk _ _ _ hm)) rfl (hF _ _ _ _ _ h) hg hd hk
  · rename_i hm
    split at h
    case h_2 => cases h
    split at h
    case h_2 => cases h
    rename_i hb
    split at h
    · rename_i hv hl
      obtain rfl := Nat.eq_of_beq_eq_true hv
      exact S_invoke1 ho hrv (.load (E.methLk _ _ _ _ hm) hb hl) rfl (hF _ _ _ _ _ h) hg hd hk
    · cases h
  · cases h
def defX (cx : Cx) (fr : Fr) (n : Nat) (df : Bool) (o : Op) : Option (AV × List AV) := match df with
  | true => match deferA cx fr o with
    | some d => match markX (fr.get n) with
      | some ds => some (d, ds)
      | none => none
    | none => none
  | false => none
theorem defX_ok {df : Bool} {o : Op} {d : AV} {ds : List AV} (h : defX cx fr n df o = some (d, ds)) : df = true ∧ deferA cx fr o = some d ∧ fr.get n = .mark ds := by
  unfold defX at h
  split at h
  case h_2 => cases h
  split at h
  case h_2 => cases h
  rename_i hd
  split at h
  case h_2 => cases h
  rename_i hm
  cases h
  refine ⟨rfl, hd, ?_⟩
  unfold markX at hm
  split at hm
  · rename_i e; cases hm; exact e
  · cases hm
def forO : Op → Bool
  | .call { callee := .builtin b, .. } => chgX (.call { callee := .builtin b, args := #[], argTypes := #[] })
  | .call _ => false
  | o => chgX o
noncomputable def slowX (cx : Cx) (E : Ex cx) (F : Run) (R : Gox) (n : Nat) (df : Bool) (all : Array Oper) (o : Oper) (r : List Oper) (K : List Nat) (k : List XI) (fr : Fr) (σ : Heap) : Rx :=
  match nextX cx fr σ o.op with
  | some (v, σ') => forceV v fun v => forceL σ' fun σ' => setC o.dst v fr fun fr => R n df (.ops all r K :: k) fr σ'
  | none => match mnextX cx fr σ o.op with
    | some (v, σ') => forceV v fun v => forceL σ' fun σ' => setC o.dst v fr fun fr => R n df (.ops all r K :: k) fr σ'
    | none => match invX cx E F fr σ o.op with
      | some (v, σ') => forceV v fun v => forceL σ' fun σ' => setC o.dst v fr fun fr => R n df (.ops all r K :: k) fr σ'
      | none => match defX cx fr n df o.op with
        | some (d, ds) => R n df (.ops all r K :: k) ((n, .mark (d :: ds)) :: setA o.dst (.tup []) fr) σ
        | none => haltX (.ops all (o :: r) K :: k) fr σ
noncomputable def doX (cx : Cx) (E : Ex cx) (F : Run) (R : Gox) (n : Nat) (df : Bool) (all : Array Oper) (o : Oper) (r : List Oper) (K : List Nat) (k : List XI) (fr : Fr) (σ : Heap) : Rx :=
  match stepB cx E F o fr σ with
  | some (v, σ') => forceV v fun v => forceIf (forO o.op) σ' fun σ' => setC o.dst v fr fun fr => R n df (.ops all r K :: k) fr σ'
  | none => slowX cx E F R n df all o r K k fr σ
noncomputable def opsX (cx : Cx) (E : Ex cx) (F : Run) (R : Gox) (n : Nat) (df : Bool) (all : Array Oper) (o : Oper) (r : List Oper) (K : List Nat) (k : List XI) (fr : Fr) (σ : Heap) : Rx :=
  match o.guard with
  | none => doX cx E F R n df all o r K k fr σ
  | some _ => match guardA all o K fr with
    | none => match gdSlot all o fr with
      | some (d, b) => match b with
        | true => R n df (.ops all (o :: r) (d :: K) :: k) ((d, .bool true) :: fr) σ
        | false => R n df (.ops all (o :: r) (d :: K) :: k) ((d, .bool false) :: fr) σ
      | none => haltX (.ops all (o :: r) K :: k) fr σ
    | some false => setC o.dst (.tup []) fr fun fr => R n df (.ops all r K :: k) fr σ
    | some true => doX cx E F R n df all o r K k fr σ
noncomputable def drwX (cx : Cx) (E : Ex cx) (F : Run) (R : Gox) (n : Nat) (df : Bool) (id : Nat) (ops : Array Oper) (k : List XI) (fr : Fr) (σ : Heap) : Rx := match drawX cx E (stepB cx E F) n ops fr σ with
  | some (fr', σ') => R n df k fr' σ'
  | none => haltX (.code (.region id ops true) :: k) fr σ
noncomputable def cndX (cx : Cx) (R : Gox) (n : Nat) (df : Bool) (c : Operand) (x y : Code) (k : List XI) (fr : Fr) (σ : Heap) : Rx := match evB cx fr c with
  | .bool b => match b with
    | true => R n df (.code x :: k) fr σ
    | false => R n df (.code y :: k) fr σ
  | _ => haltX (.code (.cond c x y) :: k) fr σ
def extX (R : Gox) (n : Nat) (df : Bool) (id : Nat) (k : List XI) (fr : Fr) (σ : Heap) : Rx := match popX id k with
  | some k' => R n df k' fr σ
  | none => haltX (.code (.exit id) :: k) fr σ
noncomputable def codeX (cx : Cx) (E : Ex cx) (F : Run) (R : Gox) (n : Nat) (df : Bool) (c : Code) (k : List XI) (fr : Fr) (σ : Heap) : Rx := match c with
  | .skip => R n df k fr σ
  | .label _ => R n df k fr σ
  | .seq a b => R n df (.code a :: .code b :: k) fr σ
  | .block id c => R n df (.code c :: .blk id :: k) fr σ
  | .loop c => dupB fr 0 [] fun fr => R n df (.code c :: .lp c :: k) fr σ
  | .region id ops draw => match draw with
    | false => R n df (.ops ops ops.toList [] :: k) fr σ
    | true => drwX cx E F R n df id ops k fr σ
  | .exit id => extX R n df id k fr σ
  | .cond c x y => cndX cx R n df c x y k fr σ
  | c => haltX (.code c :: k) fr σ
noncomputable def bodyX (cx : Cx) (E : Ex cx) (F : Run) (R : Gox) (n : Nat) (df : Bool) (k : List XI) (fr : Fr) (σ : Heap) : Rx :=
  match k with
  | [] => haltX [] fr σ
  | x :: k => match x with
    | .code c => codeX cx E F R n df c k fr σ
    | .blk _ => R n df k fr σ
    | .lp c => dupB fr 0 [] fun fr => R n df (.code c :: .lp c :: k) fr σ
    | .ops all l K => match l with
      | [] => R n df k fr σ
      | o :: r => match dstOk n o.dst with
        | false => haltX (.ops all (o :: r) K :: k) fr σ
        | true => opsX cx E F R n df all o r K k fr σ
theorem GoesX.here {df : Bool} {k : List XI} : GoesX cx n df k fr σ (haltX k fr σ) := fun _ _ _ => id
theorem GoesX.one {df : Bool} {k k' : List XI} {fr fr' : Fr} {σ σ' : Heap} {R : Rx} (h : GoesX cx n df k' fr' σ' R) (hs : ∀ B Q, (df = true → B.df = true) → S cx n B (trX cx n B Q k') Q fr' σ' → S cx n B (trX cx n B Q k) Q fr σ) : GoesX cx n df k fr σ R := fun B Q hB q => hs B Q hB (h B Q hB q)
theorem opsX_ok {E : Ex cx} {F : Run} (hF : FOk cx F) {R : Gox} (hR : GOk cx R) (n : Nat) (df : Bool) {all : Array Oper} {o : Oper} {r : List Oper} {K : List Nat} {k : List XI} (hd : dstOk n o.dst = true) (fr : Fr) (σ : Heap) : GoesX cx n df (.ops all (o :: r) K :: k) fr σ (opsX cx E F R n df all o r K k fr σ) := by
  have hdo : guardA all o K fr = some true → GoesX cx n df (.ops all (o :: r) K :: k) fr σ (doX cx E F R n df all o r K k fr σ) := fun hg => by
    unfold doX
    split
    · rename_i v σ' hs
      simp only [forceV_eq, forceIf_eq, setC_eq]
      exact (hR _ _ _ _ _).one fun B Q hB hk => S_stepX (stepO_ok hF hd hg (stepB_ok hs)) hk
    · unfold slowX
      split
      · rename_i v σ' hs
        simp only [forceV_eq, forceL_eq, setC_eq]
        exact (hR _ _ _ _ _).one fun B Q hB hk => nextX_ok hs hg hd hk
      split
      · rename_i v σ' hs
        simp only [forceV_eq, forceL_eq, setC_eq]
        exact (hR _ _ _ _ _).one fun B Q hB hk => mnextX_ok hs hg hd hk
      split
      · rename_i v σ' hs
        simp only [forceV_eq, forceL_eq, setC_eq]
        exact (hR _ _ _ _ _).one fun B Q hB hk => invX_ok hF hs hg hd hk
      split
      · rename_i d ds hdf
        obtain ⟨q1, q2, q3⟩ := defX_ok hdf
        exact (hR _ _ _ _ _).one fun B Q hB hk => S_defer q2 hg hd q3 (hB q1) hk
      · exact .here
  unfold opsX
  split
  · rename_i hng
    exact hdo (by unfold guardA; rw [hng])
  split
  · rename_i hg
    split
    · rename_i d b hgd
      obtain ⟨j, want, oj, e1, e2, e3, e4⟩ := gdSlot_some hgd
      split
      · exact (hR _ _ _ _ _).one fun B Q hB hk => S_guard e1 e2 e3 e4 (fun _ => hk) (fun h => by cases h)
      · exact (hR _ _ _ _ _).one fun B Q hB hk => S_guard e1 e2 e3 e4 (fun h => by cases h) (fun _ => hk)
    · exact .here
  · rename_i hg
    rw [setC_eq]
    exact (hR _ _ _ _ _).one fun B Q _ => S_op_skip hg hd
  · rename_i hg
    exact hdo hg
theorem bodyX_ok {E : Ex cx} {F : Run} (hF : FOk cx F) {R : Gox} (hR : GOk cx R) (n : Nat) (df : Bool) (k : List XI) (fr : Fr) (σ : Heap) : GoesX cx n df k fr σ (bodyX cx E F R n df k fr σ) := by
  unfold bodyX
  split
  · exact .here
  split
  · rename_i k' _ c
    unfold codeX
    split
    · exact (hR _ _ _ _ _).one fun B Q _ => S_skip
    · exact (hR _ _ _ _ _).one fun B Q _ => S_label
    · exact (hR _ _ _ _ _).one fun B Q _ => S_seq
    · exact (hR _ _ _ _ _).one fun B Q _ => S_block
    · rename_i c
      obtain ⟨fr', h1, h2⟩ := dupB_spec fr fun fr => R n df (.code c :: .lp c :: k') fr σ
      rw [h1]
      exact (hR _ _ _ _ _).one fun B Q hB hk => S_code_weak h2 (S_loopX hk)
    · rename_i id ops draw
      split
      · exact (hR _ _ _ _ _).one fun B Q _ => S_region
      · unfold drwX
        split
        · rename_i fr' σ' hd
          exact (hR _ _ _ _ _).one fun B Q hB hk => drawX_ok hF (fun _ _ _ _ _ => stepB_ok) hd hk
        · exact .here
    · rename_i id
      unfold extX
      split
      · rename_i k'' hp
        exact (hR _ _ _ _ _).one fun B Q _ => S_exit (popX_tr hp)
      · exact .here
    · rename_i c x y
      unfold cndX
      rw [evB_eq]
      split
      · rename_i b hb
        split
        · exact (hR _ _ _ _ _).one fun B Q hB hk => S_cond hb (fun _ => hk) (fun h => by cases h)
        · exact (hR _ _ _ _ _).one fun B Q hB hk => S_cond hb (fun h => by cases h) (fun _ => hk)
      · exact .here
    · exact .here
  · exact (hR _ _ _ _ _).one fun B Q _ => S_blk
  · rename_i k' _ c
    obtain ⟨fr', h1, h2⟩ := dupB_spec fr fun fr => R n df (.code c :: .lp c :: k') fr σ
    rw [h1]
    refine (hR _ _ _ _ _).one fun B Q hB hk => ?_
    exact S_lp (S_code_weak h2 hk)
  · split
    · exact (hR _ _ _ _ _).one fun B Q _ => S_ops_nil
    · split
      · exact .here
      · rename_i hd
        exact opsX_ok hF hR n df hd fr σ
noncomputable def runX (cx : Cx) (E : Ex cx) (M : Mx cx) (O : Ox cx) : Nat → Run × Gox
  | 0 => (fun _ _ _ => none, fun _ _ k fr σ => haltX k fr σ)
  | f + 1 => (callX cx M O (runX cx E M O f).1 (runX cx E M O f).2, bodyX cx E (runX cx E M O f).1 (runX cx E M O f).2)
theorem runX_ok {E : Ex cx} {M : Mx cx} {O : Ox cx} : ∀ (f : Nat), FOk cx (runX cx E M O f).1 ∧ GOk cx (runX cx E M O f).2
  | 0 => ⟨fun _ _ _ _ _ h => by (cases h), fun _ _ _ _ _ => .here⟩
  | f + 1 => ⟨callX_ok (runX_ok f).1 (runX_ok f).2, bodyX_ok (runX_ok f).1 (runX_ok f).2⟩
theorem ranX {E : Ex cx} {M : Mx cx} {O : Ox cx} (f : Nat) {g : FuncId} {args : List AV} {v : AV} {σ' : Heap} (h : (runX cx E M O f).1 g args σ = some (v, σ')) : CallOk cx g args σ (fun e s => e = .ret v ∧ s = σ') := (runX_ok f).1 g args σ v σ' h
end
end Go.Ab
end
section
set_option linter.unusedVariables false
set_option linter.unusedSimpArgs false
namespace Go.Ab
open Go
theorem Calc.over {cx : Cx} {f : FuncId} {args args' : List AV} {res : AV} {σ : Heap} (hp : Calc cx f args' res) (hz : Frzs σ args args') : CallOk cx f args σ (fun o s => o = .ret res ∧ s = σ) := by
  refine ⟨hp.call.1, fun r w vs hi hv => ?_⟩
  have hvs : VRels { S := r.S, I := fun b => r.I b ∨ Live r σ b, ρ := fun _ _ => none } w vs args' := by
    refine ⟨hv.1.trans hz.1, fun i hi' => ?_⟩
    exact (hz.2 i (by rw [hz.1]; exact hi') hi').rel (r' := { S := r.S, I := fun b => r.I b ∨ Live r σ b, ρ := fun _ _ => none }) hi (fun b h => h) (fun b h => Or.inl (hi.SI b h)) (fun _ b h => Or.inl h) (fun b h => ⟨Or.inr h, fun h => by cases h⟩) (hv.2 i (by rw [hz.1]; exact hi'))
  refine (hp.call.2 _ w vs hi.empty hvs).mono fun e w' ⟨out, σ', r1, ⟨ho, hσ'⟩, hor, hi1, hx1⟩ => ?_
  subst ho; subst hσ'
  cases e with
  | returned u =>
    obtain ⟨hi2, hx2⟩ := after_pure hi hi1 hx1
    have hu : VRel r1 w' u res := hor
    exact ⟨_, _, { S := r1.S, I := fun b => r.I b ∨ r1.S b, ρ := r.ρ }, ⟨rfl, rfl⟩, hu.free hp.free (fun b h => h) (fun b h => .inr h) (fun h => by cases h), hi2, hx2⟩
  | panicked chain => exact hor.elim
  | outgrown => exact hor.elim
end Go.Ab
end
section
set_option linter.unusedVariables false
set_option linter.unusedSimpArgs false
namespace Go.Ab
open Go
mutual
def freeB (st : Bool) : AV → Bool
  | .top => true
  | .bool _ => true
  | .int .. => true
  | .str _ => true
  | .nilp => true
  | .nils => true
  | .nilm => true
  | .nilf => true
  | .nili => true
  | .rp b cs => (!st || b) && freeBs st cs
  | .sl b _ _ xs => (!st || b) && freeBs st xs
  | .iface _ v => freeB st v
  | .agg cs => freeBs st cs
  | .tup cs => freeBs st cs
  | .func _ a b => freeBs st a && freeBs st b
  | .ptr .. => false
  | .eptr .. => false
  | .ms .. => false
  | .map .. => false
  | .mark _ => false
def freeBs (st : Bool) : List AV → Bool
  | [] => true
  | x :: r => freeB st x && freeBs st r
end
theorem notOr {a b : Bool} (h : (!a || b) = true) : a = true → b = true := by
  cases a <;> simp_all
mutual
theorem freeB_ok {st : Bool} : ∀ (a : AV), freeB st a = true → Free st a
  | .top, _ => .top
  | .bool _, _ => .bool
  | .int .., _ => .int
  | .str _, _ => .str
  | .nilp, _ => .nilp
  | .nils, _ => .nils
  | .nilm, _ => .nilm
  | .nilf, _ => .nilf
  | .nili, _ => .nili
  | .rp b cs, h => by
    unfold freeB at h
    rw [Bool.and_eq_true] at h
    exact .rp (notOr h.1) (freeBs_ok cs h.2)
  | .sl b _ _ xs, h => by
    unfold freeB at h
    rw [Bool.and_eq_true] at h
    exact .sl (notOr h.1) (freeBs_ok xs h.2)
  | .iface _ v, h => by unfold freeB at h; exact .iface (freeB_ok v h)
  | .agg cs, h => by unfold freeB at h; exact .agg (freeBs_ok cs h)
  | .tup cs, h => by unfold freeB at h; exact .tup (freeBs_ok cs h)
  | .func _ a b, h => by
    unfold freeB at h
    rw [Bool.and_eq_true] at h
    exact .func (freeBs_ok a h.1) (freeBs_ok b h.2)
theorem freeBs_ok {st : Bool} : ∀ (l : List AV), freeBs st l = true → ∀ x ∈ l, Free st x
  | [], _ => fun x h => by cases h
  | y :: r, h => by
    unfold freeBs at h
    rw [Bool.and_eq_true] at h
    intro x hx
    rcases List.mem_cons.1 hx with e | hx
    · rw [e]; exact freeB_ok y h.1
    · exact freeBs_ok r h.2 x hx
end
def all2 (f : AV → AV → Bool) : List AV → List AV → Bool
  | [], b => match b with | [] => true | _ => false
  | x :: r, b => match b with | y :: s => f x y && all2 f r s | _ => false
theorem all2_spec {f : AV → AV → Bool} : ∀ {a b : List AV}, all2 f a b = true → a.length = b.length ∧ ∀ i (h : i < a.length) (h' : i < b.length), f a[i] b[i] = true
  | [], b, h => by
    unfold all2 at h
    split at h
    · exact ⟨rfl, fun i h => absurd h (by simp)⟩
    · cases h
  | x :: r, b, h => by
    unfold all2 at h
    split at h
    · rename_i y s
      rw [Bool.and_eq_true] at h
      obtain ⟨q1, q2⟩ := all2_spec h.2
      refine ⟨by simp [q1], fun i h1 h2 => ?_⟩
      match i, h1, h2 with
      | 0, _, _ => exact h.1
      | i + 1, h1, h2 => exact q2 i (by simpa using h1) (by simpa using h2)
    · cases h
def szAll (sz : Nat) (xs : List AV) : Bool := xs.all fun x => Nat.beq x.cells.length sz
theorem szAll_ok {sz : Nat} {xs : List AV} (h : szAll sz xs = true) : ∀ x ∈ xs, x.cells.length = sz := fun x hx => Nat.eq_of_beq_eq_true (List.all_eq_true.1 h x hx)
def fzB (σ : Heap) : Nat → AV → AV → Bool
  | 0, _, _ => false
  | n + 1, a, b => match a with
    | .ms id ver off len sz _ => match b with
      | .sl true false z xs => match boxAt σ id with
        | some (cur, cs, _) => Nat.beq z sz && Nat.beq cur ver && Nat.ble (off + len * sz) cs.length && szAll sz xs && Nat.beq xs.length len && all2 (fzB σ n) ((cs.drop off).take (len * sz)) (xs.flatMap AV.cells)
        | none => false
      | _ => false
    | .ptr id ver off => match b with
      | .rp true zs => match boxAt σ id with
        | some (cur, cs, _) => Nat.beq cur ver && all2 (fzB σ n) (cs.drop off) zs
        | none => false
      | _ => false
    | .nils => match b with
      | .nils => true
      | .sl _ _ _ [] => true
      | _ => false
    | .func f x c => match b with
      | .func g y d => eqF f g && all2 (fzB σ n) x y && all2 (fzB σ n) c d
      | _ => false
    | .agg x => match b with
      | .agg y => all2 (fzB σ n) x y
      | _ => false
    | .tup x => match b with
      | .tup y => all2 (fzB σ n) x y
      | _ => false
    | a => eqV a b && freeB false a
theorem fzB_ok {σ : Heap} : ∀ (n : Nat) (a b : AV), fzB σ n a b = true → FzT 0 σ a b
  | 0, _, _, h => by cases h
  | n + 1, a, b, h => by
    unfold fzB at h
    split at h
    · split at h
      · split at h
        · rename_i hb
          simp only [Bool.and_eq_true] at h
          obtain ⟨⟨⟨⟨⟨q1, q2⟩, q3⟩, q4⟩, q5⟩, q6⟩ := h
          obtain rfl := Nat.eq_of_beq_eq_true q1
          obtain rfl := Nat.eq_of_beq_eq_true q2
          obtain ⟨k1, k2⟩ := all2_spec q6
          exact .ms (Nat.zero_le _) hb (Nat.le_of_ble_eq_true q3) rfl (szAll_ok q4) (Nat.eq_of_beq_eq_true q5) k1 (fun i h1 h2 => fzB_ok n _ _ (k2 i h1 h2))
        · cases h
      · cases h
    · split at h
      · split at h
        · rename_i hb
          simp only [Bool.and_eq_true] at h
          obtain rfl := Nat.eq_of_beq_eq_true h.1
          obtain ⟨k1, k2⟩ := all2_spec h.2
          exact .ptr (Nat.zero_le _) hb rfl k1 (fun i h1 h2 => fzB_ok n _ _ (k2 i h1 h2))
        · cases h
      · cases h
    · split at h
      · exact .low .nils
      · exact .nils
      · cases h
    · split at h
      · simp only [Bool.and_eq_true] at h
        obtain ⟨⟨q1, q2⟩, q3⟩ := h
        obtain rfl := eqF_eq q1
        obtain ⟨k1, k2⟩ := all2_spec q2
        obtain ⟨k3, k4⟩ := all2_spec q3
        exact .func k1 (fun i h1 h2 => fzB_ok n _ _ (k2 i h1 h2)) k3 (fun i h1 h2 => fzB_ok n _ _ (k4 i h1 h2))
      · cases h
    · split at h
      · obtain ⟨k1, k2⟩ := all2_spec h
        exact .agg k1 (fun i h1 h2 => fzB_ok n _ _ (k2 i h1 h2))
      · cases h
    · split at h
      · obtain ⟨k1, k2⟩ := all2_spec h
        exact .tup k1 (fun i h1 h2 => fzB_ok n _ _ (k2 i h1 h2))
      · cases h
    · rw [Bool.and_eq_true] at h
      obtain rfl := eqV_eq _ _ h.1
      exact .low (Low.free (freeB_ok _ h.2))
def frzB (σ : Heap) : Nat → AV → AV → Bool
  | 0, _, _ => false
  | n + 1, a, b => match a with
    | .ms id ver off len sz _ => match b with
      | .sl false false z xs => match boxAt σ id with
        | some (cur, cs, _) => Nat.beq z sz && Nat.beq cur ver && Nat.ble (off + len * sz) cs.length && szAll sz xs && Nat.beq xs.length len && freeBs false xs && eqVs ((cs.drop off).take (len * sz)) (xs.flatMap AV.cells)
        | none => false
      | _ => false
    | .nils => match b with
      | .nils => true
      | .sl _ _ _ [] => true
      | _ => false
    | .sl s fl sz xs => match b with
      | .sl s' fl' z ys => Nat.beq sz z && eqVs xs ys && freeBs false xs && (match s' with
        | false => !fl' || fl
        | true => s && (match fl' with | false => true | true => fl))
      | _ => false
    | .agg x => match b with
      | .agg y => all2 (frzB σ n) x y
      | _ => false
    | .tup x => match b with
      | .tup y => all2 (frzB σ n) x y
      | _ => false
    | a => eqV a b && freeB false a
theorem frzB_ok {σ : Heap} : ∀ (n : Nat) (a b : AV), frzB σ n a b = true → Frz false σ a b
  | 0, _, _, h => by cases h
  | n + 1, a, b, h => by
    unfold frzB at h
    split at h
    · split at h
      · split at h
        · rename_i hb
          simp only [Bool.and_eq_true] at h
          obtain ⟨⟨⟨⟨⟨⟨q1, q2⟩, q3⟩, q4⟩, q5⟩, q6⟩, q7⟩ := h
          obtain rfl := Nat.eq_of_beq_eq_true q1
          obtain rfl := Nat.eq_of_beq_eq_true q2
          exact .ms hb (Nat.le_of_ble_eq_true q3) (eqVs_eq _ _ q7) (szAll_ok q4) (Nat.eq_of_beq_eq_true q5) (freeBs_ok _ q6)
        · cases h
      · cases h
    · split at h
      · exact .refl .nils
      · exact .nils
      · cases h
    · split at h
      · simp only [Bool.and_eq_true] at h
        obtain ⟨⟨⟨q1, q2⟩, q3⟩, q4⟩ := h
        obtain rfl := Nat.eq_of_beq_eq_true q1
        obtain rfl := eqVs_eq _ _ q2
        split at q4
        · exact .lend rfl (notOr q4) (freeBs_ok _ q3)
        · rw [Bool.and_eq_true] at q4
          obtain ⟨rfl, h5⟩ := q4
          split at h5
          · exact .full (fun h => by cases h) (freeBs_ok _ q3)
          · subst h5
            exact .refl (.sl (fun h => by cases h) (freeBs_ok _ q3))
      · cases h
    · split at h
      · obtain ⟨k1, k2⟩ := all2_spec h
        exact .agg k1 (fun i h1 h2 => frzB_ok n _ _ (k2 i h1 h2))
      · cases h
    · split at h
      · obtain ⟨k1, k2⟩ := all2_spec h
        exact .tup k1 (fun i h1 h2 => frzB_ok n _ _ (k2 i h1 h2))
      · cases h
    · rw [Bool.and_eq_true] at h
      obtain rfl := eqV_eq _ _ h.1
      exact .refl (freeB_ok _ h.2)
section
variable {cx : Cx}
def calcB (x : Option (AV × Heap)) (res : AV) : Bool := match x with
  | some (v, σ) => fzB σ 30 v res && freeB true res
  | none => false
theorem ran_calc {E : Ex cx} {M : Mx cx} {O : Ox cx} (f : Nat) {g : FuncId} {args : List AV} {res : AV} (h : calcB ((runX cx E M O f).1 g args []) res = true) : Calc cx g args res := by
  unfold calcB at h
  split at h
  · rename_i v σ' hr
    rw [Bool.and_eq_true] at h
    refine ⟨freeB_ok _ h.2, callOk_trunc ((ranX f hr).mono ?_)⟩
    rintro o s ⟨rfl, rfl⟩
    exact ⟨0, Nat.le_refl _, fun id ver x hid _ => absurd hid (by omega), res, fzB_ok _ _ _ h.1, rfl, rfl⟩
  · cases h
abbrev Known (cx : Cx) := { p : FuncId × List AV × AV // Calc cx p.1 p.2.1 p.2.2 }
def lookP : List (Known cx) → Heap → FuncId → List AV → Option AV
  | [], _, _, _ => none
  | p :: r, σ, g, args => match Nat.beq p.1.1 g with
    | true => match all2 (frzB σ 9) args p.1.2.1 with
      | true => some p.1.2.2
      | false => lookP r σ g args
    | false => lookP r σ g args
theorem lookP_ok : ∀ (l : List (Known cx)) (σ : Heap) (g : FuncId) (args : List AV) (v : AV), lookP l σ g args = some v → CallOk cx g args σ (fun o s => o = .ret v ∧ s = σ)
  | [], _, _, _, _, h => by cases h
  | p :: r, σ, g, args, v, h => by
    unfold lookP at h
    split at h
    · rename_i hb
      split at h
      · rename_i ha
        cases h
        obtain rfl := Nat.eq_of_beq_eq_true hb
        obtain ⟨k1, k2⟩ := all2_spec ha
        exact p.2.over ⟨k1, fun i h1 h2 => frzB_ok _ _ _ (k2 i h1 h2)⟩
      · exact lookP_ok r σ g args v h
    · exact lookP_ok r σ g args v h
end
end Go.Ab
end
section
set_option linter.unusedVariables false
set_option linter.unusedSimpArgs false
set_option maxRecDepth 20000
namespace Go.Proofs.YtjcjaonfhlfnaaaGreatDoor
open Go Go.Ab
section
variable {cx : Cx} {n : Nat} {B : Bs} {k : List AI} {Q : Post} {fr : Fr} {σ : Heap}
theorem after_goto {l : Nat} : ∀ k : List AI, after cx n B k Q (.goto l) = Q (.goto l)
  | [] => rfl
  | .code c :: k => after_goto k
  | .blk id :: k => after_goto k
  | .ops all l' K :: k => after_goto k
  | .inv M :: k => after_goto k
theorem S_scope {c : Code} (hQ : ∀ l fr σ, ¬ Q (.goto l) fr σ) (h : S cx n B (.code c :: k) Q fr σ) : S cx n B (.code (.scope c) :: k) Q fr σ := by
  intro r a w hi hf hd hx
  refine wp_scope_straight (wp_mono (h r a w hi hf hd hx) fun e a w hq => ?_)
  obtain ⟨ae, fr', σ', r', hq, he, hi', hf', hd', hx'⟩ := hq
  cases e <;> cases ae <;> first | exact he.elim | exact Lift.mk hq he hi' hf' hd' hx' | exact hQ _ _ _ ((congrFun (congrFun (after_goto k) fr') σ').mp hq)
theorem S_ext {all : Array Oper} {o : Oper} {l : List Oper} {K : List Nat} {f : FuncId} {args : List AV} {res : AV}
    (hext : ∀ (r : Rl) (w : World) (vs : Array Value), VRels r w vs args → ∃ v, (callFunc f vs).run cx.P w = .ok (.value v) w ∧ VRel r w v res) (hc : callA cx fr o.op = some (f, args)) (hg : guardA all o K fr = some true)
    (hd : dstOk n o.dst = true) (hk : S cx n B (.ops all l K :: k) Q (setA o.dst res fr) σ) : S cx n B (.ops all (o :: l) K :: k) Q fr σ := by
  refine S_do hg hd (fun r a w hi hf => ?_) hk
  obtain ⟨vs, h1, h2⟩ := callA_go hi hf hc
  obtain ⟨v, h3, h4⟩ := hext r w vs h2
  exact ⟨r, w, v, .inl (by rw [h1, h3]), h4, hi, Ext.refl _ _ _⟩
end
theorem ixb (s : List UInt8) (c : Int) (r : Rl) (w : World) (vs : Array Value) (h : VRels r w vs [.str s, .int .u8 c]) :
    ∃ v, (callFunc 275 vs).run cx.P w = .ok (.value v) w ∧ VRel r w v (.int .i64 (Lib.indexByte s c.toNat.toUInt8)) := by
  obtain ⟨hs, hv⟩ := h
  obtain ⟨x, y, rfl⟩ : ∃ x y, vs = #[x, y] := by
    rcases vs with ⟨l⟩
    match l, hs with
    | [x, y], _ => exact ⟨x, y, rfl⟩
  have h0 := hv 0 (by simp)
  have h1 := hv 1 (by simp)
  simp only [List.getElem_cons_zero, List.getElem_cons_succ] at h0 h1
  have h0 : VRel r w x (.str s) := h0
  have h1 : VRel r w y (.int .u8 c) := h1
  cases h0 with
  | str h =>
    subst h
    cases h1
    refine ⟨_, ?_, .int⟩
    show (callFunc 275 _).run Tryz.prog w = _
    rw [run_callFunc_extern Tryz.func275 rfl rfl rfl (e := Extern.BytealgIndexByte.indexByte) rfl, Lib.run_indexByteString]
    rfl
theorem indexByteS_ok (s : List UInt8) (c : Int) : Calc cx 228 [.str s, .int .u8 c] (.int .i64 (Lib.indexByte s c.toNat.toUInt8)) :=
  pure_intro (fun a w => Tryz.call228 a w) Tryz.func228 rfl Tryz.ntmps228 rfl .int fun B => by
    refine ab 1000 rfl trivial ?_
    refine S_ext (ixb s c) rfl rfl rfl ?_
    refine ab 1000 rfl trivial ?_
    exact S_retc .int rfl trivial rfl
theorem indexByte_ok (s : List UInt8) (c : Int) : Calc cx 166 [.str s, .int .u8 c] (.int .i64 (Lib.indexByte s c.toNat.toUInt8)) :=
  pure_intro (fun a w => Tryz.call166 a w) Tryz.func166 rfl Tryz.ntmps166 rfl .int fun B => by
    refine ab 1000 rfl trivial ?_
    refine S_pure rfl rfl rfl (indexByteS_ok s c) (.cons (.refl .str) (.cons (.refl .int) (.nil _))) ?_
    refine ab 1000 rfl trivial ?_
    exact S_retc .int rfl trivial rfl
end Go.Proofs.YtjcjaonfhlfnaaaGreatDoor
end
section
set_option linter.unusedVariables false
set_option linter.unusedSimpArgs false
set_option maxRecDepth 20000
namespace Go.Proofs.YtjcjaonfhlfnaaaGreatDoor
open Go Go.Ab
theorem validRune_ok (r : Int) : Calc cx 202 [.int .i32 r] (.bool (decide ((0 ≤ r ∧ r < 55296) ∨ (57343 < r ∧ r ≤ 1114111)))) :=
  pure_intro (fun a w => Tryz.call202 a w) Tryz.func202 rfl Tryz.ntmps202 rfl .bool fun B => by
    have yes : ((0 ≤ r ∧ r < 55296) ∨ (57343 < r ∧ r ≤ 1114111)) → AV.bool true = .bool (decide ((0 ≤ r ∧ r < 55296) ∨ (57343 < r ∧ r ≤ 1114111))) := fun h => by rw [decide_eq_true h]
    have no : ¬ ((0 ≤ r ∧ r < 55296) ∨ (57343 < r ∧ r ≤ 1114111)) → AV.bool false = .bool (decide ((0 ≤ r ∧ r < 55296) ∨ (57343 < r ∧ r ≤ 1114111))) := fun h => by rw [decide_eq_false h]
    have second : ∀ (h : ¬ (0 ≤ r ∧ r < 55296)), True := fun _ => trivial
    refine ab 1000 rfl trivial ?_
    refine S_guard rfl rfl rfl rfl (fun h => ?_) (fun h => ?_)
    · have h := of_decide_eq_true h
      refine ab 1000 rfl trivial ?_
      refine S_dec rfl (fun h2 => ?_) (fun h2 => ?_)
      · refine ab 1000 rfl trivial ?_
        exact S_retc .bool rfl trivial (yes (by omega))
      · refine ab 1000 rfl trivial ?_
        refine S_guard rfl rfl rfl rfl (fun h3 => ?_) (fun h3 => ?_)
        · have h3 := of_decide_eq_true h3
          refine ab 1000 rfl trivial ?_
          refine S_dec rfl (fun h4 => ?_) (fun h4 => ?_)
          · refine ab 1000 rfl trivial ?_
            exact S_retc .bool rfl trivial (yes (by omega))
          · refine ab 1000 rfl trivial ?_
            exact S_retc .bool rfl trivial (no (by omega))
        · have h3 := of_decide_eq_false h3
          refine ab 1000 rfl trivial ?_
          refine S_cond rfl (fun h => by cases h) (fun _ => ?_)
          refine ab 1000 rfl trivial ?_
          exact S_retc .bool rfl trivial (no (by omega))
    · have h := of_decide_eq_false h
      refine ab 1000 rfl trivial ?_
      refine S_cond rfl (fun h => by cases h) (fun _ => ?_)
      refine ab 1000 rfl trivial ?_
      refine S_guard rfl rfl rfl rfl (fun h3 => ?_) (fun h3 => ?_)
      · have h3 := of_decide_eq_true h3
        omega
      · refine ab 1000 rfl trivial ?_
        refine S_cond rfl (fun h => by cases h) (fun _ => ?_)
        refine ab 1000 rfl trivial ?_
        exact S_retc .bool rfl trivial (no (by omega))
theorem enc_last {r : Int} (h0 : 128 ≤ r) (h1 : (0 ≤ r ∧ r < 55296) ∨ (57343 < r ∧ r ≤ 1114111)) :
    ∃ l x, (Utf8.encode r).data.toList = l ++ [x] ∧ 1 ≤ l.length ∧ l.length ≤ 3 ∧ 128 ≤ x.toNat := by
  have hv : Utf8.valid r = true := by
    unfold Utf8.valid
    simp
    omega
  unfold Utf8.encode
  simp only [hv, if_true]
  obtain ⟨m, rfl⟩ := Int.eq_ofNat_of_zero_le (by omega : 0 ≤ r)
  have hb : ∀ z : Nat, z < 64 → 128 ≤ (UInt8.ofNat (128 + z)).toNat := fun z hz => by
    rw [UInt8.toNat_ofNat']; omega
  simp only [Int.toNat_natCast]
  rw [if_neg (by omega)]
  split
  · exact ⟨[_], _, rfl, by simp, by simp, hb _ (Nat.mod_lt _ (by decide))⟩
  · split
    · exact ⟨[_, _], _, rfl, by simp, by simp, hb _ (Nat.mod_lt _ (by decide))⟩
    · exact ⟨[_, _, _], _, rfl, by simp, by simp, hb _ (Nat.mod_lt _ (by decide))⟩
def marks : List UInt8 := [95, 45, 46]
theorem no_high {x : UInt8} (h : 128 ≤ x.toNat) : ∀ i, Lib.indexByte (marks.drop i) x = -1 := by
  have n1 : ((95 : UInt8) == x) = false := by rw [beq_eq_false_iff_ne]; rintro rfl; revert h; decide
  have n2 : ((45 : UInt8) == x) = false := by rw [beq_eq_false_iff_ne]; rintro rfl; revert h; decide
  have n3 : ((46 : UInt8) == x) = false := by rw [beq_eq_false_iff_ne]; rintro rfl; revert h; decide
  intro i
  match i with
  | 0 => simp [marks, Lib.indexByte, n1, n2, n3]
  | 1 => simp [marks, Lib.indexByte, n1, n2, n3]
  | 2 => simp [marks, Lib.indexByte, n1, n2, n3]
  | i + 3 => simp [marks, Lib.indexByte]
def markAt (r : Int) : Int := if r = 95 then 0 else if r = 45 then 1 else if r = 46 then 2 else -1
theorem low_mark : ∀ m : Fin 128, Lib.indexByte marks (m.1.toUInt8) = markAt m.1 := by decide +kernel
theorem indexRune_ok (r : Int) : Calc cx 139 [.str marks, .int .i32 r] (.int .i64 (markAt r)) :=
  pure_intro (fun a w => Tryz.call139 a w) Tryz.func139 rfl Tryz.ntmps139 rfl .int fun B => by
    have none : (r < 0 ∨ 128 ≤ r) → AV.int .i64 (-1) = .int .i64 (markAt r) := fun h => by
      rw [markAt, if_neg (by omega), if_neg (by omega), if_neg (by omega)]
    refine ab 1000 rfl trivial ?_
    refine S_split 4 (fun fr σ => Weak fr [(0, .str marks), (1, .int .i32 r), (160, .bool (decide (0 ≤ r ∧ r < 128)))] ∧ σ = []) ?_ ?_
    · refine S_guard rfl rfl rfl rfl (fun h => ?_) (fun h => ?_)
      · have h := of_decide_eq_true h
        refine ab 1000 rfl trivial ?_
        exact S_inv ⟨.cons rfl (.cons rfl (.cons (by show AV.bool (decide (r < 128)) = _; congr 1; simp [h]) (.nil _))), rfl⟩
      · have h := of_decide_eq_false h
        refine ab 1000 rfl trivial ?_
        exact S_inv ⟨.cons rfl (.cons rfl (.cons (by show AV.bool false = _; congr 1; simp [h]) (.nil _))), rfl⟩
    rintro fr σ ⟨hw, rfl⟩
    refine S_opsW hw ?_
    refine ab 1000 rfl trivial ?_
    refine S_dec rfl (fun h => ?_) (fun h => ?_)
    · refine ab 1000 rfl trivial ?_
      refine S_pure rfl rfl rfl (indexByte_ok marks _) (.cons (.refl .str) (.cons (.refl .int) (.nil _))) ?_
      refine ab 1000 rfl trivial ?_
      refine S_retc .int rfl trivial ?_
      show AV.int .i64 (Lib.indexByte marks (IntKind.u8.wrap r).toNat.toUInt8) = _
      obtain ⟨m, rfl⟩ := Int.eq_ofNat_of_zero_le h.1
      rw [wrap_low rfl, Int.toNat_natCast, Nat.mod_eq_of_lt (by show m < 256; omega)]
      exact congrArg _ (low_mark ⟨m, by omega⟩)
    · refine ab 1000 rfl trivial ?_
      refine S_beq rfl (fun h2 => ?_) (fun h2 => ?_)
      · refine ab 1000 rfl trivial ?_
        refine S_while (α := Nat) (fun i => [(0, .str marks), (175, .ptr 0 0 0)]) (fun i => [(0, some (.siter marks i))]) (fun i => i ≤ 3) (fun i => 3 - i) 0
          (Nat.zero_le _) (.cons rfl (.cons rfl (.nil _))) rfl ?_
        rintro i hi
        refine ab 1000 rfl trivial ?_
        refine S_next rfl rfl rfl rfl rfl (fun hil => ?_) (fun hge => ?_)
        · have hi3 : i < 3 := hil
          have hc : (marks[i]).toNat < 128 := (show ∀ j : Fin 3, (marks[j.1]'j.2).toNat < 128 by decide) ⟨i, hi3⟩
          rw [decL_lt hil hc]
          refine ab 1000 rfl trivial ?_
          refine S_cond rfl (fun _ => ?_) (fun h => by cases h)
          refine ab 1000 rfl trivial ?_
          refine S_beq rfl (fun h3 => ?_) (fun h3 => ?_)
          · exact absurd (show (((marks[i]).toNat : Nat) : Int) = 65533 from h3) (by omega)
          · refine ab 1000 rfl trivial ?_
            exact S_round (i + 1) (by show 3 - (i + 1) < 3 - i; omega) (by show i + 1 ≤ 3; omega) (.cons rfl (.cons rfl (.nil _))) rfl
        · refine ab 1000 rfl trivial ?_
          refine S_cond rfl (fun h => by cases h) (fun _ => ?_)
          refine ab 1000 rfl trivial ?_
          exact S_retc .int rfl trivial (none (by omega))
      · refine ab 1000 rfl trivial ?_
        refine S_pure rfl rfl rfl (validRune_ok r) (.cons (.refl .int) (.nil _)) ?_
        refine ab 1000 rfl trivial ?_
        refine S_cond rfl (fun h3 => ?_) (fun h3 => ?_)
        · refine ab 1000 rfl trivial ?_
          exact S_retc .int rfl trivial (none (by omega))
        · have hv : (0 ≤ r ∧ r < 55296) ∨ (57343 < r ∧ r ≤ 1114111) := by
            rcases Decidable.em ((0 ≤ r ∧ r < 55296) ∨ (57343 < r ∧ r ≤ 1114111)) with hp | hp
            · exact hp
            · have h3 : (!decide ((0 ≤ r ∧ r < 55296) ∨ (57343 < r ∧ r ≤ 1114111))) = false := h3
              rw [decide_eq_false hp] at h3
              cases h3
          have h128 : 128 ≤ r := by omega
          obtain ⟨l, x, he, hl1, hl2, hx⟩ := enc_last h128 hv
          refine ab 1000 rfl trivial ?_
          refine S_scope (fun _ _ _ h => h) ?_
          refine ab 1000 rfl trivial ?_
          refine S_while (α := Unit) (fun _ => [(0, .str marks), (7, .str (l ++ [x])), (8, .int .i64 (l.length : Nat)), (9, .int .i64 (l.length : Nat))]) (fun _ => []) (fun _ => True) (fun _ => 0) () trivial
            (.cons rfl (.cons ?_ (.cons ?_ (.cons ?_ (.nil _))))) rfl ?_
          · show AV.str _ = _; rw [he]
          · show AV.int .i64 (IntKind.i64.wrap (((Utf8.encode r).data.toList.length : Nat) - 1 : Int)) = _
            rw [he, List.length_append]; exact congrArg _ (w64 (by simp) (by omega))
          · show AV.int .i64 (IntKind.i64.wrap (((Utf8.encode r).data.toList.length : Nat) - 1 : Int)) = _
            rw [he, List.length_append]; exact congrArg _ (w64 (by simp) (by omega))
          rintro _ _
          refine ab 1000 rfl trivial ?_
          refine S_dec rfl (fun hlt => ?_) (fun hge => ?_)
          · have hlt : (l.length : Int) < 3 := hlt
            refine ab 1000 rfl trivial ?_
            refine S_scope (fun _ _ _ h => h) ?_
            refine ab 1000 rfl trivial ?_
            refine S_draw 7 [] [] rfl rfl rfl rfl ?_ ?_
            · exact ⟨rfl, rfl, rfl, by omega, hlt, rfl, rfl, rfl, by omega, by simp; omega, rfl, trivial⟩
            refine ab 1000 rfl trivial ?_
            refine S_bne rfl (fun h4 => ?_) (fun h4 => ?_)
            · refine ab 1000 rfl trivial ?_
              refine S_draw 8 [] [.int .i64 (-1)] rfl rfl rfl rfl ?_ ?_
              · have hcalc : ∀ (s' : List UInt8) (c : Int), s' = marks.drop (l.length + 1) → c = (x.toNat : Nat) → Calc cx 166 [.str s', .int .u8 c] (.int .i64 (-1)) := by
                  rintro s' c rfl rfl
                  have h5 := indexByte_ok (marks.drop (l.length + 1)) (x.toNat : Nat)
                  rwa [Int.toNat_natCast, show x.toNat.toUInt8 = x from UInt8.ofNat_toNat, no_high hx] at h5
                have hw1 : IntKind.i64.wrap ((l.length : Int) + 1) = ((l.length + 1 : Nat) : Int) := w64 rfl (by omega)
                refine ⟨rfl, rfl, rfl, rfl, ?_, ?_, rfl, rfl, rfl, by omega, by simp; omega, ⟨_, hcalc _ _ ?_ ?_, .cons (.refl .str) (.cons (.refl .int) (.nil _))⟩, trivial⟩
                · rw [hw1]; omega
                · rw [hw1]; show ((l.length + 1 : Nat) : Int) ≤ 3; omega
                · rw [hw1]; simp [cutL]
                · rw [Int.toNat_natCast]; simp
              refine ab 1000 rfl trivial ?_
              refine S_cond rfl (fun h => ?_) (fun h => by cases h)
              refine ab 1000 rfl trivial ?_
              exact S_retc .int rfl trivial (none (by omega))
            · exfalso
              have hm : ∀ i, (marks.getD i 0).toNat < 128 := by
                intro i
                match i with
                | 0 => decide
                | 1 => decide
                | 2 => decide
                | i + 3 => simp [marks]
              have h5 := hm ((l.length : Int)).toNat
              rw [Int.toNat_natCast] at h4 h5
              rw [show ((l ++ [x]).getD l.length 0) = x by simp] at h4
              omega
          · refine ab 1000 rfl trivial ?_
            exact S_retc .int rfl trivial (none (by omega))
theorem containsRune_ok (r : Int) : Calc cx 95 [.str marks, .int .i32 r] (.bool (decide (0 ≤ markAt r))) :=
  pure_intro (fun a w => Tryz.call95 a w) Tryz.func95 rfl Tryz.ntmps95 rfl .bool fun B => by
    refine ab 1000 rfl trivial ?_
    refine S_pure rfl rfl rfl (indexRune_ok r) (.cons (.refl .str) (.cons (.refl .int) (.nil _))) ?_
    refine ab 1000 rfl trivial ?_
    exact S_retc .bool rfl trivial rfl
end Go.Proofs.YtjcjaonfhlfnaaaGreatDoor
end
section
set_option linter.unusedVariables false
set_option linter.unusedSimpArgs false
set_option maxRecDepth 20000
namespace Go.Proofs.YtjcjaonfhlfnaaaGreatDoor
open Go Go.Ab
def texts (l : List (List UInt8)) : List AV := l.map .str
theorem texts_one (l : List (List UInt8)) : ∀ x ∈ texts l, x.one = true := by
  intro x hx
  obtain ⟨y, _, rfl⟩ := List.mem_map.1 hx
  rfl
theorem texts_any {st : Bool} (l : List (List UInt8)) : ∀ x ∈ texts l, Free st x := by
  intro x hx
  obtain ⟨y, _, rfl⟩ := List.mem_map.1 hx
  exact .str
theorem ans_free (s : List UInt8) (n : Int) : Free true (.tup [.str s, .int .i64 n]) := .tup (by intro x hx; simp at hx; rcases hx with rfl | rfl; exact .str; exact .int)
theorem texts_len (l : List (List UInt8)) : (texts l).length = l.length := by simp [texts]
theorem texts_get {l : List (List UInt8)} {i : Nat} (h : i < l.length) : (texts l)[i]? = some (.str l[i]) := by simp [texts, h]
end Go.Proofs.YtjcjaonfhlfnaaaGreatDoor
end
section
set_option linter.unusedVariables false
set_option linter.unusedSimpArgs false
set_option maxRecDepth 20000
namespace Go.Proofs.YtjcjaonfhlfnaaaGreatDoor
open Go Go.Ab
def splitB (c : UInt8) : List UInt8 → List (List UInt8)
  | [] => [[]]
  | x :: r => if x = c then [] :: splitB c r else match splitB c r with
    | [] => [[x]]
    | p :: ps => (x :: p) :: ps
theorem splitB_ne (c : UInt8) (l : List UInt8) : splitB c l ≠ [] := by
  cases l with
  | nil => simp [splitB]
  | cons x r =>
    rw [splitB]
    split
    · simp
    · split <;> simp
theorem split_none {c : UInt8} {l : List UInt8} (h : l.count c = 0) : splitB c l = [l] := by
  induction l with
  | nil => rfl
  | cons x r ih =>
    rw [List.count_cons] at h
    have hx : x ≠ c := by rintro rfl; simp at h
    rw [splitB, if_neg hx, ih (by omega)]
theorem split_at {c : UInt8} {l : List UInt8} (h : 0 < l.count c) : ∃ m : Nat, Lib.indexByte l c = m ∧ m < l.length ∧ splitB c l = l.take m :: splitB c (l.drop (m + 1)) ∧ l.count c = 1 + (l.drop (m + 1)).count c := by
  induction l with
  | nil => simp at h
  | cons x r ih =>
    by_cases hx : x = c
    · subst hx
      exact ⟨0, by simp [Lib.indexByte], by simp, by simp [splitB], by rw [List.count_cons]; simp [Nat.add_comm]⟩
    · have h' : 0 < r.count c := by rw [List.count_cons, if_neg (by simpa using hx)] at h; omega
      obtain ⟨m, h1, h2, h3, h4⟩ := ih h'
      refine ⟨m + 1, ?_, by simp; omega, ?_, ?_⟩
      · rw [Lib.indexByte, if_neg (by simpa using hx), if_neg (by rw [h1]; simp), h1]; rfl
      · rw [splitB, if_neg hx, h3]; rfl
      · rw [List.count_cons, if_neg (by simpa using hx), h4]; simp
theorem split_len (c : UInt8) (l : List UInt8) : (splitB c l).length = l.count c + 1 := by
  induction l with
  | nil => rfl
  | cons x r ih =>
    rw [splitB, List.count_cons]
    split
    · rename_i h; subst h; simp [ih]
    · rename_i h
      rw [if_neg (by simpa using h)]
      split
      · rename_i h2; exact absurd h2 (splitB_ne _ _)
      · rename_i h2; rw [h2] at ih; simpa using ih
theorem split_part {c : UInt8} {l : List UInt8} : ∀ p ∈ splitB c l, p.length ≤ l.length := by
  induction l with
  | nil => intro p hp; simp [splitB] at hp; subst hp; simp
  | cons x r ih =>
    intro p hp
    rw [splitB] at hp
    split at hp
    · rcases List.mem_cons.1 hp with rfl | hp
      · simp
      · have := ih p hp; simp; omega
    · split at hp
      · simp at hp; subst hp; simp
      · rename_i q qs hq
        rw [hq] at ih
        rcases List.mem_cons.1 hp with rfl | hp
        · have := ih q (List.mem_cons_self ..); simp; omega
        · have := ih p (List.mem_cons_of_mem _ hp); simp; omega
theorem set_at {α : Type} (a : List α) (x y : α) (b : List α) : (a ++ y :: b).set a.length x = a ++ x :: b := by
  induction a with
  | nil => rfl
  | cons z a ih => simp [ih]
theorem toU8_self (c : UInt8) : (c.toNat : Int).toNat.toUInt8 = c := by
  rw [Int.toNat_natCast]; simp
theorem cst' (s : List UInt8) (c : Int) (r : Rl) (w : World) (vs : Array Value) (h : VRels r w vs [.str s, .int .u8 c]) :
    ∃ v, (callFunc 200 vs).run cx.P w = .ok (.value v) w ∧ VRel r w v (.int .i64 (Lib.countByte s c.toNat.toUInt8 : Nat)) := by
  obtain ⟨hs, hv⟩ := h
  obtain ⟨x, y, rfl⟩ : ∃ x y, vs = #[x, y] := by
    rcases vs with ⟨l⟩
    match l, hs with
    | [x, y], _ => exact ⟨x, y, rfl⟩
  have h0 := hv 0 (by simp)
  have h1 := hv 1 (by simp)
  simp only [List.getElem_cons_zero, List.getElem_cons_succ] at h0 h1
  have h0 : VRel r w x (.str s) := h0
  have h1 : VRel r w y (.int .u8 c) := h1
  cases h0 with
  | str h =>
    subst h
    cases h1
    refine ⟨_, ?_, .int⟩
    show (callFunc 200 _).run Tryz.prog w = _
    rw [run_callFunc_extern Tryz.func200 rfl rfl rfl (e := Extern.BytealgCount.count) rfl, Lib.run_countString]
    rfl
theorem sIndex_ok (s : List UInt8) (c : UInt8) : Calc cx 201 [.str s, .str [c]] (.int .i64 (Lib.indexByte s c)) :=
  pure_intro (fun a w => Tryz.call201 a w) Tryz.func201 rfl Tryz.ntmps201 rfl .int fun B => by
    refine ab 1000 rfl trivial ?_
    refine S_guard rfl rfl rfl rfl (fun h => by cases h) (fun _ => ?_)
    refine ab 1000 rfl trivial ?_
    by_cases he : s = [c]
    · subst he
      refine S_cond (b := true) (by show AV.bool (([c] : List UInt8) == [c]) = _; simp) (fun _ => ?_) (fun h => by cases h)
      refine ab 1000 rfl trivial ?_
      refine S_retc .int rfl trivial ?_
      show AV.int .i64 0 = _
      simp [Lib.indexByte]
    refine S_cond (b := false) (by show AV.bool (([c] : List UInt8) == s) = _; rw [beq_eq_false_iff_ne.2 (fun h => he h.symm)]) (fun h => by cases h) (fun _ => ?_)
    refine ab 1000 rfl trivial ?_
    refine S_cond (b := true) rfl (fun _ => ?_) (fun h => by cases h)
    refine ab 1000 rfl ⟨Int.zero_lt_one, Int.le_refl _, trivial⟩ ?_
    refine S_pure rfl rfl rfl (indexByteS_ok s (c.toNat : Int)) (.cons (.refl .str) (.cons (.refl .int) (.nil _))) ?_
    rw [toU8_self]
    refine ab 1000 rfl trivial ?_
    exact S_retc .int rfl trivial rfl
theorem index_ok (s : List UInt8) (c : UInt8) : Calc cx 138 [.str s, .str [c]] (.int .i64 (Lib.indexByte s c)) :=
  pure_intro (fun a w => Tryz.call138 a w) Tryz.func138 rfl Tryz.ntmps138 rfl .int fun B => by
    refine ab 1000 rfl trivial ?_
    refine S_pure rfl rfl rfl (sIndex_ok s c) (.cons (.refl .str) (.cons (.refl .str) (.nil _))) ?_
    refine ab 1000 rfl trivial ?_
    exact S_retc .int rfl trivial rfl
theorem count_ok (s : List UInt8) (c : UInt8) : Calc cx 137 [.str s, .str [c]] (.int .i64 (s.count c : Nat)) :=
  pure_intro (fun a w => Tryz.call137 a w) Tryz.func137 rfl Tryz.ntmps137 rfl .int fun B => by
    refine ab 1000 rfl trivial ?_
    refine S_cond (b := false) rfl (fun h => by cases h) (fun _ => ?_)
    refine ab 1000 rfl trivial ?_
    refine S_cond (b := true) rfl (fun _ => ?_) (fun h => by cases h)
    refine ab 1000 rfl ⟨Int.zero_lt_one, Int.le_refl _, trivial⟩ ?_
    refine S_ext (cst' s (c.toNat : Int)) rfl rfl rfl ?_
    rw [toU8_self]
    refine ab 1000 rfl trivial ?_
    exact S_retc .int rfl trivial rfl
theorem genSplit_ok (s : List UInt8) (c : UInt8) (hs : s.length ≤ 1099511627776) : Calc cx 94 [.str s, .str [c], .int .i64 0, .int .i64 (-1)] (.sl true false 1 (texts (splitB c s))) :=
  pure_intro (fun a w => Tryz.call94 a w) Tryz.func94 rfl Tryz.ntmps94 rfl (.sl (fun _ => rfl) (texts_any _)) fun B => by
    have hcl : s.count c ≤ s.length := List.count_le_length
    refine ab 1000 rfl trivial ?_
    refine S_cond (b := false) rfl (fun h => by cases h) (fun _ => ?_)
    refine ab 1000 rfl trivial ?_
    refine S_cond (b := false) rfl (fun h => by cases h) (fun _ => ?_)
    refine ab 1000 rfl trivial ?_
    refine S_cond (b := true) rfl (fun _ => ?_) (fun h => by cases h)
    refine ab 1000 rfl trivial ?_
    refine S_pure rfl rfl rfl (count_ok s c) (.cons (.refl .str) (.cons (.refl .str) (.nil _))) ?_
    have hw1 : IntKind.i64.wrap ((s.count c : Nat) + 1 : Int) = ((s.count c + 1 : Nat) : Int) := w64 (by omega) (by omega)
    have hw2 : IntKind.i64.wrap ((s.length : Nat) + 1 : Int) = ((s.length + 1 : Nat) : Int) := w64 (by omega) (by omega)
    have hmin : min (IntKind.i64.wrap ((s.count c : Nat) + 1 : Int)) (IntKind.i64.wrap ((s.length : Nat) + 1 : Int)) = ((s.count c + 1 : Nat) : Int) := by rw [hw1, hw2]; omega
    refine ab 1000 rfl ⟨?_, ?_, ?_, ?_, trivial⟩ ?_
    · rw [hmin]; omega
    · show (16 : Nat) * _ ≤ (281474976710656 : Int)
      rw [hmin]; omega
    · omega
    · rw [hmin]; omega
    have hw3 : IntKind.i64.wrap (((s.count c + 1 : Nat) : Int) - 1) = ((s.count c : Nat) : Int) := w64 (by omega) (by omega)
    refine S_while (α := Nat × List (List UInt8) × List UInt8) (fun (i, done, r) => [(0, .str r), (1, .str [c]), (2, .int .i64 0), (3, .int .i64 (s.count c : Nat)), (9, .ms 0 0 0 (s.count c + 1) 1 false), (10, .int .i64 (i : Nat))])
      (fun (i, done, r) => [(0, some (.cells (texts done ++ List.replicate (s.count c + 1 - i) (.str [])) ⟨false, none⟩))])
      (fun (i, done, r) => done.length = i ∧ i + r.count c = s.count c ∧ r.length ≤ s.length ∧ done ++ splitB c r = splitB c s) (fun (i, done, r) => s.count c - i) (0, [], s)
      ⟨rfl, by omega, Nat.le_refl _, rfl⟩ (.cons rfl (.cons rfl (.cons rfl (.cons ?_ (.cons ?_ (.cons rfl (.nil _))))))) ?_ ?_
    · show AV.int .i64 (IntKind.i64.wrap (min (IntKind.i64.wrap ((s.count c : Nat) + 1 : Int)) (IntKind.i64.wrap ((s.length : Nat) + 1 : Int)) - 1)) = _
      rw [hmin, hw3]
    · show AV.ms 0 0 0 (min (IntKind.i64.wrap ((s.count c : Nat) + 1 : Int)) (IntKind.i64.wrap ((s.length : Nat) + 1 : Int))).toNat 1 false = _
      rw [hmin, Int.toNat_natCast]
    · show [(0, some (Box.cells (List.replicate (min (IntKind.i64.wrap ((s.count c : Nat) + 1 : Int)) (IntKind.i64.wrap ((s.length : Nat) + 1 : Int))).toNat (AV.str [])) ⟨false, none⟩))] = _
      rw [hmin, Int.toNat_natCast]; rfl
    rintro ⟨i, done, r⟩ ⟨h1, h2, h3, h4⟩
    have hdl : (texts done).length = i := by simp [texts, h1]
    have fin : ∀ k, k < s.count c + 1 → List.replicate (s.count c + 1 - k) (AV.str []) = .str [] :: List.replicate (s.count c + 1 - (k + 1)) (.str []) := fun k hk => by
      rw [show s.count c + 1 - k = (s.count c + 1 - (k + 1)) + 1 by omega, List.replicate_succ]
    have put : ∀ (x : List UInt8), i < s.count c + 1 → setRange (texts done ++ List.replicate (s.count c + 1 - i) (AV.str [])) i [.str x] = texts (done ++ [x]) ++ List.replicate (s.count c + 1 - (i + 1)) (.str []) := fun x hk => by
      rw [fin i hk]
      have := set_at (texts done) (AV.str x) (.str []) (List.replicate (s.count c + 1 - (i + 1)) (.str []))
      rw [hdl] at this
      show List.set _ i _ = _
      rw [this]; simp [texts]
    refine ab 1000 rfl trivial ?_
    refine S_dec rfl (fun hlt => ?_) (fun hlt => ?_)
    · have hlt : i < s.count c := by omega
      obtain ⟨m, m1, m2, m3, m4⟩ := split_at (c := c) (l := r) (by omega)
      refine ab 1000 rfl trivial ?_
      refine S_pure rfl rfl rfl (index_ok r c) (.cons (.refl .str) (.cons (.refl .str) (.nil _))) ?_
      rw [m1]
      refine ab 1000 rfl trivial ?_
      refine S_dec rfl (fun h => absurd h (by omega)) (fun _ => ?_)
      have hw4 : IntKind.i64.wrap ((m : Int) + 0) = (m : Int) := w64 (by omega) (by omega)
      have hw5 : IntKind.i64.wrap ((m : Int) + 1) = ((m + 1 : Nat) : Int) := w64 (by omega) (by omega)
      refine ab 1000 rfl ⟨by rw [hw4]; omega, by rw [hw4]; omega, trivial⟩ ?_
      refine S_index .top rfl rfl rfl ⟨rfl, by omega, by omega, trivial⟩ ?_
      refine S_store rfl rfl rfl ⟨rfl, rfl, rfl, ?_, trivial⟩ ?_
      · show offN 0 (mulN (i : Int).toNat 1) + 1 ≤ (texts done ++ List.replicate (s.count c + 1 - i) (AV.str [])).length
        rw [offN_eq, mulN_eq, Int.toNat_natCast, List.length_append, hdl, List.length_replicate]; omega
      refine ab 1000 rfl ⟨by show IntKind.i64.wrap ((m : Int) + 1) ≤ _; rw [hw5]; omega, by show 0 ≤ IntKind.i64.wrap ((m : Int) + 1); rw [hw5]; omega, trivial⟩ ?_
      refine S_round (i + 1, done ++ [r.take m], r.drop (m + 1)) (by show s.count c - (i + 1) < s.count c - i; omega) ⟨by simp [h1], by omega, by rw [List.length_drop]; omega, by rw [← h4, m3]; simp⟩
        (.cons ?_ (.cons rfl (.cons rfl (.cons rfl (.cons rfl (.cons (ai64 (by omega) (by omega)) (.nil _))))))) ?_
      · show AV.str (r.drop (IntKind.i64.wrap ((m : Int) + 1)).toNat) = _
        rw [hw5, Int.toNat_natCast]
      · show [(0, some (Box.cells (setRange (texts done ++ List.replicate (s.count c + 1 - i) (AV.str [])) (offN 0 (mulN (i : Int).toNat 1)) [.str (r.take (IntKind.i64.wrap ((m : Int) + 0)).toNat)]) ⟨false, none⟩))] = _
        rw [offN_eq, mulN_eq, Int.toNat_natCast, hw4, Int.toNat_natCast, Nat.zero_add, Nat.mul_one, put _ (by omega)]
    · have hlt : i = s.count c := by omega
      have h0 : r.count c = 0 := by omega
      rw [split_none h0] at h4
      refine ab 1000 rfl trivial ?_
      refine S_index .top rfl rfl rfl ⟨rfl, by omega, by omega, trivial⟩ ?_
      refine S_store rfl rfl rfl ⟨rfl, rfl, rfl, ?_, trivial⟩ ?_
      · show offN 0 (mulN (i : Int).toNat 1) + 1 ≤ (texts done ++ List.replicate (s.count c + 1 - i) (AV.str [])).length
        rw [offN_eq, mulN_eq, Int.toNat_natCast, List.length_append, hdl, List.length_replicate]; omega
      have hw6 : IntKind.i64.wrap ((i : Int) + 1) = ((i + 1 : Nat) : Int) := w64 (by omega) (by omega)
      refine ab 1000 rfl ⟨rfl, by rw [hw6]; omega, by rw [hw6]; omega, trivial⟩ ?_
      refine S_ret ⟨_, _, rfl, trivial, _, rfl, ?_⟩
      show Frz true [(0, some (Box.cells (setRange (texts done ++ List.replicate (s.count c + 1 - i) (AV.str [])) (offN 0 (mulN (i : Int).toNat 1)) [.str r]) ⟨false, none⟩))] (.ms 0 0 0 (IntKind.i64.wrap ((i : Int) + 1)).toNat 1 false) _
      rw [offN_eq, mulN_eq, Int.toNat_natCast, Nat.zero_add, Nat.mul_one, put _ (by omega), hw6, Int.toNat_natCast, ← h4]
      have hz : s.count c + 1 - (i + 1) = 0 := by omega
      rw [hz, List.replicate_zero, List.append_nil]
      exact .ms1 rfl (texts_one _) (by simp [texts, h1]) (texts_any _)
theorem StrSplit_ok (s : List UInt8) (c : UInt8) (hs : s.length ≤ 1099511627776) : Calc cx 55 [.str s, .str [c]] (.sl true false 1 (texts (splitB c s))) :=
  pure_intro (fun a w => Tryz.call55 a w) Tryz.func55 rfl Tryz.ntmps55 rfl (.sl (fun _ => rfl) (texts_any _)) fun B => by
    refine ab 1000 rfl trivial ?_
    refine S_pure rfl rfl rfl (genSplit_ok s c hs) (.cons (.refl .str) (.cons (.refl .str) (.cons (.refl .int) (.cons (.refl .int) (.nil _))))) ?_
    refine ab 1000 rfl trivial ?_
    exact S_retc (.sl (fun _ => rfl) (texts_any _)) rfl trivial rfl
end Go.Proofs.YtjcjaonfhlfnaaaGreatDoor
end
section
set_option linter.unusedVariables false
set_option linter.unusedSimpArgs false
set_option maxRecDepth 20000
namespace Go.Proofs.YtjcjaonfhlfnaaaGreatDoor
open Go Go.Ab
theorem noescape (v : Value) (w : World) : (callFunc 140 #[v]).run cx.P w = .ok (.value v) w := by
  show (callFunc 140 #[v]).run Tryz.prog w = _
  rw [run_callFunc_extern Tryz.func140 rfl rfl rfl (e := Extern.AbiNoEscape.same) rfl]
  rfl
structure HoldsB (T : TypeId) (n : Nat) : Prop where
  pos : 0 < cx.P.cellsOf T
  le : cx.P.cellsOf T ≤ n
  lies : ∀ k, liesAt cx.P cx.P.depth T (k + 1) 0 56 1 = true
def bBox (T : TypeId) (a b : AV) (rest : List AV) : Box := .cells (a :: b :: rest) ⟨false, some T⟩
def byBox (bs : List UInt8) : Box := .cells (bs.map byteAV) ⟨false, some 5⟩
theorem copyCheck_ok {T : TypeId} {rest : List AV} (hT : HoldsB T (rest.length + 1 + 1)) (v : Nat) (a b : AV) (ha : a = .nilp ∨ a = .ptr 0 v 0) (y : Nat × Option Box) :
    CallOk cx 96 [.ptr 0 v 0] [(v, some (bBox T a b rest)), y] (fun o σ' => o = .ret (.tup []) ∧ σ' = [(v, some (bBox T (.ptr 0 v 0) b rest)), y]) :=
  callOk_intro (fun a w => Tryz.call96 a w) Tryz.func96 rfl Tryz.ntmps96 rfl fun B => by
    rcases ha with rfl | rfl
    · refine ab 1000 rfl ⟨rfl, trivial⟩ ?_
      refine S_cond rfl (fun _ => ?_) (fun h => ?_)
      · refine ab 1000 rfl trivial ?_
        refine S_toU rfl rfl rfl ⟨rfl, by simp, by decide, trivial⟩ ?_
        refine S_same noescape rfl rfl rfl ?_
        refine S_fromU rfl rfl rfl ⟨rfl, rfl, hT.pos, hT.le, hT.lies, trivial⟩ ?_
        refine ab 1000 rfl ⟨lble rfl, rfl, trivial⟩ ?_
        exact S_nil ⟨_, _, rfl, trivial, rfl, rfl⟩
      · cases h
    · refine ab 1000 rfl ⟨rfl, trivial⟩ ?_
      refine S_cond rfl (fun h => ?_) (fun _ => ?_)
      · cases h
      · refine ab 1000 rfl ⟨rfl, rfl, trivial⟩ ?_
        refine S_cond rfl (fun h => ?_) (fun _ => ?_)
        · cases h
        · refine ab 1000 rfl trivial ?_
          exact S_nil ⟨_, _, rfl, trivial, rfl, rfl⟩
theorem writeByte_ok {T : TypeId} {rest : List AV} (hT : HoldsB T (rest.length + 1 + 1)) (v u : Nat) (a : AV) (ha : a = .nilp ∨ a = .ptr 0 v 0) (bs : List UInt8) (c : UInt8) (hl : bs.length < 140737488355328) :
    CallOk cx 59 [.ptr 0 v 0, byteAV c] [(v, some (bBox T a (.ms 1 u 0 bs.length 1 false) rest)), (u, some (byBox bs))]
      (fun o σ' => o = .ret .nili ∧ σ' = [(v, some (bBox T (.ptr 0 v 0) (.ms 1 (u + 1) 0 (bs ++ [c]).length 1 false) rest)), (u + 1, some (byBox (bs ++ [c])))]) :=
  callOk_intro (fun a w => Tryz.call59 a w) Tryz.func59 rfl Tryz.ntmps59 rfl fun B => by
    refine ab 1000 rfl trivial ?_
    refine S_call rfl rfl rfl (copyCheck_ok hT v a _ ha _) ?_ (fun v σ' h => by cases h.1)
    rintro _ _ ⟨⟨⟩, rfl⟩
    refine ab 1000 rfl ⟨lble rfl, rfl, ?_, ?_, ?_, rfl, rfl, allOne_mem (cs := [byteAV c]) rfl, allOne_mem (cs := [byteAV c]) rfl, rfl, rfl, trivial⟩ ?_
    · show bs.length + 1 ≤ 9223372036854775807; omega
    · show (bs.length + 1) * 1 ≤ 140737488355328; omega
    · show 0 + bs.length * 1 = (bs.map byteAV).length; simp
    refine S_ret ⟨_, _, rfl, trivial, rfl, ?_⟩
    show [(v, some (Box.cells (_ :: .ms 1 (u + 1) 0 (bs.length + 1) 1 false :: rest) _)), (u + 1, some (.cells (bs.map byteAV ++ [byteAV c]) _))] = _
    simp [byBox, bBox]
    rfl
theorem string_ok {T : TypeId} {rest : List AV} (v u : Nat) (a : AV) (bs : List UInt8) (h0 : bs ≠ []) (hl : bs.length ≤ 140737488355328) :
    CallOk cx 57 [.ptr 0 v 0] [(v, some (bBox T a (.ms 1 u 0 bs.length 1 false) rest)), (u, some (byBox bs))]
      (fun o σ' => o = .ret (.str bs) ∧ σ' = [(v, some (bBox T a (.ms 1 u 0 bs.length 1 false) rest)), (u, none)]) :=
  callOk_intro (fun a w => Tryz.call57 a w) Tryz.func57 rfl Tryz.ntmps57 rfl fun B => by
    refine ab 1000 rfl trivial ?_
    have hpos : 0 < bs.length := List.length_pos_iff.2 h0
    refine S_draw 10 [] [] rfl rfl rfl rfl ⟨rfl, rfl, rfl, rfl, rfl, rfl, hpos, rfl, rfl, rfl, rfl, rfl, rfl, trivial⟩ ?_
    refine S_ustr bs rfl rfl rfl ⟨rfl, rfl, rfl, rfl, h0, by omega, List.take_of_length_le (by simp), trivial⟩ ?_
    refine ab 1000 rfl trivial ?_
    exact S_ret ⟨_, _, rfl, trivial, rfl, rfl⟩
end Go.Proofs.YtjcjaonfhlfnaaaGreatDoor
end
section
set_option linter.unusedVariables false
set_option linter.unusedSimpArgs false
set_option maxRecDepth 20000
set_option maxHeartbeats 4000000
namespace Go.Proofs.YtjcjaonfhlfnaaaGreatDoor
open Go Go.Ab
noncomputable def tabX : List { p : Nat × Func × Bool // Tryz.prog.funcs[p.1]? = some p.2.1 ∧ Enters Tryz.prog p.1 } := [
  ⟨(292, Tryz.f292, false), Tryz.func292, fun a w => Tryz.call292 a w⟩,
  ⟨(169, Tryz.f169, false), Tryz.func169, fun a w => Tryz.call169 a w⟩,
  ⟨(127, Tryz.f127, false), Tryz.func127, fun a w => Tryz.call127 a w⟩,
  ⟨(251, Tryz.f251, false), Tryz.func251, fun a w => Tryz.call251 a w⟩,
  ⟨(348, Tryz.f348, false), Tryz.func348, fun a w => Tryz.call348 a w⟩,
  ⟨(253, Tryz.f253, false), Tryz.func253, fun a w => Tryz.call253 a w⟩,
  ⟨(96, Tryz.f96, false), Tryz.func96, fun a w => Tryz.call96 a w⟩,
  ⟨(319, Tryz.f319, false), Tryz.func319, fun a w => Tryz.call319 a w⟩,
  ⟨(121, Tryz.f121, false), Tryz.func121, fun a w => Tryz.call121 a w⟩,
  ⟨(59, Tryz.f59, false), Tryz.func59, fun a w => Tryz.call59 a w⟩,
  ⟨(111, Tryz.f111, false), Tryz.func111, fun a w => Tryz.call111 a w⟩,
  ⟨(296, Tryz.f296, false), Tryz.func296, fun a w => Tryz.call296 a w⟩,
  ⟨(201, Tryz.f201, false), Tryz.func201, fun a w => Tryz.call201 a w⟩,
  ⟨(228, Tryz.f228, false), Tryz.func228, fun a w => Tryz.call228 a w⟩,
  ⟨(321, Tryz.f321, false), Tryz.func321, fun a w => Tryz.call321 a w⟩,
  ⟨(138, Tryz.f138, false), Tryz.func138, fun a w => Tryz.call138 a w⟩,
  ⟨(289, Tryz.f289, false), Tryz.func289, fun a w => Tryz.call289 a w⟩,
  ⟨(247, Tryz.f247, false), Tryz.func247, fun a w => Tryz.call247 a w⟩,
  ⟨(329, Tryz.f329, false), Tryz.func329, fun a w => Tryz.call329 a w⟩,
  ⟨(291, Tryz.f291, false), Tryz.func291, fun a w => Tryz.call291 a w⟩,
  ⟨(39, Tryz.f39, false), Tryz.func39, fun a w => Tryz.call39 a w⟩,
  ⟨(322, Tryz.f322, false), Tryz.func322, fun a w => Tryz.call322 a w⟩,
  ⟨(29, Tryz.f29, false), Tryz.func29, fun a w => Tryz.call29 a w⟩,
  ⟨(324, Tryz.f324, false), Tryz.func324, fun a w => Tryz.call324 a w⟩,
  ⟨(38, Tryz.f38, false), Tryz.func38, fun a w => Tryz.call38 a w⟩,
  ⟨(58, Tryz.f58, false), Tryz.func58, fun a w => Tryz.call58 a w⟩,
  ⟨(61, Tryz.f61, false), Tryz.func61, fun a w => Tryz.call61 a w⟩,
  ⟨(143, Tryz.f143, false), Tryz.func143, fun a w => Tryz.call143 a w⟩,
  ⟨(57, Tryz.f57, false), Tryz.func57, fun a w => Tryz.call57 a w⟩,
  ⟨(73, Tryz.f73, false), Tryz.func73, fun a w => Tryz.call73 a w⟩,
  ⟨(120, Tryz.f120, false), Tryz.func120, fun a w => Tryz.call120 a w⟩,
  ⟨(211, Tryz.f211, false), Tryz.func211, fun a w => Tryz.call211 a w⟩,
  ⟨(123, Tryz.f123, false), Tryz.func123, fun a w => Tryz.call123 a w⟩,
  ⟨(355, Tryz.f355, false), Tryz.func355, fun a w => Tryz.call355 a w⟩,
  ⟨(254, Tryz.f254, false), Tryz.func254, fun a w => Tryz.call254 a w⟩,
  ⟨(295, Tryz.f295, false), Tryz.func295, fun a w => Tryz.call295 a w⟩,
  ⟨(297, Tryz.f297, false), Tryz.func297, fun a w => Tryz.call297 a w⟩,
  ⟨(298, Tryz.f298, false), Tryz.func298, fun a w => Tryz.call298 a w⟩,
  ⟨(326, Tryz.f326, false), Tryz.func326, fun a w => Tryz.call326 a w⟩,
  ⟨(349, Tryz.f349, false), Tryz.func349, fun a w => Tryz.call349 a w⟩,
  ⟨(350, Tryz.f350, false), Tryz.func350, fun a w => Tryz.call350 a w⟩,
  ⟨(294, Tryz.f294, false), Tryz.func294, fun a w => Tryz.call294 a w⟩,
  ⟨(98, Tryz.f98, false), Tryz.func98, fun a w => Tryz.call98 a w⟩,
  ⟨(256, Tryz.f256, false), Tryz.func256, fun a w => Tryz.call256 a w⟩,
  ⟨(87, Tryz.f87, false), Tryz.func87, fun a w => Tryz.call87 a w⟩,
  ⟨(36, Tryz.f36, false), Tryz.func36, fun a w => Tryz.call36 a w⟩,
  ⟨(144, Tryz.f144, false), Tryz.func144, fun a w => Tryz.call144 a w⟩,
  ⟨(320, Tryz.f320, false), Tryz.func320, fun a w => Tryz.call320 a w⟩,
  ⟨(323, Tryz.f323, false), Tryz.func323, fun a w => Tryz.call323 a w⟩,
  ⟨(37, Tryz.f37, false), Tryz.func37, fun a w => Tryz.call37 a w⟩,
  ⟨(229, Tryz.f229, false), Tryz.func229, fun a w => Tryz.call229 a w⟩,
  ⟨(170, Tryz.f170, false), Tryz.func170, fun a w => Tryz.call170 a w⟩,
  ⟨(257, Tryz.f257, false), Tryz.func257, fun a w => Tryz.call257 a w⟩,
  ⟨(31, Tryz.f31, false), Tryz.func31, fun a w => Tryz.call31 a w⟩,
  ⟨(89, Tryz.f89, false), Tryz.func89, fun a w => Tryz.call89 a w⟩,
  ⟨(128, Tryz.f128, false), Tryz.func128, fun a w => Tryz.call128 a w⟩,
  ⟨(172, Tryz.f172, false), Tryz.func172, fun a w => Tryz.call172 a w⟩,
  ⟨(231, Tryz.f231, false), Tryz.func231, fun a w => Tryz.call231 a w⟩,
  ⟨(171, Tryz.f171, false), Tryz.func171, fun a w => Tryz.call171 a w⟩,
  ⟨(74, Tryz.f74, false), Tryz.func74, fun a w => Tryz.call74 a w⟩,
  ⟨(378, Tryz.f378, false), Tryz.func378, fun a w => Tryz.call378 a w⟩,
  ⟨(379, Tryz.f379, false), Tryz.func379, fun a w => Tryz.call379 a w⟩,
  ⟨(192, Tryz.f192, false), Tryz.func192, fun a w => Tryz.call192 a w⟩,
  ⟨(236, Tryz.f236, false), Tryz.func236, fun a w => Tryz.call236 a w⟩,
  ⟨(359, Tryz.f359, false), Tryz.func359, fun a w => Tryz.call359 a w⟩,
  ⟨(250, Tryz.f250, false), Tryz.func250, fun a w => Tryz.call250 a w⟩,
  ⟨(78, Tryz.f78, false), Tryz.func78, fun a w => Tryz.call78 a w⟩,
  ⟨(380, Tryz.f380, false), Tryz.func380, fun a w => Tryz.call380 a w⟩,
  ⟨(124, Tryz.f124, false), Tryz.func124, fun a w => Tryz.call124 a w⟩,
  ⟨(122, Tryz.f122, false), Tryz.func122, fun a w => Tryz.call122 a w⟩,
  ⟨(168, Tryz.f168, false), Tryz.func168, fun a w => Tryz.call168 a w⟩,
  ⟨(167, Tryz.f167, false), Tryz.func167, fun a w => Tryz.call167 a w⟩,
  ⟨(145, Tryz.f145, false), Tryz.func145, fun a w => Tryz.call145 a w⟩,
  ⟨(150, Tryz.f150, false), Tryz.func150, fun a w => Tryz.call150 a w⟩,
  ⟨(71, Tryz.f71, false), Tryz.func71, fun a w => Tryz.call71 a w⟩,
  ⟨(233, Tryz.f233, false), Tryz.func233, fun a w => Tryz.call233 a w⟩,
  ⟨(234, Tryz.f234, false), Tryz.func234, fun a w => Tryz.call234 a w⟩,
  ⟨(173, Tryz.f173, false), Tryz.func173, fun a w => Tryz.call173 a w⟩,
  ⟨(174, Tryz.f174, false), Tryz.func174, fun a w => Tryz.call174 a w⟩,
  ⟨(131, Tryz.f131, false), Tryz.func131, fun a w => Tryz.call131 a w⟩,
  ⟨(159, Tryz.f159, false), Tryz.func159, fun a w => Tryz.call159 a w⟩,
  ⟨(10, Tryz.f10, false), Tryz.func10, fun a w => Tryz.call10 a w⟩,
  ⟨(35, Tryz.f35, false), Tryz.func35, fun a w => Tryz.call35 a w⟩,
  ⟨(30, Tryz.f30, false), Tryz.func30, fun a w => Tryz.call30 a w⟩,
  ⟨(33, Tryz.f33, false), Tryz.func33, fun a w => Tryz.call33 a w⟩,
  ⟨(109, Tryz.f109, false), Tryz.func109, fun a w => Tryz.call109 a w⟩,
  ⟨(50, Tryz.f50, false), Tryz.func50, fun a w => Tryz.call50 a w⟩,
  ⟨(263, Tryz.f263, false), Tryz.func263, fun a w => Tryz.call263 a w⟩,
  ⟨(260, Tryz.f260, false), Tryz.func260, fun a w => Tryz.call260 a w⟩,
  ⟨(65, Tryz.f65, false), Tryz.func65, fun a w => Tryz.call65 a w⟩,
  ⟨(110, Tryz.f110, false), Tryz.func110, fun a w => Tryz.call110 a w⟩,
  ⟨(160, Tryz.f160, false), Tryz.func160, fun a w => Tryz.call160 a w⟩,
  ⟨(113, Tryz.f113, false), Tryz.func113, fun a w => Tryz.call113 a w⟩,
  ⟨(185, Tryz.f185, false), Tryz.func185, fun a w => Tryz.call185 a w⟩,
  ⟨(238, Tryz.f238, false), Tryz.func238, fun a w => Tryz.call238 a w⟩,
  ⟨(176, Tryz.f176, false), Tryz.func176, fun a w => Tryz.call176 a w⟩,
  ⟨(237, Tryz.f237, false), Tryz.func237, fun a w => Tryz.call237 a w⟩,
  ⟨(356, Tryz.f356, false), Tryz.func356, fun a w => Tryz.call356 a w⟩,
  ⟨(258, Tryz.f258, false), Tryz.func258, fun a w => Tryz.call258 a w⟩,
  ⟨(210, Tryz.f210, false), Tryz.func210, fun a w => Tryz.call210 a w⟩,
  ⟨(158, Tryz.f158, false), Tryz.func158, fun a w => Tryz.call158 a w⟩,
  ⟨(209, Tryz.f209, false), Tryz.func209, fun a w => Tryz.call209 a w⟩,
  ⟨(248, Tryz.f248, false), Tryz.func248, fun a w => Tryz.call248 a w⟩,
  ⟨(249, Tryz.f249, false), Tryz.func249, fun a w => Tryz.call249 a w⟩,
  ⟨(79, Tryz.f79, false), Tryz.func79, fun a w => Tryz.call79 a w⟩,
  ⟨(81, Tryz.f81, false), Tryz.func81, fun a w => Tryz.call81 a w⟩,
  ⟨(28, Tryz.f28, false), Tryz.func28, fun a w => Tryz.call28 a w⟩,
  ⟨(51, Tryz.f51, false), Tryz.func51, fun a w => Tryz.call51 a w⟩,
  ⟨(54, Tryz.f54, false), Tryz.func54, fun a w => Tryz.call54 a w⟩,
  ⟨(93, Tryz.f93, false), Tryz.func93, fun a w => Tryz.call93 a w⟩,
  ⟨(53, Tryz.f53, false), Tryz.func53, fun a w => Tryz.call53 a w⟩,
  ⟨(47, Tryz.f47, false), Tryz.func47, fun a w => Tryz.call47 a w⟩,
  ⟨(64, Tryz.f64, false), Tryz.func64, fun a w => Tryz.call64 a w⟩,
  ⟨(62, Tryz.f62, false), Tryz.func62, fun a w => Tryz.call62 a w⟩,
  ⟨(63, Tryz.f63, true), Tryz.func63, fun a w => Tryz.call63 a w⟩,
  ⟨(107, Tryz.f107, false), Tryz.func107, fun a w => Tryz.call107 a w⟩,
  ⟨(8, Tryz.f8, false), Tryz.func8, fun a w => Tryz.call8 a w⟩,
  ⟨(48, Tryz.f48, false), Tryz.func48, fun a w => Tryz.call48 a w⟩,
  ⟨(75, Tryz.f75, false), Tryz.func75, fun a w => Tryz.call75 a w⟩,
  ⟨(76, Tryz.f76, false), Tryz.func76, fun a w => Tryz.call76 a w⟩,
  ⟨(49, Tryz.f49, false), Tryz.func49, fun a w => Tryz.call49 a w⟩,
  ⟨(80, Tryz.f80, false), Tryz.func80, fun a w => Tryz.call80 a w⟩,
  ⟨(91, Tryz.f91, false), Tryz.func91, fun a w => Tryz.call91 a w⟩,
  ⟨(130, Tryz.f130, false), Tryz.func130, fun a w => Tryz.call130 a w⟩,
  ⟨(175, Tryz.f175, false), Tryz.func175, fun a w => Tryz.call175 a w⟩,
  ⟨(184, Tryz.f184, false), Tryz.func184, fun a w => Tryz.call184 a w⟩,
  ⟨(112, Tryz.f112, true), Tryz.func112, fun a w => Tryz.call112 a w⟩,
  ⟨(156, Tryz.f156, true), Tryz.func156, fun a w => Tryz.call156 a w⟩,
  ⟨(77, Tryz.f77, false), Tryz.func77, fun a w => Tryz.call77 a w⟩,
  ⟨(52, Tryz.f52, false), Tryz.func52, fun a w => Tryz.call52 a w⟩,
  ⟨(82, Tryz.f82, false), Tryz.func82, fun a w => Tryz.call82 a w⟩,
  ⟨(84, Tryz.f84, false), Tryz.func84, fun a w => Tryz.call84 a w⟩,
  ⟨(67, Tryz.f67, false), Tryz.func67, fun a w => Tryz.call67 a w⟩,
  ⟨(133, Tryz.f133, false), Tryz.func133, fun a w => Tryz.call133 a w⟩,
  ⟨(83, Tryz.f83, false), Tryz.func83, fun a w => Tryz.call83 a w⟩,
  ⟨(154, Tryz.f154, false), Tryz.func154, fun a w => Tryz.call154 a w⟩,
  ⟨(290, Tryz.f290, false), Tryz.func290, fun a w => Tryz.call290 a w⟩,
  ⟨(92, Tryz.f92, false), Tryz.func92, fun a w => Tryz.call92 a w⟩,
  ⟨(125, Tryz.f125, false), Tryz.func125, fun a w => Tryz.call125 a w⟩,
  ⟨(318, Tryz.f318, false), Tryz.func318, fun a w => Tryz.call318 a w⟩,
  ⟨(132, Tryz.f132, false), Tryz.func132, fun a w => Tryz.call132 a w⟩,
  ⟨(137, Tryz.f137, false), Tryz.func137, fun a w => Tryz.call137 a w⟩,
  ⟨(55, Tryz.f55, false), Tryz.func55, fun a w => Tryz.call55 a w⟩,
  ⟨(94, Tryz.f94, false), Tryz.func94, fun a w => Tryz.call94 a w⟩,
  ⟨(108, Tryz.f108, false), Tryz.func108, fun a w => Tryz.call108 a w⟩,
  ⟨(157, Tryz.f157, false), Tryz.func157, fun a w => Tryz.call157 a w⟩,
  ⟨(208, Tryz.f208, false), Tryz.func208, fun a w => Tryz.call208 a w⟩,
  ⟨(163, Tryz.f163, false), Tryz.func163, fun a w => Tryz.call163 a w⟩,
  ⟨(226, Tryz.f226, false), Tryz.func226, fun a w => Tryz.call226 a w⟩,
  ⟨(194, Tryz.f194, false), Tryz.func194, fun a w => Tryz.call194 a w⟩,
  ⟨(195, Tryz.f195, false), Tryz.func195, fun a w => Tryz.call195 a w⟩,
  ⟨(277, Tryz.f277, false), Tryz.func277, fun a w => Tryz.call277 a w⟩,
  ⟨(240, Tryz.f240, false), Tryz.func240, fun a w => Tryz.call240 a w⟩]
def lookX : List { p : Nat × Func × Bool // Tryz.prog.funcs[p.1]? = some p.2.1 ∧ Enters Tryz.prog p.1 } → Nat → Option (Func × Bool)
  | [], _ => none
  | p :: r, g => match Nat.beq p.1.1 g with
    | true => some p.1.2
    | false => lookX r g
theorem lookX_ok : ∀ (l : List { p : Nat × Func × Bool // Tryz.prog.funcs[p.1]? = some p.2.1 ∧ Enters Tryz.prog p.1 }) (g : Nat) (fn : Func) (b : Bool), lookX l g = some (fn, b) → Tryz.prog.funcs[g]? = some fn ∧ Enters Tryz.prog g
  | [], g, fn, b, h => by cases h
  | p :: r, g, fn, b, h => by
    unfold lookX at h
    split at h
    · rename_i hb
      have hb := Nat.eq_of_beq_eq_true hb
      obtain ⟨⟨g', fn', b'⟩, h1, h2⟩ := p
      cases h
      subst hb
      exact ⟨h1, h2⟩
    · exact lookX_ok r g fn b h
noncomputable def mX : Mx cx := ⟨lookX tabX, lookX_ok tabX⟩
def isU8 : IntKind → Bool
  | .u8 => true
  | _ => false
theorem isU8_eq {k : IntKind} (h : isU8 k = true) : k = .u8 := by cases k <;> first | rfl | cases h
def idxX1 (a : List AV) : Option AV := match a with
  | [.str s, .int k c] => match isU8 k with
    | true => some (.int .i64 (Lib.indexByte s c.toNat.toUInt8))
    | false => none
  | _ => none
def cntX1 (a : List AV) : Option AV := match a with
  | [.str s, .int k c] => match isU8 k with
    | true => some (.int .i64 (Lib.countByte s c.toNat.toUInt8 : Nat))
    | false => none
  | _ => none
def oneX (a : List AV) : Option AV := match a with
  | [x] => some x
  | _ => none
def extX (g : Nat) (a : List AV) : Option AV := match Nat.beq g 140 with
  | true => oneX a
  | false => match Nat.beq g 275 with
    | true => idxX1 a
    | false => match Nat.beq g 200 with
      | true => cntX1 a
      | false => none
theorem extX_ok (g : Nat) (a : List AV) (v : AV) (h : extX g a = some v) (r : Rl) (w : World) (vs : Array Value) (hv : VRels r w vs a) : ∃ v', (callFunc g vs).run cx.P w = .ok (.value v') w ∧ VRel r w v' v := by
  unfold extX at h
  split at h
  · rename_i hb
    obtain rfl := Nat.eq_of_beq_eq_true hb
    unfold oneX at h
    split at h
    · cases h
      obtain ⟨hs, h0⟩ := hv
      obtain ⟨x, rfl⟩ : ∃ x, vs = #[x] := by
        rcases vs with ⟨l⟩
        match l, hs with
        | [x], _ => exact ⟨x, rfl⟩
      exact ⟨x, noescape x w, h0 0 (by simp)⟩
    · cases h
  split at h
  · rename_i hb
    obtain rfl := Nat.eq_of_beq_eq_true hb
    unfold idxX1 at h
    split at h
    · split at h
      · rename_i hk
        obtain rfl := isU8_eq hk
        cases h
        exact ixb _ _ r w vs hv
      · cases h
    · cases h
  split at h
  · rename_i hb
    obtain rfl := Nat.eq_of_beq_eq_true hb
    unfold cntX1 at h
    split at h
    · split at h
      · rename_i hk
        obtain rfl := isU8_eq hk
        cases h
        exact cst' _ _ r w vs hv
      · cases h
    · cases h
  · cases h
def layX (T : TypeId) (off : Nat) (u : TypeId) : Bool := (Nat.beq T 56 || Nat.beq T 58) && Nat.beq off 0 && Nat.beq u 56
theorem layX_ok (T off u : Nat) (h : layX T off u = true) : 0 < cx.P.cellsOf T ∧ ∀ k, liesAt cx.P cx.P.depth T (k + 1) off u 1 = true := by
  simp only [layX, Bool.and_eq_true, Bool.or_eq_true] at h
  obtain ⟨⟨h1, h2⟩, h3⟩ := h
  obtain rfl := Nat.eq_of_beq_eq_true h2
  obtain rfl := Nat.eq_of_beq_eq_true h3
  rcases h1 with h1 | h1 <;> obtain rfl := Nat.eq_of_beq_eq_true h1 <;> exact ⟨lble rfl, fun k => by kernel_rfl⟩
theorem mxLen : MethL Tryz.prog 193 "Len" 123 194 := methL_of rfl rfl rfl rfl Tryz.underlying193
theorem mxPush : MethP Tryz.prog 193 "Push" 379 := fun a w => rfl
theorem mxPop : MethP Tryz.prog 193 "Pop" 378 := fun a w => rfl
theorem mxSwap : MethL Tryz.prog 193 "Swap" 380 194 := methL_of rfl rfl rfl rfl Tryz.underlying193
def methX (T : TypeId) (s : String) : Option (FuncId × Option TypeId) := match Nat.beq T 193 with
  | true => bif decide (s = "Len") then some (123, some 194) else bif decide (s = "Push") then some (379, none) else
    bif decide (s = "Pop") then some (378, none) else bif decide (s = "Swap") then some (380, some 194) else none
  | false => none
theorem methX_at {T : TypeId} {s : String} {x : FuncId × Option TypeId} (h : methX T s = some x) : T = 193 ∧ ((s = "Len" ∧ x = (123, some 194)) ∨ (s = "Push" ∧ x = (379, none)) ∨
    (s = "Pop" ∧ x = (378, none)) ∨ (s = "Swap" ∧ x = (380, some 194))) := by
  unfold methX at h
  split at h
  case h_2 => cases h
  rename_i hb
  refine ⟨Nat.eq_of_beq_eq_true hb, ?_⟩
  simp only [Bool.cond_eq_ite, decide_eq_true_eq] at h
  split at h
  · rename_i e; cases h; exact .inl ⟨e, rfl⟩
  split at h
  · rename_i e; cases h; exact .inr (.inl ⟨e, rfl⟩)
  split at h
  · rename_i e; cases h; exact .inr (.inr (.inl ⟨e, rfl⟩))
  split at h
  · rename_i e; cases h; exact .inr (.inr (.inr ⟨e, rfl⟩))
  · cases h
theorem methX_ok (T : TypeId) (s : String) (f : FuncId) (h : methX T s = some (f, none)) : MethP cx.P T s f := by
  obtain ⟨rfl, ⟨rfl, h⟩ | ⟨rfl, h⟩ | ⟨rfl, h⟩ | ⟨rfl, h⟩⟩ := methX_at h <;> cases h
  · exact mxPush
  · exact mxPop
theorem methX_lk (T : TypeId) (s : String) (f : FuncId) (el : TypeId) (h : methX T s = some (f, some el)) : MethL cx.P T s f el := by
  obtain ⟨rfl, ⟨rfl, h⟩ | ⟨rfl, h⟩ | ⟨rfl, h⟩ | ⟨rfl, h⟩⟩ := methX_at h <;> cases h
  · exact mxLen
  · exact mxSwap
noncomputable def exX (p : Heap → FuncId → List AV → Option AV) (hp : ∀ σ g a v, p σ g a = some v → CallOk cx g a σ (fun o s => o = .ret v ∧ s = σ)) : Ex cx := ⟨extX, extX_ok, layX, methX, methX_ok, methX_lk, p, hp, layX_ok⟩
end Go.Proofs.YtjcjaonfhlfnaaaGreatDoor
end
section
set_option linter.unusedVariables false
set_option linter.unusedSimpArgs false
set_option maxRecDepth 1000000
set_option maxHeartbeats 40000000
namespace Go.Proofs.YtjcjaonfhlfnaaaGreatDoor
open Go Go.Ab
def srcX : List UInt8 := [114, 117, 108, 101, 40, 110, 97, 109, 101, 61, 34, 116, 34, 44, 32, 111, 117, 116, 115, 61, 91, 34, 111, 34, 93, 44, 32, 99, 111, 109, 109, 97, 110, 100, 61, 91, 34, 115, 101, 116, 32, 97, 32, 104, 105, 34, 44, 32, 34, 109, 97, 107, 101, 32, 111, 32, 97, 34, 93, 41]
end Go.Proofs.YtjcjaonfhlfnaaaGreatDoor
end
section
set_option linter.unusedVariables false
set_option linter.unusedSimpArgs false
set_option maxRecDepth 20000
namespace Go.Proofs.YtjcjaonfhlfnaaaGreatDoor
open Go Go.Ab Go.Shelf Go.RowKit Go.Maps Go.Sort
def lay_keysF_ren : Go.Shelf.Ren := ⟨fun | 7 => 84 | 10 => 126 | n => n, fun | 23 => 147 | 26 => 9 | 3 => 52 | 28 => 118 | 0 => 0 | 27 => 117 | 33 => 35 | 4 => 4 | n => n, fun | n => n⟩
theorem lay_keysF : Go.Proofs.SlLaysZ.n7 Tryz.prog lay_keysF_ren := {
  mixed := by kernel_rfl
  f7 := ⟨Tryz.f84.name, by decide, Tryz.func84.trans (congrArg some (by kernel_rfl))⟩
  f10 := ⟨Tryz.f126.name, by decide, Tryz.func126.trans (congrArg some (by kernel_rfl))⟩
  t0 := Tryz.underlying0
  a0 := Tryz.isAgg0
  z0 := Tryz.sizeOf0
  v0 := Tryz.zeroValue0
  t4 := Tryz.underlying4
  a4 := Tryz.isAgg4
  z4 := Tryz.sizeOf4
  v4 := Tryz.zeroValue4
  t23 := Tryz.underlying147
  a23 := Tryz.isAgg147
  z23 := Tryz.sizeOf147
  v23 := Tryz.zeroValue147
  t26 := Tryz.underlying9
  a26 := Tryz.isAgg9
  z26 := Tryz.sizeOf9
  v26 := Tryz.zeroValue9
  t27 := Tryz.underlying117
  a27 := Tryz.isAgg117
  z27 := Tryz.sizeOf117
  v27 := Tryz.zeroValue117
  t28 := Tryz.underlying118
  a28 := Tryz.isAgg118
  z28 := Tryz.sizeOf118
  v28 := Tryz.zeroValue118
  t33 := Tryz.underlying35
  a33 := Tryz.isAgg35
  z33 := Tryz.sizeOf35
  v33 := Tryz.zeroValue35 }
def lay_keysL_ren : Go.Shelf.Ren := ⟨fun | 7 => 171 | 10 => 230 | n => n, fun | 23 => 79 | 26 => 9 | 3 => 46 | 28 => 118 | 0 => 0 | 27 => 117 | 33 => 35 | 4 => 4 | n => n, fun | n => n⟩
theorem lay_keysL : Go.Proofs.SlLaysZ.n7 Tryz.prog lay_keysL_ren := {
  mixed := by kernel_rfl
  f7 := ⟨Tryz.f171.name, by decide, Tryz.func171.trans (congrArg some (by kernel_rfl))⟩
  f10 := ⟨Tryz.f230.name, by decide, Tryz.func230.trans (congrArg some (by kernel_rfl))⟩
  t0 := Tryz.underlying0
  a0 := Tryz.isAgg0
  z0 := Tryz.sizeOf0
  v0 := Tryz.zeroValue0
  t4 := Tryz.underlying4
  a4 := Tryz.isAgg4
  z4 := Tryz.sizeOf4
  v4 := Tryz.zeroValue4
  t23 := Tryz.underlying79
  a23 := Tryz.isAgg79
  z23 := Tryz.sizeOf79
  v23 := Tryz.zeroValue79
  t26 := Tryz.underlying9
  a26 := Tryz.isAgg9
  z26 := Tryz.sizeOf9
  v26 := Tryz.zeroValue9
  t27 := Tryz.underlying117
  a27 := Tryz.isAgg117
  z27 := Tryz.sizeOf117
  v27 := Tryz.zeroValue117
  t28 := Tryz.underlying118
  a28 := Tryz.isAgg118
  z28 := Tryz.sizeOf118
  v28 := Tryz.zeroValue118
  t33 := Tryz.underlying35
  a33 := Tryz.isAgg35
  z33 := Tryz.sizeOf35
  v33 := Tryz.zeroValue35 }
def lay_sorted_ren : Go.Shelf.Ren := ⟨fun | 6 => 66 | 8 => 114 | 9 => 115 | 11 => 161 | 13 => 163 | 12 => 162 | 23 => 225 | 24 => 226 | 14 => 216 | 15 => 217 | 16 => 218 | 17 => 219 | 18 => 220 | 19 => 221 | 20 => 222 | 21 => 223 | 22 => 224 | 25 => 266 | 26 => 267 | 27 => 268 | 28 => 269 | 29 => 270 | 30 => 197 | 31 => 307 | n => n, fun | 26 => 9 | 28 => 118 | 24 => 22 | 0 => 0 | 3 => 3 | 37 => 68 | 48 => 101 | 50 => 99 | 4 => 4 | 40 => 284 | 39 => 283 | 45 => 288 | 5 => 5 | 9 => 9 | 51 => 313 | 55 => 317 | 57 => 347 | 58 => 348 | 33 => 35 | n => n, fun | n => n⟩
theorem lay_sorted : Go.Proofs.SlLaysZ.n6 Tryz.prog lay_sorted_ren := {
  mixed := by kernel_rfl
  f6 := ⟨Tryz.f66.name, by decide, Tryz.func66.trans (congrArg some (by kernel_rfl))⟩
  f8 := ⟨Tryz.f114.name, by decide, Tryz.func114.trans (congrArg some (by kernel_rfl))⟩
  f11 := ⟨Tryz.f161.name, by decide, Tryz.func161.trans (congrArg some (by kernel_rfl))⟩
  t0 := Tryz.underlying0
  a0 := Tryz.isAgg0
  z0 := Tryz.sizeOf0
  v0 := Tryz.zeroValue0
  t24 := Tryz.underlying22
  a24 := Tryz.isAgg22
  z24 := Tryz.sizeOf22
  v24 := Tryz.zeroValue22
  t26 := Tryz.underlying9
  a26 := Tryz.isAgg9
  z26 := Tryz.sizeOf9
  v26 := Tryz.zeroValue9
  t28 := Tryz.underlying118
  a28 := Tryz.isAgg118
  z28 := Tryz.sizeOf118
  v28 := Tryz.zeroValue118
  i26 := by kernel_rfl }
def lay_sort_ren : Go.Shelf.Ren := ⟨fun | 6 => 115 | 8 => 163 | 9 => 162 | 19 => 225 | 20 => 226 | 21 => 216 | 22 => 217 | 23 => 218 | 24 => 219 | 25 => 220 | 26 => 221 | 27 => 222 | 28 => 223 | 29 => 224 | 36 => 266 | 31 => 267 | 32 => 268 | 37 => 269 | 38 => 270 | 39 => 197 | 41 => 307 | n => n, fun | 27 => 22 | 29 => 9 | 3 => 3 | 32 => 68 | 26 => 22 | 0 => 0 | 44 => 101 | 46 => 99 | 4 => 4 | 36 => 284 | 35 => 283 | 41 => 288 | 5 => 5 | 9 => 9 | 53 => 313 | 57 => 317 | 63 => 347 | 64 => 348 | n => n, fun | n => n⟩
theorem lay_sort : Go.Proofs.SlLaysM.n6 Tryz.prog lay_sort_ren := {
  mixed := by kernel_rfl
  f6 := ⟨Tryz.f115.name, by decide, Tryz.func115.trans (congrArg some (by kernel_rfl))⟩
  f8 := Tryz.func163.trans (congrArg some (by kernel_rfl))
  f9 := ⟨Tryz.f162.name, by decide, Tryz.func162.trans (congrArg some (by kernel_rfl))⟩
  f19 := Tryz.func225.trans (congrArg some (by kernel_rfl))
  f20 := Tryz.func226.trans (congrArg some (by kernel_rfl))
  f21 := ⟨Tryz.f216.name, by decide, Tryz.func216.trans (congrArg some (by kernel_rfl))⟩
  f22 := ⟨Tryz.f217.name, by decide, Tryz.func217.trans (congrArg some (by kernel_rfl))⟩
  f23 := ⟨Tryz.f218.name, by decide, Tryz.func218.trans (congrArg some (by kernel_rfl))⟩
  f24 := ⟨Tryz.f219.name, by decide, Tryz.func219.trans (congrArg some (by kernel_rfl))⟩
  f25 := ⟨Tryz.f220.name, by decide, Tryz.func220.trans (congrArg some (by kernel_rfl))⟩
  f26 := ⟨Tryz.f221.name, by decide, Tryz.func221.trans (congrArg some (by kernel_rfl))⟩
  f27 := ⟨Tryz.f222.name, by decide, Tryz.func222.trans (congrArg some (by kernel_rfl))⟩
  f28 := ⟨Tryz.f223.name, by decide, Tryz.func223.trans (congrArg some (by kernel_rfl))⟩
  f29 := ⟨Tryz.f224.name, by decide, Tryz.func224.trans (congrArg some (by kernel_rfl))⟩
  f31 := Tryz.func267.trans (congrArg some (by kernel_rfl))
  f32 := Tryz.func268.trans (congrArg some (by kernel_rfl))
  f36 := ⟨Tryz.f266.name, by decide, Tryz.func266.trans (congrArg some (by kernel_rfl))⟩
  f37 := ⟨Tryz.f269.name, by decide, Tryz.func269.trans (congrArg some (by kernel_rfl))⟩
  f38 := ⟨Tryz.f270.name, by decide, Tryz.func270.trans (congrArg some (by kernel_rfl))⟩
  f39 := ⟨Tryz.f197.name, by decide, Tryz.func197.trans (congrArg some (by kernel_rfl))⟩
  f41 := ⟨Tryz.f307.name, by decide, Tryz.func307.trans (congrArg some (by kernel_rfl))⟩
  t0 := Tryz.underlying0
  a0 := Tryz.isAgg0
  z0 := Tryz.sizeOf0
  v0 := Tryz.zeroValue0
  t3 := Tryz.underlying3
  a3 := Tryz.isAgg3
  z3 := Tryz.sizeOf3
  v3 := Tryz.zeroValue3
  t4 := Tryz.underlying4
  a4 := Tryz.isAgg4
  z4 := Tryz.sizeOf4
  v4 := Tryz.zeroValue4
  t5 := Tryz.underlying5
  a5 := Tryz.isAgg5
  z5 := Tryz.sizeOf5
  v5 := Tryz.zeroValue5
  t9 := Tryz.underlying9
  a9 := Tryz.isAgg9
  z9 := Tryz.sizeOf9
  v9 := Tryz.zeroValue9
  t26 := Tryz.underlying22
  a26 := Tryz.isAgg22
  z26 := Tryz.sizeOf22
  v26 := Tryz.zeroValue22
  t27 := Tryz.underlying22
  a27 := Tryz.isAgg22
  z27 := Tryz.sizeOf22
  v27 := Tryz.zeroValue22
  t29 := Tryz.underlying9
  a29 := Tryz.isAgg9
  z29 := Tryz.sizeOf9
  v29 := Tryz.zeroValue9
  t32 := Tryz.underlying68
  a32 := Tryz.isAgg68
  z32 := Tryz.sizeOf68
  v32 := Tryz.zeroValue68
  t35 := Tryz.underlying283
  a35 := Tryz.isAgg283
  z35 := Tryz.sizeOf283
  v35 := Tryz.zeroValue283
  t36 := Tryz.underlying284
  a36 := Tryz.isAgg284
  z36 := Tryz.sizeOf284
  v36 := Tryz.zeroValue284
  t41 := Tryz.underlying288
  a41 := Tryz.isAgg288
  z41 := Tryz.sizeOf288
  v41 := Tryz.zeroValue288
  t44 := Tryz.underlying101
  a44 := Tryz.isAgg101
  z44 := Tryz.sizeOf101
  v44 := Tryz.zeroValue101
  t46 := Tryz.underlying99
  a46 := Tryz.isAgg99
  z46 := Tryz.sizeOf99
  v46 := Tryz.zeroValue99
  t53 := Tryz.underlying313
  a53 := Tryz.isAgg313
  z53 := Tryz.sizeOf313
  v53 := Tryz.zeroValue313
  t57 := Tryz.underlying317
  a57 := Tryz.isAgg317
  z57 := Tryz.sizeOf317
  v57 := Tryz.zeroValue317
  t63 := Tryz.underlying347
  a63 := Tryz.isAgg347
  z63 := Tryz.sizeOf347
  v63 := Tryz.zeroValue347
  t64 := Tryz.underlying348
  a64 := Tryz.isAgg348
  z64 := Tryz.sizeOf348
  v64 := Tryz.zeroValue348 }
end Go.Proofs.YtjcjaonfhlfnaaaGreatDoor
end
section
set_option linter.unusedVariables false
set_option linter.unusedSimpArgs false
set_option maxRecDepth 20000
namespace Go.Proofs.YtjcjaonfhlfnaaaGreatDoor
open Go Go.Ab Go.Shelf Go.RowKit Go.Maps Go.Sort
def lay_keysX_ren : Go.Shelf.Ren := ⟨fun | 7 => 67 | 10 => 116 | n => n, fun | 23 => 109 | 26 => 9 | 3 => 123 | 28 => 118 | 0 => 0 | 27 => 117 | 33 => 35 | 4 => 4 | n => n, fun | n => n⟩
theorem lay_keysX : Go.Proofs.SlLaysZ.n7 Tryz.prog lay_keysX_ren := {
  mixed := by kernel_rfl
  f7 := ⟨Tryz.f67.name, by decide, Tryz.func67.trans (congrArg some (by kernel_rfl))⟩
  f10 := ⟨Tryz.f116.name, by decide, Tryz.func116.trans (congrArg some (by kernel_rfl))⟩
  t0 := Tryz.underlying0
  a0 := Tryz.isAgg0
  z0 := Tryz.sizeOf0
  v0 := Tryz.zeroValue0
  t4 := Tryz.underlying4
  a4 := Tryz.isAgg4
  z4 := Tryz.sizeOf4
  v4 := Tryz.zeroValue4
  t23 := Tryz.underlying109
  a23 := Tryz.isAgg109
  z23 := Tryz.sizeOf109
  v23 := Tryz.zeroValue109
  t26 := Tryz.underlying9
  a26 := Tryz.isAgg9
  z26 := Tryz.sizeOf9
  v26 := Tryz.zeroValue9
  t27 := Tryz.underlying117
  a27 := Tryz.isAgg117
  z27 := Tryz.sizeOf117
  v27 := Tryz.zeroValue117
  t28 := Tryz.underlying118
  a28 := Tryz.isAgg118
  z28 := Tryz.sizeOf118
  v28 := Tryz.zeroValue118
  t33 := Tryz.underlying35
  a33 := Tryz.isAgg35
  z33 := Tryz.sizeOf35
  v33 := Tryz.zeroValue35 }
end Go.Proofs.YtjcjaonfhlfnaaaGreatDoor
end
section
set_option linter.unusedVariables false
set_option linter.unusedSimpArgs false
namespace Go.Ab
open Go
def sortT (l : List (List UInt8)) : List (List UInt8) := l.mergeSort fun x y => decide (x ≤ y)
theorem leT_trans (a b c : List UInt8) : decide (a ≤ b) = true → decide (b ≤ c) = true → decide (a ≤ c) = true := by
  simp only [decide_eq_true_eq]; exact fun h1 h2 => List.le_trans h1 h2
theorem leT_total (a b : List UInt8) : (decide (a ≤ b) || decide (b ≤ a)) = true := by
  simp only [Bool.or_eq_true, decide_eq_true_eq]; exact List.le_total a b
theorem perm_sorted : ∀ {a b : List (List UInt8)}, a.Perm b → a.Pairwise (fun x y => x ≤ y) → b.Pairwise (fun x y => x ≤ y) → a = b
  | [], b, h, _, _ => (List.nil_perm.1 h).symm
  | x :: a, [], h, _, _ => absurd h.length_eq (by simp)
  | x :: a, y :: b, h, h1, h2 => by
    obtain ⟨p1, p2⟩ := List.pairwise_cons.1 h1
    obtain ⟨q1, q2⟩ := List.pairwise_cons.1 h2
    have hxy : x = y := by
      have hx : x ∈ y :: b := h.mem_iff.1 (List.mem_cons_self ..)
      have hy : y ∈ x :: a := h.mem_iff.2 (List.mem_cons_self ..)
      rcases List.mem_cons.1 hx with hx | hx
      · exact hx
      · rcases List.mem_cons.1 hy with hy | hy
        · exact hy.symm
        · exact List.le_antisymm (p1 y hy) (q1 x hx)
    subst hxy
    rw [perm_sorted (List.Perm.cons_inv h) p2 q2]
theorem sortT_pw (l : List (List UInt8)) : (sortT l).Pairwise fun x y => x ≤ y := by
  have := List.pairwise_mergeSort (le := fun x y : List UInt8 => decide (x ≤ y)) leT_trans leT_total l
  exact this.imp (fun h => by simpa using h)
theorem sortT_perm (l : List (List UInt8)) : (sortT l).Perm l := List.mergeSort_perm _ _
theorem sortT_eq {a b : List (List UInt8)} (h : a.Perm b) : sortT a = sortT b :=
  perm_sorted ((sortT_perm a).trans (h.trans (sortT_perm b).symm)) (sortT_pw a) (sortT_pw b)
end Go.Ab
end
section
set_option linter.unusedVariables false
set_option linter.unusedSimpArgs false
namespace Go.Ab
open Go
theorem Inv.grown {cx : Cx} {r : Rl} {σ : Heap} {w w' : World} (hi : Inv cx r σ w) (hsame : ∀ b, b < w.heap.size → w'.heap[b]? = w.heap[b]?) (hs : w.heap.size ≤ w'.heap.size) (hos : w'.os = w.os) (hout : w'.output = w.output) (htape : w'.tape = w.tape) :
    Inv cx r σ w' ∧ Ext r σ w r σ w' := by
  have hsize : ∀ (b : Nat) (c : Array Value) (t : TypeId) (f : Nat × Nat), w.heap[b]? = some (Obj.cells c t f) → ∃ (c' : Array Value) (f' : Nat × Nat), w'.heap[b]? = some (Obj.cells c' t f') ∧ c'.size = c.size := by
    intro b c t f h
    have hlt : b < w.heap.size := by
      rcases Nat.lt_or_ge b w.heap.size with h' | h'
      · exact h'
      · simp [Array.getElem?_eq_none h'] at h
    exact ⟨c, f, by rw [hsame b hlt, h], rfl⟩
  have g : Grow r w r w' := ⟨fun _ h => h, fun _ h => h, fun _ _ _ h => h, fun b hb => hsame b (hi.Ilt b hb), hsize⟩
  refine ⟨⟨?_, fun id ver b o h => ?_, hi.inj, hi.imm, fun b hb => Nat.lt_of_lt_of_le (hi.Ilt b hb) hs, hi.SI, hi.glob.mono g hi.SI⟩, ?_⟩
  · intro id ver x hx
    rcases hi.box id ver x hx with ⟨b, o, h1, h2⟩ | h1
    · exact .inl ⟨b, o, h1, h2.mono g (hsame b h2.lt)⟩
    · exact .inr h1
  · obtain ⟨h1, h2⟩ := hi.lt id ver b o h
    exact ⟨h1, Nat.lt_of_lt_of_le h2 hs⟩
  · exact ⟨fun _ h => h, fun _ h => h, fun _ h => .inl h, fun _ h => .inl h, fun _ _ _ h => h, hs, Nat.le_refl _, fun b hb _ => hsame b hb, fun _ h => .inl h, hsize, hos, hout, htape, fun id ver b o h => .inl ⟨ver, o, h⟩⟩
theorem Inv.whole {cx : Cx} {r : Rl} {σ : Heap} {w : World} {g : Nat} {vs : Array Value} {name : String} (hi : Inv cx r σ w) (hg : cx.P.globalNamed name = some g) (hx : cx.X g = some vs) : w.var? cx.P name = some vs := by
  obtain ⟨_, t, f, h⟩ := hi.glob.X g vs hx
  unfold World.var?
  rw [hg]
  show (match w.heap[g]? with | some (.cells cs _ _) => some cs | _ => none) = _
  rw [h]
end Go.Ab
end
section
set_option linter.unusedVariables false
set_option linter.unusedSimpArgs false
namespace Go.Ab
open Go Go.Shelf Go.RowKit Go.Maps Go.Sort
theorem Inv.adopt {cx : Cx} {r : Rl} {σ : Heap} {w : World} {b : Nat} (hi : Inv cx r σ w) (hb : b < w.heap.size) (hl : ¬ Live r σ b) : Inv cx (r.add b) σ w ∧ Grow r w (r.add b) w := by
  have g : Grow r w (r.add b) w := ⟨fun _ h => .inl h, fun _ h => .inl h, fun _ _ _ h => h, fun _ _ => rfl, fun b c t f h => ⟨c, f, h, rfl⟩⟩
  refine ⟨⟨fun id ver x hx => ?_, hi.lt, hi.inj, fun k hk hI => ?_, fun k hk => ?_, fun k hk => ?_, hi.glob.mono g hi.SI⟩, g⟩
  · rcases hi.box id ver x hx with ⟨b', o, h1, h2⟩ | h1
    · exact .inl ⟨b', o, h1, h2.mono g rfl⟩
    · exact .inr h1
  · rcases hI with hI | rfl
    · exact hi.imm k hk hI
    · exact hl hk
  · rcases hk with hk | rfl
    · exact hi.Ilt k hk
    · exact hb
  · rcases hk with hk | hk
    · exact .inl (hi.SI k hk)
    · exact .inr hk
section
variable {cx : Cx} {ρ : Ren}
theorem Keys_gen (L : Go.Proofs.SlLaysZ.n7 cx.P ρ) (he : Enters cx.P (ρ.f 7)) {σ : Heap} {id ver i v : Nat} {σ' : Heap} (ha : allocH σ (.cells [.map id ver] ⟨false, some (ρ.t 23)⟩) = (i, v, σ')) :
    CallOk cx (ρ.f 7) [.map id ver] σ (fun e s => e = .ret (.func (.func (ρ.f 10)) [] [.ptr i v 0]) ∧ s = σ') := by
  refine ⟨he, fun r w vs hi hv => ?_⟩
  obtain ⟨hs, hv⟩ := hv
  have g0 := hv 0 (by simp)
  have hvs : vs = #[vs.getD 0 undef] := by
    have hs : vs.size = 1 := hs
    refine Array.ext (by simp [hs]) fun j h1 h2 => ?_
    match j, h1 with
    | 0, h1 => simp [Array.getD, h1]
    | j + 1, h1 => omega
  rw [hvs]
  generalize vs.getD 0 undef = z at g0
  have g0 : VRel r w z (.map id ver) := g0
  cases g0 with
  | map hρ =>
    rename_i b o
    refine (callsIn_wide.1 (Go.Proofs.AnyZ.keys_in L Fence.wide 5 trivial rfl (some b) w)).mono ?_
    rintro e w' ⟨rfl, rfl⟩
    obtain ⟨r', k1, k2, k3, k4, k5⟩ := hi.newCells (c := #[.map (some b)]) (t := ρ.t 23) (cs := [.map id ver]) ha (fun j hj => by
      have : j = 0 := by simpa using hj
      subst this
      exact ⟨_, rfl, .map hρ⟩) (by intro x hx; simp at hx; subst hx; rfl) (fun T h => by cases h; rfl)
    exact ⟨_, _, r', ⟨rfl, rfl⟩, .func rfl (fun j hj => absurd hj (by simp)) rfl (fun j hj => by
      have : j = 0 := by simpa using hj
      subst this
      exact VRel.ptr (o := 0) (off := 0) k3), k1, k2⟩
theorem ones_map_str (l : List (List UInt8)) : (l.map AV.str).flatMap AV.cells = l.map AV.str := by
  induction l with
  | nil => rfl
  | cons x r ih => rw [List.map_cons, List.flatMap_cons, ih]; rfl
theorem keys_own {P : Program} {k : TypeId} (hk : P.underlying k = some .string) {r : Rl} {w : World} {es : Array MapEntry} {clock mb : Nat} {kvs : List (AV × AV)} {st : Option (List Nat × Nat)} (hb : w.heap[mb]? = some (.map es clock)) (hm : MapIs r w es clock kvs st)
    {ks : List (List UInt8)} (hks : kvs.map Prod.fst = ks.map AV.str) (hnd : ks.Nodup) (hlen : ks.length ≤ 100000000000) (hsz : ∀ x ∈ ks, x.length ≤ maxLen) :
    ∃ D : DataW Unit, w.ownsMap P k (fun _ => some (DataW.nil, [])) mb ks.length D ∧ (strKeys D).Perm ks ∧ Maps.size D = ks.length := by
  have hl : kvs.length = ks.length := by have := congrArg List.length hks; simpa using this
  have hel : ∀ (j : Nat) (hj : j < ks.length), ∃ e, es[j]? = some e ∧ ∃ s : ByteArray, e.key = .string s ∧ s.data.toList = ks[j] := by
    intro j hj
    obtain ⟨e, h1, h2, h3⟩ := hm.2.1 j (by omega)
    have : (kvs[j]'(by omega)).1 = .str ks[j] := by
      have h4 : (kvs.map Prod.fst)[j]? = (ks.map AV.str)[j]? := by rw [hks]
      rw [List.getElem?_map, List.getElem?_map, List.getElem?_eq_getElem (by omega), List.getElem?_eq_getElem hj] at h4
      exact Option.some.inj h4
    rw [this] at h2
    refine ⟨e, h1, ?_⟩
    generalize e.key = z at h2
    cases h2 with
    | str hs => exact ⟨_, rfl, hs⟩
  have hes : es.size = ks.length := by rw [hm.1, hl]
  have hmem : ∀ x ∈ es.toList, ∃ (j : Nat) (hj : j < ks.length), es[j]? = some x ∧ ∃ s : ByteArray, x.key = .string s ∧ s.data.toList = ks[j] := by
    intro x hx
    obtain ⟨j, hj, rfl⟩ := List.getElem_of_mem hx
    rw [Array.length_toList] at hj
    obtain ⟨e, h1, h2⟩ := hel j (by omega)
    have h3 : es[j]? = some es.toList[j] := by rw [Array.getElem?_eq_getElem hj]; simp
    rw [h3] at h1
    obtain rfl := Option.some.inj h1
    exact ⟨j, by omega, h3, h2⟩
  let R : Value → Option (DataW Unit × List MemPlace) := fun _ => some (DataW.nil, [])
  have hrd : ∀ x ∈ es.toList, ∃ (j : Nat) (hj : j < ks.length), WideElems.rd P k R x = some (.string ks[j], DataW.nil) := by
    intro x hx
    obtain ⟨j, hj, _, s, h2, h3⟩ := hmem x hx
    refine ⟨j, hj, ?_⟩
    have hsl : s.size ≤ maxLen := by
      have := hsz ks[j] (List.getElem_mem hj)
      rw [← h3, Array.length_toList] at this
      exact this
    unfold WideElems.rd
    rw [h2, WideMaps.keyOf_string_mk hk hsl, h3]; rfl
  have hlist : es.toList.map (fun x => strOf (WideElems.rg P k R x).1) = ks := by
    apply List.ext_getElem
    · rw [List.length_map, Array.length_toList, hes]
    · intro j h1 h2
      obtain ⟨e, k1, s, k2, k3⟩ := hel j h2
      have hsl : s.size ≤ maxLen := by
        have := hsz ks[j] (List.getElem_mem h2)
        rw [← k3, Array.length_toList] at this
        exact this
      have hje : es.toList[j]'(by simpa using h1) = e := by
        have h3 : es[j]? = some (es.toList[j]'(by simpa using h1)) := by rw [Array.getElem?_eq_getElem (by rw [List.length_map, Array.length_toList] at h1; exact h1)]; simp
        rw [h3] at k1; exact Option.some.inj k1
      rw [List.getElem_map, hje]
      unfold WideElems.rg WideElems.rd
      rw [k2, WideMaps.keyOf_string_mk hk hsl, k3]; rfl
  refine ⟨.map ((es.toList.map (WideElems.rg P k R)).foldr DataW.insert []), ⟨es, clock, hb, ⟨?_, ⟨?_, ?_, ?_⟩, ?_⟩, by omega, rfl⟩, ?_, ?_⟩
  · rw [hes]; unfold maxLen; omega
  · intro x hx
    obtain ⟨j, hj, h1, _⟩ := hmem x hx
    exact hm.2.2.2.1 j x h1
  · refine List.pairwise_iff_getElem.2 (fun p q hp hq hpq hee => ?_)
    rw [List.length_map, Array.length_toList] at hp hq
    simp only [List.getElem_map, Array.getElem_toList] at hee
    have := hm.2.2.1 p q _ _ (Array.getElem?_eq_getElem hp) (Array.getElem?_eq_getElem hq) hee
    omega
  · refine List.pairwise_iff_getElem.2 (fun p q hp hq hpq hee => ?_)
    rw [List.length_map, Array.length_toList] at hp hq
    simp only [List.getElem_map, Array.getElem_toList] at hee
    obtain ⟨e1, a1, s1, a2, a3⟩ := hel p (by omega)
    obtain ⟨e2, b1, s2, b2, b3⟩ := hel q (by omega)
    rw [Array.getElem?_eq_getElem hp] at a1
    rw [Array.getElem?_eq_getElem hq] at b1
    rw [Option.some.inj a1, Option.some.inj b1, a2, b2] at hee
    cases hee
    have : ks[p]'(by omega) = ks[q]'(by omega) := by rw [← a3, ← b3]
    exact (List.pairwise_iff_getElem.1 hnd p q (by omega) (by omega) hpq) this
  · intro x hx
    obtain ⟨j, hj, h⟩ := hrd x hx
    exact ⟨_, h⟩
  · show (List.map (fun p : Lit × DataW Unit => strOf p.1) _).Perm ks
    refine ((WideShapes.sorted_perm _).map _).trans ?_
    rw [List.map_map]
    exact List.Perm.of_eq hlist
  · show List.length _ = ks.length
    rw [length_sorted, List.length_map, Array.length_toList, hes]
theorem Sorted_gen {ρk : Ren} (Lk : Go.Proofs.SlLaysZ.n7 cx.P ρk) (Ls : Go.Proofs.SlLaysZ.n6 cx.P ρ) (hsort : ∀ m, Go.Proofs.AnyZ.SortsIn cx.P ρ Fence.wide m) (he : Enters cx.P (ρ.f 6)) (e9 : ∀ args w, (callFunc (ρ.f 9) args).run cx.P w = .ok (.enter (ρ.f 9) args) w)
    (eg : ∀ args w, (callFunc (ρk.f 10) args).run cx.P w = .ok (.enter (ρk.f 10) args) w) (hk : cx.P.underlying (ρk.t 26) = some .string) {σ : Heap} {id ver i v : Nat} {kvs : List (AV × AV)} {st : Option (List Nat × Nat)} {T : TypeId}
    (hσi : σ[i]? = some (v, some (.cells [.map id ver] ⟨false, some T⟩))) (hσ : σ[id]? = some (ver, some (.map kvs st))) {ks : List (List UInt8)} (hks : kvs.map Prod.fst = ks.map AV.str) (hnd : ks.Nodup) (hlen : ks.length ≤ 100000000000) (hsz : ∀ x ∈ ks, x.length ≤ maxLen) :
    CallOk cx (ρ.f 6) [.func (.func (ρk.f 10)) [] [.ptr i v 0]] σ (fun e s => e = .ret (.sl true false 1 ((sortT ks).map AV.str)) ∧ s = σ) := by
  refine ⟨he, fun r w vs hi hv => ?_⟩
  obtain ⟨hs, hv⟩ := hv
  have g0 := hv 0 (by simp)
  have hvs : vs = #[vs.getD 0 undef] := by
    have hs : vs.size = 1 := hs
    refine Array.ext (by simp [hs]) fun j h1 h2 => ?_
    match j, h1 with
    | 0, h1 => simp [Array.getD, h1]
    | j + 1, h1 => omega
  rw [hvs]
  generalize vs.getD 0 undef = z at g0
  have g0 : VRel r w z (.func (.func (ρk.f 10)) [] [.ptr i v 0]) := g0
  cases g0 with
  | func h1 hf h2 hb =>
    rename_i first captured
    have hfirst : first = #[] := Array.eq_empty_of_size_eq_zero h1
    have hp := hb 0 (by simp)
    have hcap : captured = #[captured.getD 0 undef] := by
      have h2 : captured.size = 1 := h2
      refine Array.ext (by simp [h2]) fun j h1 h2 => ?_
      match j, h1 with
      | 0, h1 => simp [Array.getD, h1]
      | j + 1, h1 => omega
    rw [hcap, hfirst]
    generalize captured.getD 0 undef = pz at hp
    have hp : VRel r w pz (.ptr i v 0) := hp
    cases hp with
    | ptr hρ =>
      rename_i b1 o1
      rcases hi.box i v _ hσi with ⟨b1', o', hρ', hbx⟩ | ⟨_, ro, h⟩
      case inr => cases h
      rw [hρ] at hρ'
      obtain ⟨rfl, rfl⟩ : b1 = b1' ∧ o1 = o' := by cases hρ'; exact ⟨rfl, rfl⟩
      obtain ⟨c, t, lo, hi0, q1, q2, q3, q4, q5⟩ := hbx
      obtain ⟨_, rfl, _⟩ := q5 T rfl
      obtain ⟨mv, m1, m2⟩ := q2 0 (by simp)
      have m2 : VRel r w mv (.map id ver) := m2
      obtain ⟨mb, es, clock, rfl, hρm, hmb, hmi⟩ := hi.mapAt hσ m2
      have hcell : w.cell? ⟨b1, 0, none⟩ = some (.map (some mb)) := by simp [World.cell?, q1, ← m1]
      have hb1 : b1 < w.heap.size := (hi.lt _ _ _ _ hρ).2
      obtain ⟨D, d1, d2, d3⟩ := keys_own hk hmb hmi hks hnd hlen hsz
      have hseq := Go.Proofs.AnyZ.keys_gives (ρ := ρk) { Lk with } Fence.wide 2 trivial rfl (by omega) b1 mb ks.length D w hb1 hcell d1
      have hc := Go.Proofs.AnyZ.sorted_in Ls Fence.wide 5 trivial trivial trivial trivial rfl (by omega) (hsort _) e9 (ρk.f 10) #[.pointer (some ⟨b1, 0, none⟩)] trivial eg _ _ (by rw [d3]; unfold maxLen; omega) (by rw [d3]; omega) w hseq
      refine (callsIn_wide.1 hc).mono ?_
      rintro e w' ⟨v', ss, rfl, hS, hrow, hnil, hbel⟩
      obtain ⟨p1, p2⟩ := hi.grown (w' := w') hbel.block hbel.size hbel.os hbel.output hbel.tape
      have hss : (ss.mergeSort fun x y => decide (x ≤ y)) = sortT ks := sortT_eq (hS.trans d2)
      have hsl : ss.length = (sortT ks).length := by rw [← hss, List.length_mergeSort]
      rw [hss] at hrow
      rcases hrow.2 with ⟨rfl, hz⟩ | ⟨gb, cap, cur, rfl, hbase, hgb, r1, r2, r3, r4⟩
      · have hke : sortT ks = [] := List.length_eq_zero_iff.1 (by omega)
        rw [hke]
        exact ⟨_, _, r, ⟨rfl, rfl⟩, .sl0 (fun h => by cases h), p1, p2⟩
      · have hlt : gb < w'.heap.size := by
          rcases Nat.lt_or_ge gb w'.heap.size with h | h
          · exact h
          · rw [Array.getElem?_eq_none h] at hgb; cases hgb
        have hnl : ¬ Live r σ gb := by
          rintro ⟨id', ver', x, o, _, h2⟩
          have := (hi.lt _ _ _ _ h2).2
          omega
        obtain ⟨a1, a2⟩ := p1.adopt hlt hnl
        have hx : Ext r σ w (r.add gb) σ w' :=
          ⟨fun b h => .inl h, fun b h => .inl h, fun b h => h.elim .inl (fun e => .inr (by omega)), fun b h => h.elim .inl (fun e => .inr (.inr (by omega))), p2.ρ, p2.hs, p2.σl, p2.same, p2.liv, p2.size, p2.os, p2.output, p2.tape, p2.blk⟩
        refine ⟨_, _, r.add gb, ⟨rfl, rfl⟩, ?_, a1, hx⟩
        rw [hsl]
        refine Cells.sl (by rw [List.length_map]) (by rw [← hsl]; exact r1) (fun h => by cases h) (.inr rfl) (fun _ => .inr rfl) (fun x hx => by obtain ⟨y, _, rfl⟩ := List.mem_map.1 hx; rfl) ?_
        intro j hj
        rw [ones_map_str, List.length_map] at hj
        have hcj : cur[0 + j]? = some (Go.Proofs.encStr (sortT ks)[j]) := by
          have h5 : (cur.toList.take (ss.length * 1))[j]? = ((sortT ks).map Go.Proofs.encStr)[j]? := by rw [r4]
          rw [List.getElem?_take_of_lt (by omega), List.getElem?_map, List.getElem?_eq_getElem hj, Array.getElem?_toList] at h5
          rw [Nat.zero_add]; exact h5
        refine ⟨Go.Proofs.encStr (sortT ks)[j], by simp only [World.cell?, hgb]; exact hcj, ?_⟩
        simp only [ones_map_str, List.getElem_map]
        exact .str (by simp)
end
end Go.Ab
end
section
set_option linter.unusedVariables false
set_option linter.unusedSimpArgs false
set_option maxRecDepth 20000
set_option maxHeartbeats 4000000
namespace Go.Proofs.YtjcjaonfhlfnaaaGreatDoor
open Go Go.Ab Go.Shelf Go.RowKit Go.Maps Go.Sort
theorem sorts_strM (m : Nat) : Go.Proofs.AnyZ.SortsIn Tryz.prog lay_sorted_ren Fence.wide m :=
  ⟨fun blk off cap ss W hH hblk hsz => callsIn_wide.2 (Go.Proofs.AnyM.slices_Sort_string lay_sort blk off cap ss W hH hblk hsz),
   fun p cap W => callsIn_wide.2 (Go.Proofs.AnyM.slices_Sort_string_none lay_sort p cap W)⟩
def keyL : List (AV × AV) → Option (List (List UInt8))
  | [] => some []
  | [(.str k, _)] => match Nat.ble k.length 1000 with
    | true => some [k]
    | false => none
  | _ => none
theorem keyL_ok {kvs : List (AV × AV)} {ks : List (List UInt8)} (h : keyL kvs = some ks) : kvs.map Prod.fst = ks.map AV.str ∧ ks.Nodup ∧ ks.length ≤ 100000000000 ∧ (∀ x ∈ ks, x.length ≤ maxLen) ∧ sortT ks = ks := by
  unfold keyL at h
  split at h
  · cases h; exact ⟨rfl, List.nodup_nil, by decide, (fun x h => by cases h), by simp [sortT]⟩
  · split at h
    · rename_i hb
      cases h
      refine ⟨rfl, by simp, by simp, fun x h => ?_, by simp [sortT]⟩
      rcases List.mem_singleton.1 h with rfl
      exact Nat.le_trans (Nat.le_of_ble_eq_true hb) (by unfold maxLen; decide)
    · cases h
  · cases h
def srtAt (σ : Heap) (a : List AV) : Option (Nat × Nat × Nat × TypeId × Nat × Nat × List (AV × AV)) := match a with
  | [.func (.func k) [] [.ptr i v 0]] => match σ[i]? with
    | some (cv, some (.cells [.map id ver] ⟨false, some T⟩)) => match Nat.beq cv v with
      | true => match σ[id]? with
        | some (mv, some (.map kvs _)) => match Nat.beq mv ver with
          | true => some (k, i, v, T, id, ver, kvs)
          | false => none
        | _ => none
      | false => none
    | _ => none
  | _ => none
theorem srtAt_ok {σ : Heap} {a : List AV} {k i v T id ver : Nat} {kvs : List (AV × AV)} (h : srtAt σ a = some (k, i, v, T, id, ver, kvs)) : a = [.func (.func k) [] [.ptr i v 0]] ∧ σ[i]? = some (v, some (.cells [.map id ver] ⟨false, some T⟩)) ∧ ∃ st, σ[id]? = some (ver, some (.map kvs st)) := by
  unfold srtAt at h
  split at h
  case h_2 => cases h
  split at h
  case h_2 => cases h
  rename_i h1
  split at h
  case h_2 => cases h
  rename_i h2
  split at h
  case h_2 => cases h
  rename_i h3
  split at h
  case h_2 => cases h
  rename_i h4
  cases h
  obtain rfl := Nat.eq_of_beq_eq_true h2
  obtain rfl := Nat.eq_of_beq_eq_true h4
  exact ⟨rfl, h1, _, h3⟩
def srtX (σ : Heap) (g : Nat) (a : List AV) : Option AV := match Nat.beq g 66 with
  | false => none
  | true => match srtAt σ a with
    | some (k, _, _, _, _, _, kvs) => match keyL kvs with
      | some ks => match Nat.beq k 116 || Nat.beq k 126 || Nat.beq k 230 with
        | true => some (.sl true false 1 (ks.map .str))
        | false => none
      | none => none
    | none => none
theorem srtX_ok (σ : Heap) (g : Nat) (a : List AV) (x : AV) (h : srtX σ g a = some x) : CallOk cx g a σ (fun o s => o = .ret x ∧ s = σ) := by
  unfold srtX at h
  split at h
  · cases h
  rename_i hg
  obtain rfl := Nat.eq_of_beq_eq_true hg
  split at h
  case h_2 => cases h
  rename_i k i v T id ver kvs hat
  obtain ⟨rfl, h1, st, h2⟩ := srtAt_ok hat
  split at h
  case h_2 => cases h
  rename_i ks hks
  obtain ⟨k1, k2, k3, k4, k5⟩ := keyL_ok hks
  split at h
  case h_2 => cases h
  rename_i hk
  cases h
  simp only [Bool.or_eq_true] at hk
  have e : ks.map AV.str = (sortT ks).map AV.str := by rw [k5]
  rw [e]
  rcases hk with (hk | hk) | hk <;> obtain rfl := Nat.eq_of_beq_eq_true hk
  · exact Sorted_gen (cx := cx) lay_keysX lay_sorted sorts_strM (fun a w => Tryz.call66 a w) (fun a w => Tryz.call115 a w) (fun a w => Tryz.call116 a w) Tryz.underlying9 h1 h2 k1 k2 k3 k4
  · exact Sorted_gen (cx := cx) lay_keysF lay_sorted sorts_strM (fun a w => Tryz.call66 a w) (fun a w => Tryz.call115 a w) (fun a w => Tryz.call126 a w) Tryz.underlying9 h1 h2 k1 k2 k3 k4
  · exact Sorted_gen (cx := cx) lay_keysL lay_sorted sorts_strM (fun a w => Tryz.call66 a w) (fun a w => Tryz.call115 a w) (fun a w => Tryz.call230 a w) Tryz.underlying9 h1 h2 k1 k2 k3 k4
noncomputable def purS (K : List (Known cx)) (σ : Heap) (g : FuncId) (a : List AV) : Option AV := match srtX σ g a with
  | some v => some v
  | none => lookP K σ g a
theorem purS_ok (K : List (Known cx)) (σ : Heap) (g : FuncId) (a : List AV) (v : AV) (h : purS K σ g a = some v) : CallOk cx g a σ (fun o s => o = .ret v ∧ s = σ) := by
  unfold purS at h
  split at h
  · rename_i h1; cases h; exact srtX_ok _ _ _ _ h1
  · exact lookP_ok K _ _ _ _ h
noncomputable def exS (K : List (Known cx)) : Ex cx := exX (purS K) (purS_ok K)
def keyAt (T : TypeId) (k : Nat) (a : List AV) (σ : Heap) : Option (AV × Heap) := match a with
  | [.map id ver] => match allocH σ (.cells [.map id ver] ⟨false, some T⟩) with
    | (i, v, σ') => some (.func (.func k) [] [.ptr i v 0], σ')
  | _ => none
theorem keyAt_ok {T : TypeId} {k : Nat} {a : List AV} {σ σ' : Heap} {x : AV} (h : keyAt T k a σ = some (x, σ')) : ∃ id ver i v, a = [.map id ver] ∧ allocH σ (.cells [.map id ver] ⟨false, some T⟩) = (i, v, σ') ∧ x = .func (.func k) [] [.ptr i v 0] := by
  unfold keyAt at h
  split at h
  · split at h
    rename_i ha
    cases h
    exact ⟨_, _, _, _, rfl, ha, rfl⟩
  · cases h
def orF (g : Nat) (a : List AV) (σ : Heap) : Option (AV × Heap) := match Nat.beq g 67 with
  | true => keyAt 109 116 a σ
  | false => match Nat.beq g 84 with
  | true => keyAt 147 126 a σ
  | false => match Nat.beq g 171 with
  | true => keyAt 79 230 a σ
  | false => none
theorem orF_ok (g : Nat) (a : List AV) (σ : Heap) (x : AV) (σ' : Heap) (h : orF g a σ = some (x, σ')) : CallOk cx g a σ (fun e s => e = .ret x ∧ s = σ') := by
  unfold orF at h
  split at h
  · rename_i hg
    obtain rfl := Nat.eq_of_beq_eq_true hg
    obtain ⟨id, ver, i, v, rfl, ha, rfl⟩ := keyAt_ok h
    exact Keys_gen (cx := cx) lay_keysX (fun a w => Tryz.call67 a w) ha
  split at h
  · rename_i hg
    obtain rfl := Nat.eq_of_beq_eq_true hg
    obtain ⟨id, ver, i, v, rfl, ha, rfl⟩ := keyAt_ok h
    exact Keys_gen (cx := cx) lay_keysF (fun a w => Tryz.call84 a w) ha
  split at h
  · rename_i hg
    obtain rfl := Nat.eq_of_beq_eq_true hg
    obtain ⟨id, ver, i, v, rfl, ha, rfl⟩ := keyAt_ok h
    exact Keys_gen (cx := cx) lay_keysL (fun a w => Tryz.call171 a w) ha
  · cases h
def orK : Ox cx := ⟨fun _ g a σ => orF g a σ, fun F _ g a σ x σ' h => orF_ok g a σ x σ' h⟩
end Go.Proofs.YtjcjaonfhlfnaaaGreatDoor
end
section
set_option linter.unusedVariables false
set_option linter.unusedSimpArgs false
set_option maxRecDepth 1000000
set_option maxHeartbeats 40000000
namespace Go.Proofs.YtjcjaonfhlfnaaaGreatDoor
open Go Go.Ab
def mxSplitA : List AV := [.str srcX]
def mxSplitR : AV := .tup [.sl true false 4 [.agg [.int .i64 1, .str [114, 117, 108, 101], .int .i64 0, .int .i64 0], .agg [.int .i64 4, .str [40], .int .i64 0, .int .i64 4], .agg [.int .i64 1, .str [110, 97, 109, 101], .int .i64 0, .int .i64 5], .agg [.int .i64 4, .str [61], .int .i64 0, .int .i64 9], .agg [.int .i64 3, .str [116], .int .i64 0, .int .i64 10], .agg [.int .i64 4, .str [44], .int .i64 0, .int .i64 13], .agg [.int .i64 1, .str [111, 117, 116, 115], .int .i64 0, .int .i64 15], .agg [.int .i64 4, .str [61], .int .i64 0, .int .i64 19], .agg [.int .i64 4, .str [91], .int .i64 0, .int .i64 20], .agg [.int .i64 3, .str [111], .int .i64 0, .int .i64 21], .agg [.int .i64 4, .str [93], .int .i64 0, .int .i64 24], .agg [.int .i64 4, .str [44], .int .i64 0, .int .i64 25], .agg [.int .i64 1, .str [99, 111, 109, 109, 97, 110, 100], .int .i64 0, .int .i64 27], .agg [.int .i64 4, .str [61], .int .i64 0, .int .i64 34], .agg [.int .i64 4, .str [91], .int .i64 0, .int .i64 35], .agg [.int .i64 3, .str [115, 101, 116, 32, 97, 32, 104, 105], .int .i64 0, .int .i64 36], .agg [.int .i64 4, .str [44], .int .i64 0, .int .i64 46], .agg [.int .i64 3, .str [109, 97, 107, 101, 32, 111, 32, 97], .int .i64 0, .int .i64 48], .agg [.int .i64 4, .str [93], .int .i64 0, .int .i64 58], .agg [.int .i64 4, .str [41], .int .i64 0, .int .i64 59], .agg [.int .i64 6, .str [], .int .i64 0, .int .i64 60]], .agg [.int .i64 0, .int .i64 0]]
theorem mxSplit_run : calcB ((runX cx (exS []) mX orK 1000000).1 156 mxSplitA []) mxSplitR = true := by kernel_rfl
theorem mxSplit_ok : Calc cx 156 mxSplitA mxSplitR := ran_calc _ mxSplit_run
noncomputable def mxSplitK : Known cx := ⟨(156, mxSplitA, mxSplitR), mxSplit_ok⟩
end Go.Proofs.YtjcjaonfhlfnaaaGreatDoor
end
section
set_option linter.unusedVariables false
set_option linter.unusedSimpArgs false
set_option maxRecDepth 1000000
set_option maxHeartbeats 40000000
namespace Go.Proofs.YtjcjaonfhlfnaaaGreatDoor
open Go Go.Ab
def mxParseA : List AV := [.str srcX]
def mxParseR : AV := .tup [.sl true false 10 [.agg [.int .i64 5, .str [], .nils, .int .i64 10, .int .i64 0, .str [], .sl true false 5 [.agg [.int .i64 6, .int .i64 0, .str [114, 117, 108, 101], .nils, .nils], .agg [.int .i64 5, .int .i64 0, .str [116], .nils, .nils], .agg [.int .i64 7, .int .i64 0, .str [], .sl true false 5 [.agg [.int .i64 5, .int .i64 0, .str [111], .nils, .nils]], .nils], .agg [.int .i64 7, .int .i64 0, .str [], .sl true false 5 [.agg [.int .i64 5, .int .i64 0, .str [115, 101, 116, 32, 97, 32, 104, 105], .nils, .nils], .agg [.int .i64 5, .int .i64 0, .str [109, 97, 107, 101, 32, 111, 32, 97], .nils, .nils]], .nils]], .sl true false 1 [.str [110, 97, 109, 101], .str [111, 117, 116, 115], .str [99, 111, 109, 109, 97, 110, 100]], .nils, .nils]], .agg [.int .i64 0, .int .i64 0]]
theorem mxParse_run : calcB ((runX cx (exS [mxSplitK]) mX orK 1000000).1 112 mxParseA []) mxParseR = true := by kernel_rfl
theorem mxParse_ok : Calc cx 112 mxParseA mxParseR := ran_calc _ mxParse_run
noncomputable def mxParseK : Known cx := ⟨(112, mxParseA, mxParseR), mxParse_ok⟩
end Go.Proofs.YtjcjaonfhlfnaaaGreatDoor
end
section
set_option linter.unusedVariables false
set_option linter.unusedSimpArgs false
set_option maxRecDepth 20000
namespace Go.Proofs.YtjcjaonfhlfnaaaGreatDoor
open Go Go.Ab
def nameP (c : Nat) : Prop := (97 ≤ c ∧ c ≤ 122) ∨ (48 ≤ c ∧ c ≤ 57) ∨ c = 95 ∨ c = 45 ∨ c = 46
instance (c : Nat) : Decidable (nameP c) := by unfold nameP; infer_instance
def nameB (c : UInt8) : Bool := decide (nameP c.toNat)
def isName (s : List UInt8) : Bool := s.all nameB && (decide (1 ≤ s.length) && (decide (s.length ≤ 20) && (s != [46] && s != [46, 46])))
theorem takeN {p : UInt8 → Bool} {s : List UInt8} {i : Nat} (h : i < s.length) (ha : (s.take i).all p = true) (hp : p s[i] = true) : (s.take (i + 1)).all p = true := by
  rw [List.take_succ_eq_append_getElem h, List.all_append, ha]
  simp [hp]
theorem notName {s : List UInt8} {i : Nat} (h : i < s.length) (hp : ¬ nameP s[i].toNat) : isName s = false := by
  have : s.all nameB = false := by
    rw [List.all_eq_false]
    exact ⟨s[i], List.getElem_mem h, by simp [nameB, hp]⟩
  rw [isName, this]; rfl
theorem mark_iff {r : Int} : 0 ≤ markAt r ↔ r = 95 ∨ r = 45 ∨ r = 46 := by
  unfold markAt
  split
  · exact ⟨fun _ => .inl (by assumption), fun _ => by decide⟩
  · split
    · exact ⟨fun _ => .inr (.inl (by assumption)), fun _ => by decide⟩
    · split
      · exact ⟨fun _ => .inr (.inr (by assumption)), fun _ => by decide⟩
      · exact ⟨fun h => absurd h (by decide), fun h => by omega⟩
theorem isName_ok (s : List UInt8) (hs : s.length ≤ 9223372036854775807) : Calc cx 56 [.str s] (.bool (isName s)) :=
  pure_intro (fun a w => Tryz.call56 a w) Tryz.func56 rfl Tryz.ntmps56 rfl .bool fun B => by
    refine ab 1000 rfl trivial ?_
    refine S_while (α := Nat) (fun i => [(0, .str s), (6, .ptr 0 0 0)]) (fun i => [(0, some (.siter s i))]) (fun i => i ≤ s.length ∧ (s.take i).all nameB = true) (fun i => s.length - i) 0
      ⟨Nat.zero_le _, rfl⟩ (.cons rfl (.cons rfl (.nil _))) rfl ?_
    rintro i ⟨hi, hN⟩
    refine ab 1000 rfl trivial ?_
    refine S_next rfl rfl rfl rfl rfl (fun hil => ?_) (fun hge => ?_)
    · refine ab 1000 rfl trivial ?_
      refine S_cond rfl (fun _ => ?_) (fun h => by cases h)
      refine ab 1000 rfl trivial ?_
      obtain ⟨r, wd, hrw, hhex, hwd⟩ : ∃ (r wd : Nat), decL s i = (r, wd) ∧ (nameP s[i].toNat ↔ (97 ≤ r ∧ r ≤ 122) ∨ (48 ≤ r ∧ r ≤ 57) ∨ 0 ≤ markAt r) ∧ (nameP s[i].toNat → wd = 1) := by
        by_cases hc : s[i].toNat < 128
        · exact ⟨_, _, decL_lt hil hc, by rw [mark_iff]; unfold nameP; omega, fun _ => rfl⟩
        · have h1 := decL_ge hil (by omega)
          have h2 : ¬ nameP s[i].toNat := by unfold nameP; omega
          obtain ⟨q1, q2, hq⟩ : ∃ a b, decL s i = (a, b) := ⟨_, _, rfl⟩
          rw [hq] at h1
          have h1 : 128 ≤ q1 := h1
          exact ⟨q1, q2, hq, ⟨fun h => absurd h h2, fun h => by rw [mark_iff] at h; omega⟩, fun h => absurd h h2⟩
      rw [hrw]
      refine S_split 3 (fun fr σ => Weak fr [(0, .str s), (6, .ptr 0 0 0), (4, .int .i32 (r : Nat)), (15, .bool (decide (¬ (97 ≤ r ∧ r ≤ 122))))] ∧ σ = [(0, some (.siter s (i + wd)))]) ?_ ?_
      · refine S_guard rfl rfl rfl rfl (fun h => ?_) (fun h => ?_)
        · have h : (r : Int) < 97 := of_decide_eq_true h
          refine ab 1000 rfl trivial ?_
          exact S_inv ⟨.cons rfl (.cons rfl (.cons rfl (.cons (by show AV.bool true = _; rw [decide_eq_true (by omega)]) (.nil _)))), rfl⟩
        · have h : ¬ (r : Int) < 97 := of_decide_eq_false h
          refine ab 1000 rfl trivial ?_
          exact S_inv ⟨.cons rfl (.cons rfl (.cons rfl (.cons (by show AV.bool (decide ((122 : Int) < r)) = _; exact congrArg AV.bool (decide_eq_decide.2 (by omega))) (.nil _)))), rfl⟩
      rintro fr σ ⟨hw, rfl⟩
      refine S_opsW hw ?_
      refine ab 1000 rfl trivial ?_
      refine S_split 7 (fun fr σ => Weak fr [(0, .str s), (6, .ptr 0 0 0), (4, .int .i32 (r : Nat)), (23, .bool (decide (¬ (97 ≤ r ∧ r ≤ 122) ∧ ¬ (48 ≤ r ∧ r ≤ 57))))] ∧ σ = [(0, some (.siter s (i + wd)))]) ?_ ?_
      · refine S_guard rfl rfl rfl rfl (fun h => ?_) (fun h => ?_)
        · have h : ¬ (97 ≤ r ∧ r ≤ 122) := of_decide_eq_true h
          refine ab 1000 rfl trivial ?_
          refine S_guard rfl rfl rfl rfl (fun h2 => ?_) (fun h2 => ?_)
          · have h2 : (r : Int) < 48 := of_decide_eq_true h2
            refine ab 1000 rfl trivial ?_
            exact S_inv ⟨.cons rfl (.cons rfl (.cons rfl (.cons (by show AV.bool true = _; rw [decide_eq_true (by omega)]) (.nil _)))), rfl⟩
          · have h2 : ¬ (r : Int) < 48 := of_decide_eq_false h2
            refine ab 1000 rfl trivial ?_
            exact S_inv ⟨.cons rfl (.cons rfl (.cons rfl (.cons (by show AV.bool (decide ((57 : Int) < r)) = _; exact congrArg AV.bool (decide_eq_decide.2 (by omega))) (.nil _)))), rfl⟩
        · have h : ¬ ¬ (97 ≤ r ∧ r ≤ 122) := of_decide_eq_false h
          refine ab 1000 rfl trivial ?_
          exact S_inv ⟨.cons rfl (.cons rfl (.cons rfl (.cons (by show AV.bool false = _; rw [decide_eq_false (by omega)]) (.nil _)))), rfl⟩
      rintro fr σ ⟨hw, rfl⟩
      refine S_opsW hw ?_
      refine ab 1000 rfl trivial ?_
      have no : ¬ nameP s[i].toNat → AV.bool false = .bool (isName s) := fun h => by rw [notName hil h]
      have yes : nameP s[i].toNat → nameB s[i] = true := fun h => decide_eq_true h
      refine S_guard rfl rfl rfl rfl (fun h => ?_) (fun h => ?_)
      · have h : ¬ (97 ≤ r ∧ r ≤ 122) ∧ ¬ (48 ≤ r ∧ r ≤ 57) := of_decide_eq_true h
        refine ab 1000 rfl trivial ?_
        refine S_pure rfl rfl rfl (containsRune_ok r) (.cons (.refl .str) (.cons (.refl .int) (.nil _))) ?_
        refine ab 1000 rfl trivial ?_
        refine S_cond rfl (fun h3 => ?_) (fun h3 => ?_)
        · have h3 : (!decide (0 ≤ markAt r)) = true := h3
          have h4 : ¬ 0 ≤ markAt r := by simpa using h3
          refine ab 1000 rfl trivial ?_
          exact S_retc .bool rfl trivial (no (fun hn => by have := hhex.1 hn; omega))
        · have h3 : (!decide (0 ≤ markAt r)) = false := h3
          have h4 : 0 ≤ markAt r := by simpa using h3
          have hn := hhex.2 (.inr (.inr h4))
          have := hwd hn
          subst this
          refine ab 1000 rfl trivial ?_
          exact S_round (i + 1) (by show s.length - (i + 1) < s.length - i; omega) ⟨hil, takeN hil hN (yes hn)⟩ (.cons rfl (.cons rfl (.nil _))) rfl
      · have h : ¬ (¬ (97 ≤ r ∧ r ≤ 122) ∧ ¬ (48 ≤ r ∧ r ≤ 57)) := of_decide_eq_false h
        have hn := hhex.2 (by omega)
        have := hwd hn
        subst this
        refine ab 1000 rfl trivial ?_
        refine S_cond rfl (fun h => by cases h) (fun _ => ?_)
        refine ab 1000 rfl trivial ?_
        exact S_round (i + 1) (by show s.length - (i + 1) < s.length - i; omega) ⟨hil, takeN hil hN (yes hn)⟩ (.cons rfl (.cons rfl (.nil _))) rfl
    · have hil : i = s.length := by omega
      refine ab 1000 rfl trivial ?_
      refine S_cond rfl (fun h => by cases h) (fun _ => ?_)
      refine ab 1000 rfl trivial ?_
      rw [hil, List.take_length] at hN
      refine S_guard rfl rfl rfl rfl (fun h => ?_) (fun h => ?_)
      · have h : (1 : Int) ≤ (s.length : Nat) := of_decide_eq_true h
        refine ab 1000 rfl trivial ?_
        refine S_guard rfl rfl rfl rfl (fun h2 => ?_) (fun h2 => ?_)
        · have h2 : (s.length : Int) ≤ 20 := of_decide_eq_true h2
          refine ab 1000 rfl trivial ?_
          refine S_guard rfl rfl rfl rfl (fun h3 => ?_) (fun h3 => ?_)
          · refine ab 1000 rfl trivial ?_
            refine S_retc .bool rfl trivial ?_
            show AV.bool (!(s == [46, 46])) = _
            have h3 : (!(s == [46])) = true := h3
            rw [isName, hN, decide_eq_true (p := 1 ≤ s.length) (by omega), decide_eq_true (p := s.length ≤ 20) (by omega), bne, h3]; rfl
          · refine ab 1000 rfl trivial ?_
            refine S_retc .bool rfl trivial ?_
            have h3 : (!(s == [46])) = false := h3
            rw [isName, hN, decide_eq_true (p := 1 ≤ s.length) (by omega), decide_eq_true (p := s.length ≤ 20) (by omega), bne, h3]; rfl
        · have h2 : ¬ (s.length : Int) ≤ 20 := of_decide_eq_false h2
          refine ab 1000 rfl trivial ?_
          refine S_guard rfl rfl rfl rfl (fun h => by cases h) (fun _ => ?_)
          refine ab 1000 rfl trivial ?_
          refine S_retc .bool rfl trivial ?_
          rw [isName, hN, decide_eq_false (p := s.length ≤ 20) (by omega)]; simp; rfl
      · have h : ¬ (1 : Int) ≤ (s.length : Nat) := of_decide_eq_false h
        refine ab 1000 rfl trivial ?_
        refine S_guard rfl rfl rfl rfl (fun h => by cases h) (fun _ => ?_)
        refine ab 1000 rfl trivial ?_
        refine S_guard rfl rfl rfl rfl (fun h => by cases h) (fun _ => ?_)
        refine ab 1000 rfl trivial ?_
        refine S_retc .bool rfl trivial ?_
        rw [isName, hN, decide_eq_false (p := 1 ≤ s.length) (by omega)]; rfl
theorem IsName_ok (s : List UInt8) (hs : s.length ≤ 9223372036854775807) : Calc cx 43 [.str s] (.bool (isName s)) :=
  pure_intro (fun a w => Tryz.call43 a w) Tryz.func43 rfl Tryz.ntmps43 rfl .bool fun B => by
    refine ab 1000 rfl trivial ?_
    refine S_while (α := Nat) (fun i => [(0, .str s), (3, .int .i64 (i : Nat))]) (fun i => []) (fun i => i ≤ s.length ∧ (s.take i).all nameB = true) (fun i => s.length - i) 0
      ⟨Nat.zero_le _, rfl⟩ (.cons rfl (.cons rfl (.nil _))) rfl ?_
    rintro i ⟨hi, hN⟩
    refine ab 1000 rfl trivial ?_
    refine S_dec rfl (fun hil => ?_) (fun hil => ?_)
    · have hil : i < s.length := Int.ofNat_lt.1 hil
      refine ab 1000 rfl ⟨Int.ofNat_lt.2 hil, by omega, trivial⟩ ?_
      obtain ⟨c, hc⟩ : ∃ c : Nat, c = s[i].toNat := ⟨_, rfl⟩
      have hget : s.getD ((i : Int)).toNat 0 = s[i] := by rw [Int.toNat_natCast]; simp [List.getD, hil]
      refine S_opsW (fr' := [(0, .str s), (3, .int .i64 (i : Nat)), (4, .int .u8 (c : Nat)), (16, .bool (decide (97 ≤ (c : Int))))]) (.cons rfl (.cons rfl (.cons ?_ (.cons ?_ (.nil _))))) ?_
      · show AV.int .u8 (((s.getD ((i : Int)).toNat 0).toNat : Nat) : Int) = _
        rw [hget, hc]
      · show AV.bool (decide (97 ≤ ((((s.getD ((i : Int)).toNat 0).toNat : Nat)) : Int))) = _
        rw [hget, hc]
      refine S_split 3 (fun fr σ => Weak fr [(0, .str s), (3, .int .i64 (i : Nat)), (4, .int .u8 (c : Nat)), (19, .bool (decide (97 ≤ c ∧ c ≤ 122)))] ∧ σ = []) ?_ ?_
      · refine S_guard rfl rfl rfl rfl (fun h => ?_) (fun h => ?_)
        · have h : (97 : Int) ≤ c := of_decide_eq_true h
          refine ab 1000 rfl trivial ?_
          exact S_inv ⟨.cons rfl (.cons rfl (.cons rfl (.cons (by show AV.bool (decide ((c : Int) ≤ 122)) = _; exact congrArg AV.bool (decide_eq_decide.2 (by omega))) (.nil _)))), rfl⟩
        · have h : ¬ (97 : Int) ≤ c := of_decide_eq_false h
          refine ab 1000 rfl trivial ?_
          exact S_inv ⟨.cons rfl (.cons rfl (.cons rfl (.cons (by show AV.bool false = _; rw [decide_eq_false (by omega)]) (.nil _)))), rfl⟩
      rintro fr σ ⟨hw, rfl⟩
      refine S_opsW hw ?_
      refine ab 1000 rfl trivial ?_
      refine S_split 7 (fun fr σ => Weak fr [(0, .str s), (3, .int .i64 (i : Nat)), (4, .int .u8 (c : Nat)), (27, .bool (decide ((97 ≤ c ∧ c ≤ 122) ∨ (48 ≤ c ∧ c ≤ 57))))] ∧ σ = []) ?_ ?_
      · refine S_guard rfl rfl rfl rfl (fun h => ?_) (fun h => ?_)
        · have h : (97 ≤ c ∧ c ≤ 122) := of_decide_eq_true h
          refine ab 1000 rfl trivial ?_
          exact S_inv ⟨.cons rfl (.cons rfl (.cons rfl (.cons (by show AV.bool true = _; rw [decide_eq_true (by omega)]) (.nil _)))), rfl⟩
        · have h : ¬ (97 ≤ c ∧ c ≤ 122) := of_decide_eq_false h
          refine ab 1000 rfl trivial ?_
          refine S_guard rfl rfl rfl rfl (fun h2 => ?_) (fun h2 => ?_)
          · have h2 : (48 : Int) ≤ c := of_decide_eq_true h2
            refine ab 1000 rfl trivial ?_
            exact S_inv ⟨.cons rfl (.cons rfl (.cons rfl (.cons (by show AV.bool (decide ((c : Int) ≤ 57)) = _; exact congrArg AV.bool (decide_eq_decide.2 (by omega))) (.nil _)))), rfl⟩
          · have h2 : ¬ (48 : Int) ≤ c := of_decide_eq_false h2
            refine ab 1000 rfl trivial ?_
            exact S_inv ⟨.cons rfl (.cons rfl (.cons rfl (.cons (by show AV.bool false = _; rw [decide_eq_false (by omega)]) (.nil _)))), rfl⟩
      rintro fr σ ⟨hw, rfl⟩
      refine S_opsW hw ?_
      have beqd : ∀ k : Nat, ((c : Int) == (k : Int)) = decide (c = k) := fun k => by
        by_cases h : c = k
        · subst h; simp
        · have : ¬ (c : Int) = (k : Int) := by omega
          rw [decide_eq_false h, beq_eq_false_iff_ne.2 this]
      refine ab 1000 rfl trivial ?_
      refine S_split 3 (fun fr σ => Weak fr [(0, .str s), (3, .int .i64 (i : Nat)), (4, .int .u8 (c : Nat)), (31, .bool (decide (((97 ≤ c ∧ c ≤ 122) ∨ (48 ≤ c ∧ c ≤ 57)) ∨ c = 95)))] ∧ σ = []) ?_ ?_
      · refine S_guard rfl rfl rfl rfl (fun h => ?_) (fun h => ?_)
        · have h : (97 ≤ c ∧ c ≤ 122) ∨ (48 ≤ c ∧ c ≤ 57) := of_decide_eq_true h
          refine ab 1000 rfl trivial ?_
          exact S_inv ⟨.cons rfl (.cons rfl (.cons rfl (.cons (by show AV.bool true = _; rw [decide_eq_true (by omega)]) (.nil _)))), rfl⟩
        · have h : ¬ ((97 ≤ c ∧ c ≤ 122) ∨ (48 ≤ c ∧ c ≤ 57)) := of_decide_eq_false h
          refine ab 1000 rfl trivial ?_
          exact S_inv ⟨.cons rfl (.cons rfl (.cons rfl (.cons (by show AV.bool ((c : Int) == ((95 : Nat) : Int)) = _; rw [beqd]; exact congrArg AV.bool (decide_eq_decide.2 (by omega))) (.nil _)))), rfl⟩
      rintro fr σ ⟨hw, rfl⟩
      refine S_opsW hw ?_
      refine ab 1000 rfl trivial ?_
      refine S_split 3 (fun fr σ => Weak fr [(0, .str s), (3, .int .i64 (i : Nat)), (4, .int .u8 (c : Nat)), (35, .bool (decide (((97 ≤ c ∧ c ≤ 122) ∨ (48 ≤ c ∧ c ≤ 57)) ∨ c = 95 ∨ c = 45)))] ∧ σ = []) ?_ ?_
      · refine S_guard rfl rfl rfl rfl (fun h => ?_) (fun h => ?_)
        · have h : ((97 ≤ c ∧ c ≤ 122) ∨ (48 ≤ c ∧ c ≤ 57)) ∨ c = 95 := of_decide_eq_true h
          refine ab 1000 rfl trivial ?_
          exact S_inv ⟨.cons rfl (.cons rfl (.cons rfl (.cons (by show AV.bool true = _; rw [decide_eq_true (by omega)]) (.nil _)))), rfl⟩
        · have h : ¬ (((97 ≤ c ∧ c ≤ 122) ∨ (48 ≤ c ∧ c ≤ 57)) ∨ c = 95) := of_decide_eq_false h
          refine ab 1000 rfl trivial ?_
          exact S_inv ⟨.cons rfl (.cons rfl (.cons rfl (.cons (by show AV.bool ((c : Int) == ((45 : Nat) : Int)) = _; rw [beqd]; exact congrArg AV.bool (decide_eq_decide.2 (by omega))) (.nil _)))), rfl⟩
      rintro fr σ ⟨hw, rfl⟩
      refine S_opsW hw ?_
      refine ab 1000 rfl trivial ?_
      refine S_split 3 (fun fr σ => Weak fr [(0, .str s), (3, .int .i64 (i : Nat)), (39, .bool (decide (nameP c)))] ∧ σ = []) ?_ ?_
      · refine S_guard rfl rfl rfl rfl (fun h => ?_) (fun h => ?_)
        · have h : ((97 ≤ c ∧ c ≤ 122) ∨ (48 ≤ c ∧ c ≤ 57)) ∨ c = 95 ∨ c = 45 := of_decide_eq_true h
          refine ab 1000 rfl trivial ?_
          exact S_inv ⟨.cons rfl (.cons rfl (.cons (by show AV.bool true = _; rw [decide_eq_true (by unfold nameP; omega)]) (.nil _))), rfl⟩
        · have h : ¬ (((97 ≤ c ∧ c ≤ 122) ∨ (48 ≤ c ∧ c ≤ 57)) ∨ c = 95 ∨ c = 45) := of_decide_eq_false h
          refine ab 1000 rfl trivial ?_
          exact S_inv ⟨.cons rfl (.cons rfl (.cons (by show AV.bool ((c : Int) == ((46 : Nat) : Int)) = _; rw [beqd]; exact congrArg AV.bool (decide_eq_decide.2 (by unfold nameP; omega))) (.nil _))), rfl⟩
      rintro fr σ ⟨hw, rfl⟩
      refine S_opsW hw ?_
      refine ab 1000 rfl trivial ?_
      refine S_cond rfl (fun h => ?_) (fun h => ?_)
      · have h : (!decide (nameP c)) = true := h
        refine ab 1000 rfl trivial ?_
        refine S_retc .bool rfl trivial ?_
        rw [notName hil (by rw [← hc]; simpa using h)]; rfl
      · have h : (!decide (nameP c)) = false := h
        refine ab 1000 rfl trivial ?_
        refine S_round (i + 1) (by show s.length - (i + 1) < s.length - i; omega) ⟨hil, takeN hil hN (by unfold nameB; rw [← hc]; simpa using h)⟩ (.cons rfl (.cons ?_ (.nil _))) rfl
        show AV.int .i64 (IntKind.i64.wrap ((i : Int) + 1)) = _
        exact congrArg _ (w64 rfl (by omega))
    · have hil : i = s.length := by have : ¬ (i : Int) < (s.length : Nat) := hil; omega
      refine ab 1000 rfl trivial ?_
      rw [hil, List.take_length] at hN
      refine S_guard rfl rfl rfl rfl (fun h => ?_) (fun h => ?_)
      · have h : (1 : Int) ≤ (s.length : Nat) := of_decide_eq_true h
        refine ab 1000 rfl trivial ?_
        refine S_guard rfl rfl rfl rfl (fun h2 => ?_) (fun h2 => ?_)
        · have h2 : (s.length : Int) ≤ 20 := of_decide_eq_true h2
          refine ab 1000 rfl trivial ?_
          refine S_guard rfl rfl rfl rfl (fun h3 => ?_) (fun h3 => ?_)
          · refine ab 1000 rfl trivial ?_
            refine S_retc .bool rfl trivial ?_
            show AV.bool (!(s == [46, 46])) = _
            have h3 : (!(s == [46])) = true := h3
            rw [isName, hN, decide_eq_true (p := 1 ≤ s.length) (by omega), decide_eq_true (p := s.length ≤ 20) (by omega), bne, h3]; rfl
          · refine ab 1000 rfl trivial ?_
            refine S_retc .bool rfl trivial ?_
            have h3 : (!(s == [46])) = false := h3
            rw [isName, hN, decide_eq_true (p := 1 ≤ s.length) (by omega), decide_eq_true (p := s.length ≤ 20) (by omega), bne, h3]; rfl
        · have h2 : ¬ (s.length : Int) ≤ 20 := of_decide_eq_false h2
          refine ab 1000 rfl trivial ?_
          refine S_guard rfl rfl rfl rfl (fun h => by cases h) (fun _ => ?_)
          refine ab 1000 rfl trivial ?_
          refine S_retc .bool rfl trivial ?_
          rw [isName, hN, decide_eq_false (p := s.length ≤ 20) (by omega)]; simp; rfl
      · have h : ¬ (1 : Int) ≤ (s.length : Nat) := of_decide_eq_false h
        refine ab 1000 rfl trivial ?_
        refine S_guard rfl rfl rfl rfl (fun h => by cases h) (fun _ => ?_)
        refine ab 1000 rfl trivial ?_
        refine S_guard rfl rfl rfl rfl (fun h => by cases h) (fun _ => ?_)
        refine ab 1000 rfl trivial ?_
        refine S_retc .bool rfl trivial ?_
        rw [isName, hN, decide_eq_false (p := 1 ≤ s.length) (by omega)]; rfl
end Go.Proofs.YtjcjaonfhlfnaaaGreatDoor
end
section
set_option linter.unusedVariables false
set_option linter.unusedSimpArgs false
set_option maxRecDepth 20000
namespace Go.Proofs.YtjcjaonfhlfnaaaGreatDoor
open Go Go.Ab
def isPathB (s : List UInt8) : Bool := (splitB 47 s).all isName && decide (s.length ≤ 100)
theorem all_take {α : Type} {p : α → Bool} {l : List α} {i : Nat} (h : i < l.length) (ha : (l.take i).all p = true) (hp : p l[i] = true) : (l.take (i + 1)).all p = true := by
  rw [List.take_succ_eq_append_getElem h, List.all_append, ha]; simp [hp]
theorem all_not {α : Type} {p : α → Bool} {l : List α} {i : Nat} (h : i < l.length) (hp : p l[i] = false) : l.all p = false := by
  rw [List.all_eq_false]; exact ⟨_, List.getElem_mem h, by simp [hp]⟩
theorem isPath_ok (s : List UInt8) (hs : s.length ≤ 1099511627776) : Calc cx 32 [.str s] (.bool (isPathB s)) :=
  pure_intro (fun a w => Tryz.call32 a w) Tryz.func32 rfl Tryz.ntmps32 rfl .bool fun B => by
    obtain ⟨l, hl⟩ : ∃ l, l = splitB 47 s := ⟨_, rfl⟩
    have hlen : l.length ≤ s.length + 1 := by rw [hl, split_len]; have : s.count 47 ≤ s.length := List.count_le_length; omega
    have htl : (texts l).length = l.length := by simp [texts]
    have hSp := StrSplit_ok s 47 hs
    rw [← hl] at hSp
    refine ab 1000 rfl trivial ?_
    refine S_pure rfl rfl rfl hSp (.cons (.refl .str) (.cons (.refl .str) (.nil _))) ?_
    refine ab 1000 rfl trivial ?_
    refine S_while (α := Nat) (fun i => [(0, .str s), (6, .sl true false 1 (texts l)), (7, .int .i64 ((texts l).length : Nat)), (8, .int .i64 (i : Nat))]) (fun _ => []) (fun i => i ≤ l.length ∧ (l.take i).all isName = true) (fun i => l.length - i) 0
      ⟨Nat.zero_le _, rfl⟩ (.cons rfl (.cons rfl (.cons rfl (.cons rfl (.nil _))))) rfl ?_
    rintro i ⟨hi, hN⟩
    refine ab 1000 rfl trivial ?_
    refine S_dec rfl (fun hil => ?_) (fun hil => ?_)
    · have hil : i < l.length := by have : (i : Int) < ((texts l).length : Nat) := hil; omega
      refine ab 1000 rfl trivial ?_
      refine S_index (.str l[i]) rfl rfl rfl ⟨rfl, by omega, by rw [Int.toNat_natCast]; simp [texts, List.getElem?_eq_getElem hil], trivial⟩ ?_
      refine ab 1000 rfl trivial ?_
      have hp : l[i].length ≤ s.length := split_part (c := 47) _ (by rw [← hl]; exact List.getElem_mem hil)
      refine S_pure rfl rfl rfl (isName_ok l[i] (by omega)) (.cons (.refl .str) (.nil _)) ?_
      refine ab 1000 rfl trivial ?_
      refine S_cond rfl (fun h => ?_) (fun h => ?_)
      · have h : isName l[i] = false := by simpa using (show (!isName l[i]) = true from h)
        refine ab 1000 rfl trivial ?_
        refine S_retc .bool rfl trivial ?_
        rw [isPathB, ← hl, all_not hil h]; rfl
      · have h : isName l[i] = true := by simpa using (show (!isName l[i]) = false from h)
        refine ab 1000 rfl trivial ?_
        exact S_round (i + 1) (by show l.length - (i + 1) < l.length - i; omega) ⟨hil, all_take hil hN h⟩ (.cons rfl (.cons rfl (.cons rfl (.cons (ai64 rfl (by omega)) (.nil _))))) rfl
    · have hil : i = l.length := by have : ¬ (i : Int) < ((texts l).length : Nat) := hil; omega
      rw [hil, List.take_length] at hN
      refine ab 1000 rfl trivial ?_
      refine S_retc .bool rfl trivial ?_
      rw [isPathB, ← hl, hN, Bool.true_and]
      show AV.bool (decide ((s.length : Int) ≤ 100)) = _
      exact congrArg AV.bool (decide_eq_decide.2 (by omega))
def glue (x : List UInt8) : List (List UInt8) → List (List UInt8)
  | [] => [x]
  | p :: ps => (x ++ p) :: ps
theorem glue_cons {c x : UInt8} {r : List UInt8} (last : List UInt8) (h : x ≠ c) : glue last (splitB c (x :: r)) = glue (last ++ [x]) (splitB c r) := by
  rw [splitB, if_neg h]
  cases hq : splitB c r with
  | nil => simp [glue]
  | cons p ps => simp [glue]
theorem glue_nil (l : List (List UInt8)) (h : l ≠ []) : glue [] l = l := by
  cases l with
  | nil => exact absurd rfl h
  | cons p ps => rfl
theorem Parts_ok (s : List UInt8) (hs : s.length ≤ 1099511627776) : Calc cx 42 [.str s] (.sl true false 1 (texts (splitB 47 s))) :=
  pure_intro (fun a w => Tryz.call42 a w) Tryz.func42 rfl Tryz.ntmps42 rfl (.sl (fun _ => rfl) (texts_any _)) fun B => by
    refine go (M := [5]) 1000 rfl trivial ?_
    refine S_unfull (t := 3) rfl ⟨_, _, .inl rfl⟩ ?_
    refine S_while (α := Nat × List (List UInt8) × List UInt8 × Nat) (fun (i, pre, last, u) => [(0, .str s), (3, .ms 0 u 0 (pre.length + 1) 1 false), (4, .int .i64 (i : Nat))])
      (fun (i, pre, last, u) => [(u, some (.cells (texts (pre ++ [last])) ⟨false, none⟩))])
      (fun (i, pre, last, u) => i ≤ s.length ∧ pre.length ≤ i ∧ last.length ≤ i ∧ pre ++ glue last (splitB 47 (s.drop i)) = splitB 47 s) (fun (i, pre, last, u) => s.length - i) (0, [], [], 0)
      ⟨Nat.zero_le _, Nat.le_refl _, Nat.le_refl _, by simp [glue_nil _ (splitB_ne 47 s)]⟩ (.cons rfl (.cons rfl (.cons rfl (.nil _)))) rfl ?_
    rintro ⟨i, pre, last, u⟩ ⟨h1, h2, h3, h4⟩
    have h1 : i ≤ s.length := h1
    have h2 : pre.length ≤ i := h2
    have h3 : last.length ≤ i := h3
    have hpl : (texts (pre ++ [last])).length = pre.length + 1 := by simp [texts]
    refine ab 1000 rfl trivial ?_
    refine S_dec rfl (fun hil => ?_) (fun hil => ?_)
    · have hil : i < s.length := by omega
      have hd : s.drop i = s[i] :: s.drop (i + 1) := List.drop_eq_getElem_cons hil
      have hgd : s.getD i 0 = s[i] := by simp [List.getD, hil]
      refine ab 1000 rfl ⟨by omega, by omega, trivial⟩ ?_
      refine S_beq rfl (fun hc => ?_) (fun hc => ?_)
      · have hc : s[i] = 47 := by
          have h' : (((s.getD (i : Int).toNat 0).toNat : Nat) : Int) = 47 := hc
          rw [Int.toNat_natCast, hgd] at h'
          exact UInt8.toNat_inj.1 (by have : s[i].toNat = 47 := by omega
                                      rw [this]; rfl)
        refine ab 1000 rfl ⟨?_, ?_, ?_, rfl, rfl, allOne_mem (cs := [.str []]) rfl, allOne_mem (cs := [.str []]) rfl, rfl, trivial⟩ ?_
        · show pre.length + 1 + 1 ≤ 9223372036854775807; omega
        · show (pre.length + 1 + 1) * 16 ≤ 140737488355328; omega
        · show 0 + (pre.length + 1) * 1 = (texts (pre ++ [last])).length; omega
        refine S_round (i + 1, pre ++ [last], [], u + 1) (by show s.length - (i + 1) < s.length - i; omega) ⟨hil, by simp; omega, Nat.zero_le _, ?_⟩ (.cons rfl (.cons ?_ (.cons (ai64 rfl (by omega)) (.nil _)))) ?_
        · rw [← h4, hd, hc]
          show (pre ++ [last]) ++ glue [] (splitB 47 (s.drop (i + 1))) = pre ++ glue last (splitB 47 (47 :: s.drop (i + 1)))
          rw [glue_nil _ (splitB_ne _ _), splitB, if_pos rfl]
          simp [glue]
        · show AV.ms 0 (u + 1) 0 (pre.length + 1 + 1) 1 false = .ms 0 (u + 1) 0 ((pre ++ [last]).length + 1) 1 false
          simp
        · show [(u + 1, some (Box.cells (texts (pre ++ [last]) ++ [.str []]) ⟨false, none⟩))] = [(u + 1, some (Box.cells (texts ((pre ++ [last]) ++ [[]])) ⟨false, none⟩))]
          simp [texts]
      · have hc : s[i] ≠ 47 := by
          intro e
          have h' : (((s.getD (i : Int).toNat 0).toNat : Nat) : Int) ≠ 47 := hc
          rw [Int.toNat_natCast, hgd, e] at h'
          exact h' rfl
        have hw1 : IntKind.i64.wrap (((pre.length + 1 : Nat) : Int) - 1) = (pre.length : Int) := w64 (by omega) (by omega)
        refine ab 1000 rfl trivial ?_
        have hw2 : IntKind.i64.wrap ((i : Int) + 1) = ((i + 1 : Nat) : Int) := w64 (by omega) (by omega)
        have hcut : cutL (some (i : Int)) (some (IntKind.i64.wrap ((i : Int) + 1))) s = [s[i]] := by
          rw [hw2]
          show (s.take ((i + 1 : Nat) : Int).toNat).drop (i : Int).toNat = _
          rw [Int.toNat_natCast, Int.toNat_natCast, List.take_succ_eq_append_getElem hil, List.drop_left' (by simp; omega)]
        have hld : ((texts (pre ++ [last])).drop (offN 0 (mulN (IntKind.i64.wrap (((pre.length + 1 : Nat) : Int) - 1)).toNat 1)))[0]? = some (.str last) := by
          rw [offN_eq, mulN_eq, hw1, Int.toNat_natCast]
          simp [texts]
        refine S_draw 12 [] [.top, .str last] rfl rfl rfl rfl ⟨rfl, rfl, rfl, rfl, rfl, by rw [hw1]; omega, by rw [hw1]; omega, rfl, hld, rfl, rfl, rfl, rfl, rfl, by omega, by rw [hw2]; omega, by rw [hw2]; omega, rfl, by rw [hcut]; simp; omega, trivial⟩ ?_
        refine ab 1000 rfl trivial ?_
        refine S_index .top rfl rfl rfl ⟨rfl, by rw [hw1]; omega, by rw [hw1]; omega, trivial⟩ ?_
        refine S_store rfl rfl rfl ⟨rfl, rfl, rfl, ?_, trivial⟩ ?_
        · show offN 0 (mulN (IntKind.i64.wrap (((pre.length + 1 : Nat) : Int) - 1)).toNat 1) + 1 ≤ (texts (pre ++ [last])).length
          rw [offN_eq, mulN_eq, hw1, Int.toNat_natCast]; omega
        refine ab 1000 rfl trivial ?_
        refine S_round (i + 1, pre, last ++ [s[i]], u) (by show s.length - (i + 1) < s.length - i; omega) ⟨hil, by omega, by simp; omega, by rw [← h4, hd, glue_cons last hc]⟩ (.cons rfl (.cons rfl (.cons (ai64 rfl (by omega)) (.nil _)))) ?_
        show [(u, some (Box.cells (setRange (texts (pre ++ [last])) (offN 0 (mulN (IntKind.i64.wrap (((pre.length + 1 : Nat) : Int) - 1)).toNat 1)) [.str (last ++ cutL (some (i : Int)) (some (IntKind.i64.wrap ((i : Int) + 1))) s)]) ⟨false, none⟩))] = [(u, some (Box.cells (texts (pre ++ [last ++ [s[i]]])) ⟨false, none⟩))]
        rw [hcut, offN_eq, mulN_eq, hw1, Int.toNat_natCast, Nat.zero_add, Nat.mul_one]
        have := set_at (texts pre) (AV.str (last ++ [s[i]])) (.str last) []
        rw [show (texts pre).length = pre.length by simp [texts]] at this
        show [(u, some (Box.cells (List.set (texts (pre ++ [last])) pre.length (.str (last ++ [s[i]]))) _))] = _
        rw [show texts (pre ++ [last]) = texts pre ++ [.str last] by simp [texts], this]
        simp [texts]
    · have hil : i = s.length := by omega
      rw [hil, List.drop_length] at h4
      refine ab 1000 rfl trivial ?_
      refine S_ret ⟨_, _, rfl, trivial, _, rfl, ?_⟩
      rw [← h4]
      simp only [splitB, glue, List.append_nil]
      exact .ms1 rfl (texts_one _) (by simp [texts]) (texts_any _)
theorem IsPath_ok (s : List UInt8) (hs : s.length ≤ 9223372036854775807) : Calc cx 14 [.str s] (.bool (isPathB s)) :=
  pure_intro (fun a w => Tryz.call14 a w) Tryz.func14 rfl Tryz.ntmps14 rfl .bool fun B => by
    obtain ⟨l, hl⟩ : ∃ l, l = splitB 47 s := ⟨_, rfl⟩
    have hlen : l.length ≤ s.length + 1 := by rw [hl, split_len]; have : s.count 47 ≤ s.length := List.count_le_length; omega
    have htl : (texts l).length = l.length := by simp [texts]
    refine ab 1000 rfl trivial ?_
    refine S_dec rfl (fun h => ?_) (fun h => ?_)
    · refine ab 1000 rfl trivial ?_
      refine S_retc .bool rfl trivial ?_
      show AV.bool false = .bool ((splitB 47 s).all isName && decide (s.length ≤ 100))
      rw [decide_eq_false (show ¬ s.length ≤ 100 by omega), Bool.and_false]
    have h100 : s.length ≤ 100 := by omega
    have hSp := Parts_ok s (by omega)
    rw [← hl] at hSp
    refine ab 1000 rfl trivial ?_
    refine S_pure rfl rfl rfl hSp (.cons (.refl .str) (.nil _)) ?_
    refine ab 1000 rfl trivial ?_
    refine S_while (α := Nat) (fun i => [(3, .sl true false 1 (texts l)), (4, .int .i64 (i : Nat))]) (fun _ => []) (fun i => i ≤ l.length ∧ (l.take i).all isName = true) (fun i => l.length - i) 0
      ⟨Nat.zero_le _, rfl⟩ (.cons rfl (.cons rfl (.nil _))) rfl ?_
    rintro i ⟨hi, hN⟩
    refine ab 1000 rfl trivial ?_
    refine S_dec rfl (fun hil => ?_) (fun hil => ?_)
    · have hil : i < l.length := by have : (i : Int) < ((texts l).length : Nat) := hil; omega
      refine ab 1000 rfl trivial ?_
      refine S_index (.str l[i]) rfl rfl rfl ⟨rfl, by omega, by rw [Int.toNat_natCast]; simp [texts, List.getElem?_eq_getElem hil], trivial⟩ ?_
      refine ab 1000 rfl trivial ?_
      have hp : l[i].length ≤ s.length := split_part (c := 47) _ (by rw [← hl]; exact List.getElem_mem hil)
      refine S_pure rfl rfl rfl (IsName_ok l[i] (by omega)) (.cons (.refl .str) (.nil _)) ?_
      refine ab 1000 rfl trivial ?_
      refine S_cond rfl (fun h => ?_) (fun h => ?_)
      · have h : isName l[i] = false := by simpa using (show (!isName l[i]) = true from h)
        refine ab 1000 rfl trivial ?_
        refine S_retc .bool rfl trivial ?_
        rw [isPathB, ← hl, all_not hil h]; rfl
      · have h : isName l[i] = true := by simpa using (show (!isName l[i]) = false from h)
        refine ab 1000 rfl trivial ?_
        exact S_round (i + 1) (by show l.length - (i + 1) < l.length - i; omega) ⟨hil, all_take hil hN h⟩ (.cons rfl (.cons (ai64 rfl (by omega)) (.nil _))) rfl
    · have hil : i = l.length := by have : ¬ (i : Int) < ((texts l).length : Nat) := hil; omega
      rw [hil, List.take_length] at hN
      refine ab 1000 rfl trivial ?_
      refine S_retc .bool rfl trivial ?_
      rw [isPathB, ← hl, hN, Bool.true_and, decide_eq_true h100]; rfl
end Go.Proofs.YtjcjaonfhlfnaaaGreatDoor
end
section
set_option linter.unusedVariables false
set_option linter.unusedSimpArgs false
set_option maxRecDepth 100000
set_option maxHeartbeats 4000000
namespace Go.Proofs.YtjcjaonfhlfnaaaGreatDoor
open Go Go.Ab
theorem kPathA_ok : Calc cx 32 [.str [97]] (.bool true) := by
  have h := isPath_ok [97] (by decide)
  rwa [show isPathB [97] = true by decide +kernel] at h
noncomputable def kPathA : Known cx := ⟨(32, [.str [97]], .bool true), kPathA_ok⟩
theorem kPathO_ok : Calc cx 32 [.str [111]] (.bool true) := by
  have h := isPath_ok [111] (by decide)
  rwa [show isPathB [111] = true by decide +kernel] at h
noncomputable def kPathO : Known cx := ⟨(32, [.str [111]], .bool true), kPathO_ok⟩
theorem kNameT_ok : Calc cx 56 [.str [116]] (.bool true) := by
  have h := isName_ok [116] (by decide)
  rwa [show isName [116] = true by decide +kernel] at h
noncomputable def kNameT : Known cx := ⟨(56, [.str [116]], .bool true), kNameT_ok⟩
theorem kNameO_ok : Calc cx 56 [.str [111]] (.bool true) := by
  have h := isName_ok [111] (by decide)
  rwa [show isName [111] = true by decide +kernel] at h
noncomputable def kNameO : Known cx := ⟨(56, [.str [111]], .bool true), kNameO_ok⟩
end Go.Proofs.YtjcjaonfhlfnaaaGreatDoor
end
section
set_option linter.unusedVariables false
set_option linter.unusedSimpArgs false
set_option maxRecDepth 1000000
set_option maxHeartbeats 40000000
namespace Go.Proofs.YtjcjaonfhlfnaaaGreatDoor
open Go Go.Ab
def mxRunA : List AV := [.sl false false 3 [.agg [.str [97], .str srcX, .bool false]], .str [97], .int .i64 1000]
def mxRunR : AV := .tup [.sl true false 5 [.agg [.str [116], .nils, .nils, .sl true false 1 [.str [111]], .sl true false 1 [.str [115, 101, 116, 32, 97, 32, 104, 105], .str [109, 97, 107, 101, 32, 111, 32, 97]]]], .nils, .int .i64 9, .int .i64 0]
theorem mxRun_run : calcB ((runX cx (exS [mxParseK, kPathA, kNameT]) mX orK 1000000).1 47 mxRunA []) mxRunR = true := by kernel_rfl
theorem mxRun_ok : Calc cx 47 mxRunA mxRunR := ran_calc _ mxRun_run
noncomputable def mxRunK : Known cx := ⟨(47, mxRunA, mxRunR), mxRun_ok⟩
end Go.Proofs.YtjcjaonfhlfnaaaGreatDoor
end
section
set_option linter.unusedVariables false
set_option linter.unusedSimpArgs false
set_option maxRecDepth 20000
set_option maxHeartbeats 1000000
namespace Go.Proofs.YtjcjaonfhlfnaaaGreatDoor
open Go Go.Ab
theorem txFzC {st : Bool} {σ : Heap} {id ver : Nat} {xs : List (List UInt8)} {g : Tag} (h : boxAt σ id = some (ver, texts xs, g)) : Frz st σ (.ms id ver 0 xs.length 1 false) (.sl st false 1 (texts xs)) := by
  have hf : (texts xs).flatMap AV.cells = texts xs := ones_flat (texts_one _)
  refine .ms h (by rw [texts_len]; omega) ?_ (fun x hx => by obtain ⟨t, _, rfl⟩ := List.mem_map.1 hx; rfl) (texts_len _) (texts_any _)
  rw [hf, List.drop_zero]
  exact List.take_of_length_le (by rw [texts_len]; omega)
theorem CloneT_ok (st fl : Bool) (xs : List (List UInt8)) (hl : xs.length ≤ 1000000000) : Calc cx 72 [.sl st fl 1 (texts xs)] (.sl true false 1 (texts xs)) :=
  pure_intro (fun a w => Tryz.call72 a w) Tryz.func72 rfl Tryz.ntmps72 rfl (.sl (fun _ => rfl) (texts_any xs)) fun B => by
    have hfa : flatA 1 (texts xs) = texts xs := rfl
    have htl := texts_len xs
    refine pB [] rfl ?_
    refine S_nilQ false rfl Tryz.underlying22 rfl rfl rfl rfl fun b hb => ?_
    cases b with
    | true =>
      have : xs = [] := by
        cases xs with
        | nil => rfl
        | cons a r => exact absurd (hb (by simp [texts])) (by simp)
      subst this
      refine pB [.b true] rfl ?_
      exact S_ret ⟨_, _, rfl, trivial, _, rfl, .nils⟩
    | false =>
      refine pa [.b false] rfl ?_ ?_
      · (repeat' with_reducible apply AllP_cons) <;> try exact aC
        · exact texts_one xs
        · exact texts_one xs
        · exact .inr rfl
        · show ((0 : Nat) + (texts xs).length) * 16 ≤ 140737488355328
          omega
      refine S_ret ⟨_, _, rfl, trivial, _, rfl, ?_⟩
      have e : (0 : Nat) + (texts xs).length = xs.length := by omega
      show Frz true [(0, some (.cells (texts xs) _))] (.ms 0 0 0 (0 + (texts xs).length) 1 false) _
      rw [e]
      exact txFzC rfl
end Go.Proofs.YtjcjaonfhlfnaaaGreatDoor
end
section
set_option linter.unusedVariables false
set_option linter.unusedSimpArgs false
set_option maxRecDepth 20000
set_option maxHeartbeats 1000000
namespace Go.Proofs.YtjcjaonfhlfnaaaGreatDoor
open Go Go.Ab Go.Shelf Go.RowKit Go.Lib Go.Sort
theorem enc_str {r : Rl} {w : World} {v : Value} {s : List UInt8} (h : VRel r w v (.str s)) : v = Go.Proofs.encStr s := by
  cases h with
  | str hs =>
    rename_i x
    show Value.string _ = Value.string _
    rw [← hs]
theorem enc_strR (r : Rl) (w : World) (s : List UInt8) : VRel r w (Go.Proofs.encStr s) (.str s) := .str (by simp)
theorem SortS_ok (l : List (List UInt8)) (hlen : l.length ≤ 1000000) {σ : Heap} {id ver : Nat} (hσ : σ[id]? = some (ver, some (.cells (texts l) ⟨false, none⟩))) :
    CallOk cx 115 [.ms id ver 0 l.length 1 false] σ (fun e s => e = .ret (.tup []) ∧ s = σ.set id (ver, some (.cells (texts (sortT l)) ⟨false, none⟩))) := by
  refine ⟨fun a w => Tryz.call115 a w, fun r w vs hi hv => ?_⟩
  obtain ⟨hs, hv⟩ := hv
  have g0 := hv 0 (by simp)
  have hvs : vs = #[vs.getD 0 undef] := by
    have hs : vs.size = 1 := hs
    refine Array.ext (by simp [hs]) fun j h1 h2 => ?_
    match j, h1 with
    | 0, h1 => simp [Array.getD, h1]
    | j + 1, h1 => omega
  rw [hvs]
  generalize vs.getD 0 undef = a at g0
  have g0 : VRel r w a (.ms id ver 0 l.length 1 false) := g0
  have hln : (sortT l).length = l.length := (sortT_perm l).length_eq
  rcases Nat.eq_zero_or_pos l.length with h0 | h0
  · have hl0 : l = [] := List.eq_nil_of_length_eq_zero h0
    subst hl0
    have hset : σ.set id (ver, some (.cells (texts (sortT [])) ⟨false, none⟩)) = σ := by
      have : sortT [] = [] := List.nil_perm.1 (sortT_perm []).symm
      rw [this]
      apply List.ext_getElem?
      intro i
      rw [List.getElem?_set]
      by_cases e : id = i
      · subst e
        rw [if_pos rfl, hσ]
        have : id < σ.length := by
          rcases Nat.lt_or_ge id σ.length with h | h
          · exact h
          · rw [List.getElem?_eq_none h] at hσ; cases hσ
        rw [if_pos this]
      · rw [if_neg e]
    have hz : ∃ p cap, a = .slice p 0 cap := by
      cases g0 with
      | ms0 => exact ⟨_, _, rfl⟩
      | ms hρ hcap hle hff => exact ⟨_, _, rfl⟩
    obtain ⟨p, cap, rfl⟩ := hz
    rw [hset]
    refine (Go.Proofs.AnyM.slices_Sort_string_none lay_sort p cap w).mono ?_
    rintro e w' ⟨rfl, rfl⟩
    exact ⟨.ret (.tup []), σ, r, ⟨rfl, rfl⟩, .tup rfl (fun i h => absurd h (by simp)), hi, Ext.refl _ _ _⟩
  · generalize hn : l.length = n at g0
    cases g0 with
    | ms0 => omega
    | ms hρ hcap hle hff =>
    rename_i blk off cap
    rcases hi.box id ver _ hσ with ⟨blk', off', hρ', hbx⟩ | ⟨_, ro, h⟩
    case inr =>
      have h := Box.cells.inj h
      have := texts_len l
      rw [h.1] at this; simp at this; omega
    rw [hρ] at hρ'
    obtain ⟨rfl, rfl⟩ : blk = blk' ∧ off = off' := by cases hρ'; exact ⟨rfl, rfl⟩
    obtain ⟨c, t, lo, hi0, q1, q2, q3, q4, q5⟩ := hbx
    have hcl := texts_len l
    have hbs : blk < w.heap.size := (hi.lt _ _ _ _ hρ).2
    have hcell : ∀ j (hj : j < l.length), c[off + j]? = some (Go.Proofs.encStr l[j]) := by
      intro j hj
      obtain ⟨v, k1, k2⟩ := q2 j (by omega)
      have hg := texts_get hj
      rw [List.getElem?_eq_getElem (by omega)] at hg
      rw [Option.some.inj hg] at k2
      rw [k1, enc_str k2]
    have hH : Holds Go.Proofs.encStr w blk off l.toArray := by
      intro j hj
      have hj : j < l.length := by simpa using hj
      have hge : l.toArray[j]! = l[j] := by rw [getElem!_pos l.toArray j (by simpa using hj)]; simp
      refine ⟨by simp only [World.cell?, q1, hge]; exact hcell j hj, ?_⟩
      have hjc : off + j < c.size := by
        rcases Nat.lt_or_ge (off + j) c.size with h | h
        · exact h
        · have := hcell j hj
          rw [Array.getElem?_eq_none h] at this; cases this
      simp only [World.frozen?, q1]
      cases hz : (decide (lo ≤ off + j) && decide (off + j < hi0)) with
      | false => rfl
      | true =>
        simp only [Bool.and_eq_true, decide_eq_true_eq] at hz
        have := (q4 _ hz.1 hz.2 hjc).1
        cases this
    have hc := Go.Proofs.AnyM.slices_Sort_string lay_sort blk off cap l w hH hbs (by omega)
    rw [hn] at hc
    refine hc.mono ?_
    rintro e w' ⟨rfl, m, os, rfl⟩
    have hms : (l.mergeSort fun x y => decide (x ≤ y)) = sortT l := rfl
    rw [hms]
    have hheap : ∀ k, k < w.heap.size → (grow (putRow Go.Proofs.encStr (Sort.ahead w m) blk off (sortT l).toArray) os).heap[k]? = if blk = k then some (Obj.cells (putCells Go.Proofs.encStr off (sortT l).toArray c) t (lo, hi0)) else w.heap[k]? := by
      intro k hk
      show ((w.heap.modify blk (onCells (putCells Go.Proofs.encStr off (sortT l).toArray))) ++ os)[k]? = _
      rw [Array.getElem?_append_left (by simpa using hk), Array.getElem?_modify]
      by_cases e : blk = k
      · subst e
        rw [if_pos rfl, if_pos rfl, q1]; rfl
      · rw [if_neg e, if_neg e]
    have hupd := hi.update (σ' := σ.set id (ver, some (.cells (texts (sortT l)) ⟨false, none⟩))) (id := id) (ver := ver) (b := blk) (o := off) (x := .cells (texts (sortT l)) ⟨false, none⟩) (w' := grow (putRow Go.Proofs.encStr (Sort.ahead w m) blk off (sortT l).toArray) os)
      (by
        have : id < σ.length := by
          rcases Nat.lt_or_ge id σ.length with h | h
          · exact h
          · rw [List.getElem?_eq_none h] at hσ; cases hσ
        simp [this]) (fun j hj => by rw [List.getElem?_set, if_neg (Ne.symm hj)]) (fun c2 y hy => by rw [hσ] at hy; cases hy; exact .inr ⟨rfl, hρ⟩) (.inr ⟨ver, _, off, hσ, hρ⟩)
      (fun k hk hkb => by rw [hheap k hk, if_neg (Ne.symm hkb)]) (by
        show w.heap.size ≤ ((w.heap.modify blk (onCells (putCells Go.Proofs.encStr off (sortT l).toArray))) ++ os).size
        simp) (fun c2 t2 f2 hc2 => by
          rw [q1] at hc2; cases hc2
          exact ⟨_, _, by rw [hheap blk hbs, if_pos rfl], by simp [putCells]⟩) rfl rfl rfl
      (fun g => by
        refine ⟨_, t, lo, hi0, by rw [hheap blk hbs, if_pos rfl], fun i hil => ?_, texts_one _, fun i h1 h2 h3 => ?_, fun T h => by cases h⟩
        · have hil' : i < (sortT l).length := by rw [texts_len] at hil; exact hil
          have hg := texts_get hil'
          rw [List.getElem?_eq_getElem hil] at hg
          rw [Option.some.inj hg]
          refine ⟨Go.Proofs.encStr (sortT l)[i], ?_, enc_strR _ _ _⟩
          have hci : off + i < c.size := by
            have := hcell i (by omega)
            rcases Nat.lt_or_ge (off + i) c.size with h | h
            · exact h
            · rw [Array.getElem?_eq_none h] at this; cases this
          unfold putCells
          rw [Array.getElem?_mapIdx, Array.getElem?_eq_getElem hci]
          show some (if off ≤ off + i ∧ off + i < off + (sortT l).toArray.size then Go.Proofs.encStr ((sortT l).toArray[off + i - off]!) else _) = _
          rw [if_pos ⟨by omega, by simp; omega⟩, Nat.add_sub_cancel_left, getElem!_pos (sortT l).toArray i (by simpa using hil')]
          simp
        · have h3 : i < c.size := by simpa [putCells] using h3
          have := (q4 i h1 h2 h3).1
          cases this)
    exact ⟨.ret (.tup []), _, _, ⟨rfl, rfl⟩, .tup rfl (fun i h => absurd h (by simp)), hupd.1, hupd.2⟩
end Go.Proofs.YtjcjaonfhlfnaaaGreatDoor
end
section
set_option linter.unusedVariables false
set_option linter.unusedSimpArgs false
namespace Go.Ab
open Go
theorem wpListIn_spec {cx : Cx} {F : Fence} (hF : ∀ f, F.fn f) {nF n : Nat} {ops : Array Oper} {Q : Exit → Act → World → Prop} {rest : List Oper} {o : Oper} {fr : Fr} {σ σ' : Heap} {v : AV} {r : Rl} {a : Act} {w : World}
    (hg : o.guard = none) (hd : dstOk n o.dst = true) (hdf : ∀ c, o.op ≠ .defer c) (hs : OpSpec cx n fr σ o v σ') (hi : Inv cx r σ w) (hf : FRel r w n fr a)
    (hK : ∀ r' w' v', VRel r' w' v' v → Inv cx r' σ' w' → Ext r σ w r' σ' w' → FRel r' w' n (setA o.dst v fr) (a.put o.dst v') → wpListIn F nF cx.P ops Q rest (a.put o.dst v') w') : wpListIn F nF cx.P ops Q (o :: rest) a w := by
  refine wpListIn_plain hg fun K hK' => ⟨fun f _ => hF f, ?_⟩
  rw [Oper.semAt_eq _ _ _ hdf]
  obtain ⟨r', w', v', hrun, hv, hi', hx⟩ := hs r a w hi hf
  have hf' := (hf.mono (hx.grow hi)).setA hd hv
  rcases hrun with hrun | ⟨hrun, rfl⟩
  · rw [hrun]; exact hK' _ _ (hK r' w' v' hv hi' hx hf')
  · rw [hrun]; exact hK' _ _ (hK r' w' undef hv hi' hx hf')
theorem put_defers (a : Act) (d : Option Nat) (v : Value) : (a.put d v).defers = a.defers := by cases d <;> rfl
structure Off (r : Rl) (l : Nat) : Prop where
  ρ : ∀ id ver o, r.ρ id ver ≠ some (l, o)
  I : ¬ r.I l
theorem Off.live {r : Rl} {l : Nat} (h : Off r l) (σ : Heap) : ¬ Live r σ l := by
  rintro ⟨id, ver, x, o, _, h2⟩
  exact h.ρ id ver o h2
theorem Off.ext {r r' : Rl} {σ σ' : Heap} {w w' : World} {l : Nat} (h : Off r l) (hl : l < w.heap.size) (hx : Ext r σ w r' σ' w') : Off r' l := by
  refine ⟨fun id ver o hρ => ?_, fun hI => ?_⟩
  · rcases hx.blk id ver l o hρ with ⟨v, o', h'⟩ | h'
    · exact h.ρ _ _ _ h'
    · omega
  · rcases hx.If l hI with h' | h' | h'
    · exact h.I h'
    · exact h.live σ h'
    · omega
theorem Off.same {r r' : Rl} {σ σ' : Heap} {w w' : World} {l : Nat} (h : Off r l) (hl : l < w.heap.size) (hx : Ext r σ w r' σ' w') : w'.heap[l]? = w.heap[l]? := hx.same l hl (h.live σ)
theorem Off.new {cx : Cx} {r : Rl} {σ : Heap} {w : World} {l : Nat} (hi : Inv cx r σ w) (hl : w.heap.size ≤ l) : Off r l := by
  refine ⟨fun id ver o hρ => ?_, fun hI => ?_⟩
  · have := (hi.lt id ver l o hρ).2; omega
  · have := hi.Ilt l hI; omega
theorem putObj_other {w : World} {l k : Nat} {o : Obj} (h : k ≠ l) : (w.putObj l o).heap[k]? = w.heap[k]? := World.putObj_heap_other h
theorem putObj_size (w : World) (l : Nat) (o : Obj) : (w.putObj l o).heap.size = w.heap.size := by simp [World.putObj]
theorem Inv.poke {cx : Cx} {r : Rl} {σ : Heap} {w : World} {l : Nat} {o0 : Obj} (hi : Inv cx r σ w) (hl : w.heap[l]? = some o0) (hc : ∀ c t f, o0 ≠ .cells c t f) (ho : Off r l) (o : Obj) : Inv cx r σ (w.putObj l o) := by
  have g : Grow r w r (w.putObj l o) := by
    refine ⟨fun _ h => h, fun _ h => h, fun _ _ _ h => h, fun b hb => putObj_other (fun e => ho.I (e ▸ hb)), fun b c t f hb => ⟨c, f, ?_, rfl⟩⟩
    rw [putObj_other (fun e => by subst e; rw [hl] at hb; cases hb; exact hc _ _ _ rfl)]
    exact hb
  refine ⟨fun id ver x hx => ?_, fun id ver b o' hρ => ?_, hi.inj, hi.imm, fun b hb => by rw [putObj_size]; exact hi.Ilt b hb, hi.SI, hi.glob.mono g hi.SI⟩
  · rcases hi.box id ver x hx with ⟨b, o', hρ, hb⟩ | h
    · exact .inl ⟨b, o', hρ, hb.mono g (putObj_other (fun e => ho.ρ id ver o' (e ▸ hρ)))⟩
    · exact .inr h
  · obtain ⟨h1, h2⟩ := hi.lt id ver b o' hρ
    exact ⟨h1, by rw [putObj_size]; exact h2⟩
theorem FRel.poke {r : Rl} {w : World} {n : Nat} {fr : Fr} {a : Act} {l : Nat} {o0 : Obj} (hf : FRel r w n fr a) (hl : w.heap[l]? = some o0) (hc : ∀ c t f, o0 ≠ .cells c t f) (ho : Off r l) (o : Obj) : FRel r (w.putObj l o) n fr a := by
  refine hf.mono ⟨fun _ h => h, fun _ h => h, fun _ _ _ h => h, fun b hb => putObj_other (fun e => ho.I (e ▸ hb)), fun b c t f hb => ⟨c, f, ?_, rfl⟩⟩
  rw [putObj_other (fun e => by subst e; rw [hl] at hb; cases hb; exact hc _ _ _ rfl)]
  exact hb
theorem Ext.poke {r r' : Rl} {σ σ' : Heap} {w w' : World} {l : Nat} {o0 o1 : Obj} (hl : w.heap[l]? = some o0) (hc : ∀ c t f, o0 ≠ .cells c t f) (ho : Off r l) (hx : Ext r σ (w.putObj l o1) r' σ' w') : Ext r σ w r' σ' (w'.putObj l o0) := by
  have hsz := putObj_size w l o1
  have hll : l < w.heap.size := by
    rcases Nat.lt_or_ge l w.heap.size with h | h
    · exact h
    · rw [Array.getElem?_eq_none h] at hl; cases hl
  refine ⟨hx.S, hx.I, fun b h => by rw [← hsz]; exact hx.Sf b h, fun b h => by rw [← hsz]; exact hx.If b h, hx.ρ, by rw [putObj_size, ← hsz]; exact hx.hs, hx.σl, fun b hb hlv => ?_, fun b h => by rw [← hsz]; exact hx.liv b h, fun b c t f hb => ?_, hx.os, hx.output, hx.tape,
    fun id ver b o h => by rw [← hsz]; exact hx.blk id ver b o h⟩
  · by_cases hbl : b = l
    · subst hbl
      rw [hl]
      exact World.putObj_heap_same (by have := hx.hs; omega)
    · rw [putObj_other hbl, hx.same b (by omega) hlv, putObj_other hbl]
  · have hbl : b ≠ l := fun e => by subst e; rw [hl] at hb; cases hb; exact hc _ _ _ rfl
    obtain ⟨c', f', h1, h2⟩ := hx.size b c t f (by rw [putObj_other hbl]; exact hb)
    exact ⟨c', f', by rw [putObj_other hbl]; exact h1, h2⟩
theorem Ext.poke_new {r r' : Rl} {σ σ' : Heap} {w w' : World} {l : Nat} (hl : w.heap.size ≤ l) (hx : Ext r σ w r' σ' w') (o : Obj) : Ext r σ w r' σ' (w'.putObj l o) := by
  refine ⟨hx.S, hx.I, hx.Sf, hx.If, hx.ρ, by rw [putObj_size]; exact hx.hs, hx.σl, fun b hb hlv => ?_, hx.liv, fun b c t f hb => ?_, hx.os, hx.output, hx.tape, hx.blk⟩
  · rw [putObj_other (by omega)]; exact hx.same b hb hlv
  · have hbl : b < w.heap.size := by
      rcases Nat.lt_or_ge b w.heap.size with h | h
      · exact h
      · rw [Array.getElem?_eq_none h] at hb; cases hb
    obtain ⟨c', f', h1, h2⟩ := hx.size b c t f hb
    exact ⟨c', f', by rw [putObj_other (by omega)]; exact h1, h2⟩
theorem Inv.ghostAt {cx : Cx} {r : Rl} {σ σ' : Heap} {w : World} {id cur j gid gver : Nat} {cs : List AV} {g : Tag} (sz : Nat) (g' : Tag) (h : σ[id]? = some (cur, some (.cells cs g))) (hj : cs[j]? = some .nils) (ha : allocH σ (.cells [] g') = (gid, gver, σ')) (hne : id ≠ gid) (hi : Inv cx r σ w) :
    Inv cx r (σ'.set id (cur, some (.cells (cs.set j (.ms gid gver 0 0 sz false)) g))) w ∧ Ext r σ w r (σ'.set id (cur, some (.cells (cs.set j (.ms gid gver 0 0 sz false)) g))) w := by
  obtain ⟨ha1, ha2, ha3⟩ := allocH_spec ha
  obtain ⟨g1, g2⟩ := hi.ghost ha1 ha2 ha3
  obtain ⟨q1, q2⟩ := g1.recast (y := .cells (cs.set j (.ms gid gver 0 0 sz false)) g) (by rw [ha2 id hne]; exact h) (fun b o hb => nils_ms hj hb) (fun ro hro => by cases hro; simp at hj)
  exact ⟨q1, g2.trans q2⟩
def CallX (cx : Cx) (f : FuncId) (args : List AV) (σ : Heap) (X : Rl → World → Prop) (R : Out → Heap → Prop) : Prop :=
  ∀ r w vs, Inv cx r σ w → VRels r w vs args → X r w → Calls cx.P f vs w fun e w' => ∃ o σ' r', R o σ' ∧ ORel r' w' e o ∧ Inv cx r' σ' w' ∧ Ext r σ w r' σ' w'
theorem callX_intro {cx : Cx} {f : FuncId} {fn : Func} {c : Code} {n : Nat} {args : List AV} {σ : Heap} {X : Rl → World → Prop} {R : Out → Heap → Prop} (hf : cx.P.funcs[f]? = some fn) (hb : fn.body = some c) (hn : fn.ntmps = n) (ha : Nat.ble args.length n = true)
    (h : ∀ r w, Inv cx r σ w → X r w → S cx n ⟨r, σ, w, false⟩ [.code c] (retQ cx fn R) (enterFr 0 args) σ) : CallX cx f args σ X R := by
  intro r w vs hi hv hX
  subst hn
  refine calls_of_wp hf hb ?_
  have hwp := h r w hi hX r _ w hi (enter_rel hv (Nat.le_of_ble_eq_true ha)) (fun _ => rfl) (Ext.refl _ _ _)
  refine wp_mono hwp fun e a w' hq => ?_
  obtain ⟨ae, fr', σ', r', hq, he, hi', hf', hd', hx'⟩ := hq
  cases e <;> cases ae <;> first | exact he.elim | skip
  · obtain ⟨C, us, h1, h2, h3⟩ := hq
    obtain ⟨v', h4, h5⟩ := results_run (fn := fn) hi' hf' h1 h2
    exact ⟨hd' rfl, v', h4, _, σ', r', h3, h5, hi', hx'⟩
  · exact hq.elim
  · exact hq.elim
  · obtain ⟨C, us, h1, h2, h3⟩ := hq
    obtain ⟨v', h4, h5⟩ := results_run (fn := fn) hi' hf' h1 h2
    exact ⟨hd' rfl, v', h4, _, σ', r', h3, h5, hi', hx'⟩
  · exact ⟨hd' rfl, _, σ', r', hq, he, hi', hx'⟩
def YieldV (cx : Cx) (B : Bs) (l : Nat) (x : AV) (σ σ' : Heap) : Prop := ∀ (m : Nat) r w v, Inv cx r σ w → Ext B.r B.σ B.w r σ w → VRel r w v x →
  YieldAt Fence.wide m cx.P l #[v] w (fun e w' => e = .returned (.bool true) ∧ ∃ r', Inv cx r' σ' w' ∧ Ext r σ w r' σ' w')
abbrev YieldOk (cx : Cx) (B : Bs) (l : Nat) (cs : List AV) (σ σ' : Heap) : Prop := YieldV cx B l (.agg cs) σ σ'
section
variable {cx : Cx} {n : Nat} {B : Bs} {k : List AI} {Q : Post} {fr : Fr} {σ : Heap}
theorem S_yieldV {id : Nat} {o0 o1 o2 o3 : Oper} {l : Nat} {x : AV} {σ' : Heap} {d0 d1 : Nat} {tys : Array TypeId} (hops : ∀ o ∈ [o0, o1, o2, o3], o.guard = none ∧ dstOk n o.dst = true) (hdf : ∀ o ∈ [o0, o1, o3], ∀ c, o.op ≠ .defer c)
    (h0 : OpSpec cx n fr σ o0 (.func (.yield l) [] []) σ) (h1 : OpSpec cx n (setA o0.dst (.func (.yield l) [] []) fr) σ o1 x σ) (h2 : o2.op = .call { callee := .value (.tmp d0), args := #[.tmp d1], argTypes := tys })
    (hd0 : (setA o1.dst x (setA o0.dst (.func (.yield l) [] []) fr)).get d0 = .func (.yield l) [] []) (hd1 : (setA o1.dst x (setA o0.dst (.func (.yield l) [] []) fr)).get d1 = x)
    (hY : YieldV cx B l x σ σ') (h3 : OpSpec cx n (setA o2.dst (.bool true) (setA o1.dst x (setA o0.dst (.func (.yield l) [] []) fr))) σ' o3 (.bool false) σ')
    (hk : S cx n B k Q (setA o3.dst (.bool false) (setA o2.dst (.bool true) (setA o1.dst x (setA o0.dst (.func (.yield l) [] []) fr)))) σ') :
    S cx n B (.code (.region id #[o0, o1, o2, o3] false) :: k) Q fr σ := by
  intro r a w hi hf hd hx
  have hw : ∀ f, Fence.wide.fn f := fun _ => trivial
  refine (wpIn_wide (n := 5)).1 (wpIn_region_list ?_)
  refine wpListIn_spec hw (hops o0 (by simp)).1 (hops o0 (by simp)).2 (hdf o0 (by simp)) h0 hi hf fun r1 w1 v1 hv1 hi1 hx1 hf1 => ?_
  refine wpListIn_spec hw (hops o1 (by simp)).1 (hops o1 (by simp)).2 (hdf o1 (by simp)) h1 hi1 hf1 fun r2 w2 v2 hv2 hi2 hx2 hf2 => ?_
  have hE := (hx.trans hx1).trans hx2
  have g0 := hf2.get d0
  have g1 := hf2.get d1
  rw [hd0] at g0
  rw [hd1] at g1
  have e0 : ((a.put o0.dst v1).put o1.dst v2).eval (.tmp d0) = .func (.yield l) #[] #[] := by
    show ((a.put o0.dst v1).put o1.dst v2).tmps.getD d0 undef = _
    generalize ((a.put o0.dst v1).put o1.dst v2).tmps.getD d0 undef = z at g0
    cases g0 with
    | func q1 _ q2 _ =>
      rw [Array.eq_empty_of_size_eq_zero q1, Array.eq_empty_of_size_eq_zero q2]
  have g1' : VRel r2 w2 (((a.put o0.dst v1).put o1.dst v2).eval (.tmp d1)) x := g1
  obtain ⟨fn, tmps, assign, body, hy, hR⟩ := hY (5 - 1) r2 w2 _ hi2 hE g1'
  refine wpListIn_plain (hops o2 (by simp)).1 fun K hK => ⟨fun f _ => trivial, ?_⟩
  rw [Oper.semAt_eq _ _ _ (by rw [h2]; intro c hc; cases hc)]
  have hrun : (execOp ((a.put o0.dst v1).put o1.dst v2).eval o2).run cx.P w2 = .ok (.round l fn tmps assign body) w2 := by
    simp only [execOp, h2, resolve, Sem.run_bind, e0, Deferred.ofValue, Sem.run_pure, Result.andThen_ok, invoke, callFunc, Array.map, Array.append_empty, Array.empty_append]
    first | exact hy | simpa using hy
  rw [hrun]
  refine ⟨(fun h => by cases h), hR.mono ?_⟩
  rintro e w3 ⟨rfl, r3, hi3, hx3⟩
  have hf3 := (hf2.mono (hx3.grow hi2)).setA (hops o2 (by simp)).2 (VRel.bool (b := true))
  refine hK _ _ ?_
  refine wpListIn_spec hw (hops o3 (by simp)).1 (hops o3 (by simp)).2 (hdf o3 (by simp)) h3 hi3 hf3 fun r4 w4 v4 hv4 hi4 hx4 hf4 => ?_
  refine wpListIn_nil (Lift.mk hk trivial hi4 hf4 (fun hb => ?_) ((hE.trans hx3).trans hx4))
  rw [put_defers, put_defers, put_defers, put_defers]
  exact hd hb
theorem S_yieldR {id : Nat} {o0 o1 o2 o3 : Oper} {l : Nat} {cs : List AV} {σ' : Heap} {d0 d1 : Nat} {tys : Array TypeId} (hops : ∀ o ∈ [o0, o1, o2, o3], o.guard = none ∧ dstOk n o.dst = true) (hdf : ∀ o ∈ [o0, o1, o3], ∀ c, o.op ≠ .defer c)
    (h0 : OpSpec cx n fr σ o0 (.func (.yield l) [] []) σ) (h1 : OpSpec cx n (setA o0.dst (.func (.yield l) [] []) fr) σ o1 (.agg cs) σ) (h2 : o2.op = .call { callee := .value (.tmp d0), args := #[.tmp d1], argTypes := tys })
    (hd0 : (setA o1.dst (.agg cs) (setA o0.dst (.func (.yield l) [] []) fr)).get d0 = .func (.yield l) [] []) (hd1 : (setA o1.dst (.agg cs) (setA o0.dst (.func (.yield l) [] []) fr)).get d1 = .agg cs)
    (hY : YieldOk cx B l cs σ σ') (h3 : OpSpec cx n (setA o2.dst (.bool true) (setA o1.dst (.agg cs) (setA o0.dst (.func (.yield l) [] []) fr))) σ' o3 (.bool false) σ')
    (hk : S cx n B k Q (setA o3.dst (.bool false) (setA o2.dst (.bool true) (setA o1.dst (.agg cs) (setA o0.dst (.func (.yield l) [] []) fr)))) σ') :
    S cx n B (.code (.region id #[o0, o1, o2, o3] false) :: k) Q fr σ := S_yieldV hops hdf h0 h1 h2 hd0 hd1 hY h3 hk
end
end Go.Ab
end
section
set_option linter.unusedVariables false
set_option linter.unusedSimpArgs false
namespace Go.Ab
open Go
section
variable {cx : Cx} {n : Nat} {B : Bs} {k : List AI} {Q : Post} {fr : Fr} {σ : Heap}
def hp1 (σ σ1 : Heap) (j1 : Nat) (listed : Array Bool) : Heap := bif listed.getD j1 false then σ1 else σ
end
end Go.Ab
end
