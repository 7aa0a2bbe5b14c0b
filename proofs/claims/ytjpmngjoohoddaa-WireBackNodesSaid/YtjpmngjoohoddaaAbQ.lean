/-
  Pure functions: how they are proved, and how they are called. What stops the machine: indexes, loads of elements, panics, the next letter of a text.
-/
import Derived.Test.YtjpmngjoohoddaaAbP
set_option linter.unusedVariables false
set_option linter.unusedSimpArgs false
namespace Go.Ab
open Go

theorem calc_of {cx : Cx} {f : FuncId} {args : List AV} {res : AV} (hfree : Free true res)
    (h : CallOk cx f args [] (fun o σ' => ∃ v, o = .ret v ∧ Frz true σ' v res)) : Calc cx f args res := by
  refine ⟨hfree, h.1, fun r w vs hi hv => ?_⟩
  refine (h.2 r w vs hi hv).mono fun e w' ⟨o, σ', r', ⟨v, ho, hz⟩, hor, hi', hx'⟩ => ?_
  subst ho
  cases e with
  | returned u =>
    have hu : VRel r' w' u v := hor
    have hlt : ∀ id ver p, r.ρ id ver = some p → False := by
      intro id ver p hp
      obtain ⟨⟨cur, x, h1, _⟩, _⟩ := hi.lt id ver p.1 p.2 hp
      simp at h1
    have hnl : ∀ b, ¬ Live r [] b := by rintro b ⟨id, ver, x, o, h1, _⟩; simp at h1
    let r2 : Rl := { S := fun b => r'.S b ∨ Live r' σ' b, I := fun b => r.I b ∨ r'.S b ∨ Live r' σ' b, ρ := fun _ _ => none }
    have hsame : ∀ b, b < w.heap.size → w'.heap[b]? = w.heap[b]? := fun b hb => hx'.same b hb (hnl b)
    refine ⟨.ret res, [], r2, ⟨rfl, rfl⟩, ?_, ⟨fun id ver x h => (by simp at h), fun id ver b o h => (by cases h), fun id id' ver ver' x x' b o o' h => (by simp at h), ?_, ?_, fun b h => .inr h, ?_⟩, ⟨fun b h => .inl (hx'.S b h), fun b h => .inl h, ?_, ?_, fun id ver p hp => (hlt id ver p hp).elim, hx'.hs, Nat.le_refl _, fun b hb _ => hsame b hb, ?_, hx'.size, hx'.os, hx'.output, hx'.tape⟩⟩
    · exact hz.rel (r' := r2) hi' (fun b h => Or.inl h) (fun b h => Or.inr h) (fun h => by cases h) (fun b h => ⟨Or.inr (Or.inr h), fun _ => Or.inr h⟩) hu
    · rintro b ⟨id, ver, x, o, h, _⟩; simp at h
    · intro b hb
      rcases hb with hb | hb | hb
      · exact Nat.lt_of_lt_of_le (hi.Ilt b hb) hx'.hs
      · exact hi'.Ilt b (hi'.SI b hb)
      · obtain ⟨id, ver, x, o, h1, h2⟩ := hb
        exact (hi'.lt _ _ _ _ h2).2
    · intro g cs hg
      obtain ⟨h1, h2⟩ := hi'.glob g cs hg
      exact ⟨.inl h1, h2⟩
    · intro b hb
      rcases hb with hb | hb
      · exact hx'.Sf b hb
      · rcases hx'.liv b hb with h | h
        · exact absurd h (hnl b)
        · exact .inr h
    · intro b hb
      rcases hb with hb | hb | hb
      · exact .inl hb
      · rcases hx'.Sf b hb with h | h
        · exact .inl (hi.SI b h)
        · exact .inr (.inr h)
      · rcases hx'.liv b hb with h | h
        · exact absurd h (hnl b)
        · exact .inr (.inr h)
    · rintro b ⟨id, ver, x, o, h, _⟩; simp at h
  | panicked chain => exact hor.elim
  | outgrown => exact hor.elim

theorem pure_intro {cx : Cx} {f : FuncId} {fn : Func} {c : Code} {n : Nat} {args : List AV} {res : AV} (he : Enters cx.P f) (hf : cx.P.funcs[f]? = some fn) (hb : fn.body = some c) (hn : fn.ntmps = n) (ha : Nat.ble args.length n = true) (hfree : Free true res)
    (h : ∀ B, S cx n B [.code c] (retQ cx fn fun o σ' => ∃ v, o = .ret v ∧ Frz true σ' v res) (enterFr 0 args) []) : Calc cx f args res :=
  calc_of hfree (callOk_intro he hf hb hn ha h)

theorem after_pure {cx : Cx} {r r1 : Rl} {σ : Heap} {w w' : World} (hi : Inv cx r σ w) (hi1 : Inv cx r1 [] w') (hx : Ext { S := r.S, I := fun b => r.I b ∨ Live r σ b, ρ := fun _ _ => none } [] w r1 [] w') :
    Inv cx { S := r1.S, I := fun b => r.I b ∨ r1.S b, ρ := r.ρ } σ w' ∧ Ext r σ w { S := r1.S, I := fun b => r.I b ∨ r1.S b, ρ := r.ρ } σ w' := by
  have hsame : ∀ b, b < w.heap.size → w'.heap[b]? = w.heap[b]? := fun b hb => hx.same b hb (by rintro ⟨id, ver, x, o, h1, _⟩; simp at h1)
  have hSf : ∀ b, r1.S b → r.S b ∨ w.heap.size ≤ b := hx.Sf
  have g : Grow r w { S := r1.S, I := fun b => r.I b ∨ r1.S b, ρ := r.ρ } w' := ⟨hx.S, fun b h => .inl h, fun _ _ _ h => h, fun b hb => hsame b (hi.Ilt b hb), hx.size⟩
  refine ⟨⟨?_, ?_, hi.inj, ?_, ?_, fun b h => .inr h, ?_⟩, ⟨hx.S, fun b h => .inl h, hSf, ?_, fun _ _ _ h => h, hx.hs, Nat.le_refl _, fun b hb _ => hsame b hb, fun b h => .inl h, hx.size, hx.os, hx.output, hx.tape⟩⟩
  · intro id ver x hid
    rcases hi.box id ver x hid with ⟨b, o, h1, h2⟩ | h1
    · exact .inl ⟨b, o, h1, h2.mono g (hsame b h2.lt)⟩
    · exact .inr h1
  · intro id ver b o h
    obtain ⟨h1, h2⟩ := hi.lt id ver b o h
    exact ⟨h1, Nat.lt_of_lt_of_le h2 hx.hs⟩
  · rintro b hl hb
    have hbl : b < w.heap.size := by obtain ⟨id, ver, x, o, h1, h2⟩ := hl; exact (hi.lt _ _ _ _ h2).2
    rcases hb with hb | hb
    · exact hi.imm b hl hb
    · rcases hSf b hb with h | h
      · exact hi.imm b hl (hi.SI b h)
      · omega
  · intro b hb
    rcases hb with hb | hb
    · exact Nat.lt_of_lt_of_le (hi.Ilt b hb) hx.hs
    · exact hi1.Ilt b (hi1.SI b hb)
  · intro g cs hg
    exact hi1.glob g cs hg
  · intro b hb
    rcases hb with hb | hb
    · exact .inl hb
    · rcases hSf b hb with h | h
      · exact .inl (hi.SI b h)
      · exact .inr (.inr h)

/-- Arguments that are handed on. -/
def Frzs (σ : Heap) (as bs : List AV) : Prop := as.length = bs.length ∧ ∀ i (h : i < as.length) (h' : i < bs.length), Frz false σ as[i] bs[i]

theorem Frzs.nil (σ : Heap) : Frzs σ [] [] := ⟨rfl, fun i h => absurd h (by simp)⟩
theorem Frzs.cons {σ : Heap} {a b : AV} {as bs : List AV} (h : Frz false σ a b) (hs : Frzs σ as bs) : Frzs σ (a :: as) (b :: bs) := by
  refine ⟨by simp [hs.1], fun i h1 h2 => ?_⟩
  cases i with
  | zero => exact h
  | succ i => simpa using hs.2 i (by simpa using h1) (by simpa using h2)

section
variable {cx : Cx} {n : Nat} {B : Bs} {k : List AI} {Q : Post} {fr : Fr} {σ : Heap}

theorem S_pure {all : Array Oper} {o : Oper} {l : List Oper} {K : List Nat} {f : FuncId} {args args' : List AV} {res : AV} (hc : callA cx fr o.op = some (f, args)) (hg : guardA all o K fr = some true) (hd : dstOk n o.dst = true)
    (hp : Calc cx f args' res) (hz : Frzs σ args args') (hk : S cx n B (.ops all l K :: k) Q (setA o.dst res fr) σ) : S cx n B (.ops all (o :: l) K :: k) Q fr σ := by
  intro r a w hi hf hdf hx
  have hw := guardA_wanted (cx := cx) hf hg
  obtain ⟨vs, h1, h2⟩ := callA_run hi hf hc hp.call.1
  unfold wpList
  rw [if_pos hw]
  refine .inl ?_
  unfold Oper.wp
  rw [h1, Oper.upon_enter]
  have hvs : VRels { S := r.S, I := fun b => r.I b ∨ Live r σ b, ρ := fun _ _ => none } w vs args' := by
    refine ⟨h2.1.trans hz.1, fun i hi' => ?_⟩
    exact (hz.2 i (by rw [hz.1]; exact hi') hi').rel (r' := { S := r.S, I := fun b => r.I b ∨ Live r σ b, ρ := fun _ _ => none }) hi (fun b h => h) (fun b h => Or.inl (hi.SI b h)) (fun _ b h => Or.inl h) (fun b h => ⟨Or.inr h, fun h => by cases h⟩) (h2.2 i (by rw [hz.1]; exact hi'))
  refine (hp.call.2 _ w vs hi.empty hvs).mono fun e w' ⟨out, σ', r1, ⟨ho, hσ'⟩, hor, hi1, hx1⟩ => ?_
  subst ho; subst hσ'
  cases e with
  | returned u =>
    obtain ⟨hi2, hx2⟩ := after_pure hi hi1 hx1
    have hu : VRel r1 w' u res := hor
    exact hk _ _ w' hi2 ((hf.mono (hx2.grow hi)).setA hd (hu.free hp.free (fun b h => h) (fun b h => .inr h) (fun h => by cases h))) (hdf.put _ _) (hx.trans hx2)
  | panicked chain => exact hor.elim
  | outgrown => exact hor.elim

/-- An operation whose outcome is shown by hand. -/
theorem S_do {all : Array Oper} {o : Oper} {l : List Oper} {K : List Nat} {v : AV} {σ' : Heap} (hg : guardA all o K fr = some true) (hd : dstOk n o.dst = true)
    (h : ∀ r a w, Inv cx r σ w → FRel r w n fr a → OpRes cx r σ w ((execOp a.eval o).run cx.P w) v σ') (hk : S cx n B (.ops all l K :: k) Q (setA o.dst v fr) σ') : S cx n B (.ops all (o :: l) K :: k) Q fr σ := by
  intro r a w hi hf hdf hx
  have hw := guardA_wanted (cx := cx) hf hg
  obtain ⟨r', w', v', hrun, hv, hi', hx'⟩ := h r a w hi hf
  unfold wpList
  rw [if_pos hw]
  refine .inl ?_
  unfold Oper.wp
  have hf' : FRel r' w' n (setA o.dst v fr) (a.put o.dst v') := (hf.mono (hx'.grow hi)).setA hd hv
  have hgo := hk r' (a.put o.dst v') w' hi' hf' (hdf.put _ _) (hx.trans hx')
  rcases hrun with hrun | ⟨hrun, hu⟩
  · rw [hrun]; exact hgo
  · rw [hrun]; subst hu; exact hgo

def mulN (j : Nat) (n : Nat) : Nat := match n with | 1 => j | n => j * n
def offN (off : Nat) (x : Nat) : Nat := match off with | 0 => x | off => off + x
theorem mulN_eq (j n : Nat) : mulN j n = j * n := by unfold mulN; split <;> simp
theorem offN_eq (a b : Nat) : offN a b = a + b := by unfold offN; split <;> simp

/-- The address of an element. -/
def idxA (cx : Cx) (fr : Fr) (σ : Heap) (o : Op) (x : AV) : Option (List Prop × AV) :=
  match o with
  | .indexAddr t s i => match cx.P.underlying t, ev cx fr i with
    | some (.slice e), .int _ j => match szOf cx.P e, ev cx fr s with
      | some n, .sl st _ sz xs => some ([sz = n, 0 ≤ j, xs[j.toNat]? = some x], .rp st x.cells)
      | some n, .ms id ver off len sz _ => some ([sz = n, 0 ≤ j, j < len], .eptr id ver (offN off (mulN j.toNat n)))
      | _, _ => none
    | some (.array len e), .int _ j => match szOf cx.P e, ev cx fr s with
      | some n, .ptr id ver off => some ([0 ≤ j, j < len], .eptr id ver (offN off (mulN j.toNat n)))
      | some n, .eptr id ver off => some ([0 ≤ j, j < len], .eptr id ver (offN off (mulN j.toNat n)))
      | some n, .rp st cs => some ([0 ≤ j, j < len, (cs.drop (j.toNat * n)).take n = x.cells], .rp st x.cells)
      | _, _ => none
    | _, _ => none
  | _ => none

theorem idxA_run {cx : Cx} {r : Rl} {σ : Heap} {w : World} {n : Nat} {fr : Fr} {a : Act} {o : Oper} {x : AV} {C : List Prop} {v : AV} (hi : Inv cx r σ w) (hf : FRel r w n fr a) (h : idxA cx fr σ o.op x = some (C, v)) (hC : AllP C) :
    OpRes cx r σ w ((execOp a.eval o).run cx.P w) v σ := by
  have he : ∀ x, VRel r w (a.eval x) (ev cx fr x) := fun x => ev_rel hi hf x
  obtain ⟨dst, op, ty, pos, aft, guard⟩ := o
  simp only at h
  have q : ∀ {s : Sem Value}, (∃ v', s.run cx.P w = .ok v' w ∧ VRel r w v' v) → OpRes cx r σ w ((do let x ← s; pure (Next.value x) : Sem Next).run cx.P w) v σ := by
    rintro s ⟨v', h1, h2⟩
    exact ⟨r, w, v', .inl (exec_v h1), h2, hi, Ext.refl _ _ _⟩
  unfold idxA at h
  split at h
  case h_2 => cases h
  rename_i t s i
  have hs := he s
  have hj := he i
  unfold execOp
  refine q ?_
  try simp only
  generalize a.eval s = s' at hs ⊢
  generalize a.eval i = i' at hj ⊢
  split at h
  · rename_i e kk j hu hje
    rw [hje] at hj
    cases hj
    split at h
    · rename_i m st fl sz xs hm hse
      rw [hse] at hs
      simp only [Option.some.injEq, Prod.mk.injEq] at h; obtain ⟨rfl, rfl⟩ := h
      obtain ⟨hsz, h0, hx, _⟩ := hC
      subst hsz
      have hlt : j.toNat < xs.length := by
        rcases Nat.lt_or_ge j.toNat xs.length with h | h
        · exact h
        · rw [List.getElem?_eq_none h] at hx; cases hx
      have hxe : xs[j.toNat] = x := by rw [List.getElem?_eq_getElem hlt] at hx; exact Option.some.inj hx
      cases s' with
      | slice ao nn cap =>
        cases hs with
        | sl0 => simp at hlt
        | sl hn hc0 hff hI hS hszz f hc hv =>
          rename_i b o'
          subst hn
          have hjl : j < (xs.length : Int) := by omega
          refine ⟨.pointer (some ⟨b, o' + j.toNat * sz, none⟩), ?_, ?_⟩
          · simp only [Instr.indexAt, asIntOf, Sem.run_bind, Sem.run_pure, Result.andThen_ok, run_underlying hu, run_sizeOf' hm]
            rw [if_pos ⟨h0, hjl⟩]
            simp only [Sem.run_bind, run_sizeOf' hm, Result.andThen_ok, Sem.run_pure, Addr.add_lit]
          · refine Cells.rp hI hS (fun q hq => ?_)
            have hlen := hszz x (hxe ▸ List.getElem_mem hlt)
            have hq' : q < (AV.cells (xs[j.toNat]'hlt)).length := by rw [hxe]; exact hq
            refine ⟨f j.toNat q, hc _ hlt _ (by omega), ?_⟩
            have := hv _ hlt q hq'
            simpa [hxe] using this
      | _ => cases hs
    · rename_i m id ver off len sz fl hm hse
      rw [hse] at hs
      simp only [Option.some.injEq, Prod.mk.injEq, offN_eq, mulN_eq] at h; obtain ⟨rfl, rfl⟩ := h
      obtain ⟨hsz, h0, hl, _⟩ := hC
      subst hsz
      cases hs with
      | ms0 => simp at hl; omega
      | ms hρ hcap hn hff =>
        rename_i b o' cap
        refine ⟨.pointer (some ⟨b, o' + off + j.toNat * sz, none⟩), ?_, by rw [Nat.add_assoc]; exact .eptr hρ⟩
        simp only [Instr.indexAt, asIntOf, Sem.run_bind, Sem.run_pure, Result.andThen_ok, run_underlying hu, run_sizeOf' hm]
        rw [if_pos ⟨h0, hl⟩]
        simp only [Sem.run_bind, run_sizeOf' hm, Result.andThen_ok, Sem.run_pure, Addr.add_lit]
    · cases h
  · rename_i len e kk j hu hje
    rw [hje] at hj
    cases hj
    have hrun : ∀ (m b o' : Nat), szOf cx.P e = some m → 0 ≤ j → j < (len : Int) → (Instr.indexAt t (.pointer (some ⟨b, o', none⟩)) (.int kk j)).run cx.P w = .ok (.pointer (some ⟨b, o' + j.toNat * m, none⟩)) w := by
      intro m b o' hm h0 hl
      simp only [Instr.indexAt, asIntOf, Sem.run_bind, Sem.run_pure, Result.andThen_ok, run_underlying hu, Instr.sureAddr]
      rw [if_pos ⟨h0, hl⟩]
      simp only [Sem.run_bind, run_sizeOf' hm, Result.andThen_ok, Sem.run_pure, Addr.add_lit]
    split at h
    · rename_i m id ver off hm hse
      rw [hse] at hs
      simp only [Option.some.injEq, Prod.mk.injEq, offN_eq, mulN_eq] at h; obtain ⟨rfl, rfl⟩ := h
      obtain ⟨h0, hl, _⟩ := hC
      cases hs
      rename_i b o' hρ
      exact ⟨_, hrun m b (o' + off) hm h0 hl, by rw [Nat.add_assoc]; exact .eptr hρ⟩
    · rename_i m id ver off hm hse
      rw [hse] at hs
      simp only [Option.some.injEq, Prod.mk.injEq, offN_eq, mulN_eq] at h; obtain ⟨rfl, rfl⟩ := h
      obtain ⟨h0, hl, _⟩ := hC
      cases hs
      rename_i b o' hρ
      exact ⟨_, hrun m b (o' + off) hm h0 hl, by rw [Nat.add_assoc]; exact .eptr hρ⟩
    · rename_i m st cs hm hse
      rw [hse] at hs
      simp only [Option.some.injEq, Prod.mk.injEq] at h; obtain ⟨rfl, rfl⟩ := h
      obtain ⟨h0, hl, hx, _⟩ := hC
      cases s' <;> try (cases hs; done)
      obtain ⟨b, o', rfl, h1, h2, hc⟩ := Cells.of_rp hs
      refine ⟨_, hrun m b o' hm h0 hl, Cells.rp h1 h2 ?_⟩
      rw [← hx]
      exact (hc.drop _).take _
    · cases h
  · cases h

theorem S_index {all : Array Oper} {o : Oper} {l : List Oper} {K : List Nat} {C : List Prop} {v : AV} (x : AV) (h : idxA cx fr σ o.op x = some (C, v)) (hg : guardA all o K fr = some true) (hd : dstOk n o.dst = true) (hC : AllP C)
    (hk : S cx n B (.ops all l K :: k) Q (setA o.dst v fr) σ) : S cx n B (.ops all (o :: l) K :: k) Q fr σ :=
  S_do hg hd (fun r a w hi hf => idxA_run hi hf h hC) hk

/-- A load, its conditions said instead of tried. -/
def loadA (cx : Cx) (fr : Fr) (σ : Heap) (o : Op) (x : AV) : Option (List Prop) :=
  match o with
  | .load t a => match aggT cx.P t, szOf cx.P t with
    | some ag, some m => match ev cx fr a with
      | .eptr id ver off => match boxAt σ id with
        | some (cur, cs, _) => some ((ver = cur) :: loadC ag m (cs.drop off) x)
        | none => none
      | .ptr id ver off => match boxAt σ id with
        | some (cur, cs, _) => some ((ver = cur) :: loadC ag m (cs.drop off) x)
        | none => none
      | .rp _ cs => some (loadC ag m cs x)
      | _ => none
    | _, _ => none
  | _ => none
where loadC (ag : Bool) (m : Nat) (cs : List AV) (x : AV) : List Prop := match ag with
  | true => [m ≤ cs.length, x = .agg (cs.take m)]
  | false => [cs[0]? = some x]

theorem loadC_run {P : Program} {t : TypeId} {ag : Bool} {m : Nat} {cs : List AV} {x : AV} (ha : aggT P t = some ag) (hm : szOf P t = some m) (h : AllP (loadA.loadC ag m cs x)) : aLoad P t cs = some x := by
  cases ag with
  | true =>
    obtain ⟨h1, rfl, _⟩ := h
    simp only [aLoad, ha, hm, Nat.ble_eq_true_of_le h1, cond_true]
  | false =>
    obtain ⟨h1, _⟩ := h
    cases cs with
    | nil => simp at h1
    | cons y r => simp at h1; subst h1; simp [aLoad, ha]

theorem loadA_run {r : Rl} {w : World} {a : Act} {o : Oper} {C : List Prop} {x : AV} (hi : Inv cx r σ w) (hf : FRel r w n fr a) (h : loadA cx fr σ o.op x = some C) (hC : AllP C) : OpRes cx r σ w ((execOp a.eval o).run cx.P w) x σ := by
  have he : ∀ x, VRel r w (a.eval x) (ev cx fr x) := fun x => ev_rel hi hf x
  obtain ⟨dst, op, ty, pos, aft, guard⟩ := o
  simp only at h
  unfold loadA at h
  split at h
  case h_2 => cases h
  rename_i t s
  have hs := he s
  split at h
  case h_2 => cases h
  rename_i ag m hag hm
  have key : ∀ {id ver off cur b o' : Nat} {cs : List AV} {ro : Tag}, boxAt σ id = some (cur, cs, ro) → AllP ((ver = cur) :: loadA.loadC ag m (cs.drop off) x) → r.ρ id ver = some (b, o') → a.eval s = .pointer (some ⟨b, o' + off, none⟩) → OpRes cx r σ w ((execOp a.eval ⟨dst, .load t s, ty, pos, aft, guard⟩).run cx.P w) x σ := by
    intro id ver off cur b o' cs ro hb hC hρ hse
    unfold execOp
    try simp only
    rw [hse]
    obtain ⟨v', h1, h2⟩ := aLoad_run (P := cx.P) ((hi.cells hb hC.1 hρ).cells'.drop off) (loadC_run hag hm hC.2)
    exact ⟨r, w, v', .inl (exec_v (by simpa [Instr.loadAt, Instr.sureAddr] using h1)), h2, hi, Ext.refl _ _ _⟩
  split at h
  · rename_i id ver off hse
    rw [hse] at hs
    split at h
    case h_2 => cases h
    rename_i cur cs ro hb
    simp only [Option.some.injEq] at h; subst h
    generalize hz : a.eval s = z at hs
    cases hs
    rename_i b o' hρ
    exact key hb hC hρ hz
  · rename_i id ver off hse
    rw [hse] at hs
    split at h
    case h_2 => cases h
    rename_i cur cs ro hb
    simp only [Option.some.injEq] at h; subst h
    generalize hz : a.eval s = z at hs
    cases hs
    rename_i b o' hρ
    exact key hb hC hρ hz
  · rename_i st cs hse
    rw [hse] at hs
    simp only [Option.some.injEq] at h; subst h
    unfold execOp
    try simp only
    generalize hz : a.eval s = z at hs
    cases z <;> try (cases hs; done)
    obtain ⟨b, o', rfl, h1, h2, hc⟩ := Cells.of_rp hs
    obtain ⟨v', h3, h4⟩ := aLoad_run (P := cx.P) hc (loadC_run hag hm hC)
    exact ⟨r, w, v', .inl (exec_v (by simpa [Instr.loadAt, Instr.sureAddr] using h3)), h4, hi, Ext.refl _ _ _⟩
  · cases h

theorem S_load {all : Array Oper} {o : Oper} {l : List Oper} {K : List Nat} {C : List Prop} (x : AV) (h : loadA cx fr σ o.op x = some C) (hg : guardA all o K fr = some true) (hd : dstOk n o.dst = true) (hC : AllP C)
    (hk : S cx n B (.ops all l K :: k) Q (setA o.dst x fr) σ) : S cx n B (.ops all (o :: l) K :: k) Q fr σ :=
  S_do hg hd (fun r a w hi hf => loadA_run hi hf h hC) hk

/-- A store, its conditions said instead of tried. -/
def storeA (cx : Cx) (fr : Fr) (σ : Heap) (o : Op) : Option (List Prop × Heap) :=
  match o with
  | .store t a x => match szOf cx.P t with
    | some m => match ev cx fr a with
      | .eptr id ver off => match σ[id]? with
        | some (cur, some (.cells cs ⟨false, gT⟩)) => some ([(ev cx fr x).cells.length = m, allOne (ev cx fr x).cells = true, ver = cur, off + m ≤ cs.length], σ.set id (cur, some (.cells (setRange cs off (ev cx fr x).cells) ⟨false, gT⟩)))
        | _ => none
      | .ptr id ver off => match σ[id]? with
        | some (cur, some (.cells cs ⟨false, gT⟩)) => some ([(ev cx fr x).cells.length = m, allOne (ev cx fr x).cells = true, ver = cur, off + m ≤ cs.length], σ.set id (cur, some (.cells (setRange cs off (ev cx fr x).cells) ⟨false, gT⟩)))
        | _ => none
      | _ => none
    | none => none
  | _ => none

theorem S_store {all : Array Oper} {o : Oper} {l : List Oper} {K : List Nat} {C : List Prop} {σ' : Heap} (h : storeA cx fr σ o.op = some (C, σ')) (hg : guardA all o K fr = some true) (hd : dstOk n o.dst = true) (hC : AllP C)
    (hk : S cx n B (.ops all l K :: k) Q (setA o.dst (.tup []) fr) σ') : S cx n B (.ops all (o :: l) K :: k) Q fr σ := by
  refine S_do hg hd (fun r a w hi hf => ?_) hk
  have he : ∀ x, VRel r w (a.eval x) (ev cx fr x) := fun x => ev_rel hi hf x
  obtain ⟨dst, op, ty, pos, aft, guard⟩ := o
  simp only at h
  unfold storeA at h
  split at h
  case h_2 => cases h
  rename_i t s x
  have hs := he s
  have hx := he x
  split at h
  case h_2 => cases h
  rename_i m hm
  split at h
  case h_3 => cases h
  all_goals
    rename_i id ver off hse
    rw [hse] at hs
    split at h
    case h_2 => cases h
    rename_i cur cs hσ
    simp only [Option.some.injEq, Prod.mk.injEq] at h; obtain ⟨rfl, rfl⟩ := h
    obtain ⟨h1, h2, h3, h4, _⟩ := hC
    unfold execOp
    try simp only
    generalize hz : a.eval s = z at hs
    cases hs
    rename_i b o' hρ
    obtain ⟨w', r', k1, k2, k3⟩ := store_main hi hm hσ h3 h4 h1 (allOne_mem h2) hx hρ
    refine ⟨r', w', undef, .inr ⟨?_, rfl⟩, .tup rfl (fun i h => absurd h (by simp)), k2, k3⟩
    simp [Instr.storeAt, Instr.sureAddr, k1]

/-- A panic of the text's own. -/
theorem S_panic {all : Array Oper} {o : Oper} {l : List Oper} {K : List Nat} {x : Operand} {t : TypeId} {v : AV} (ho : o.op = .panic x) (hx : ev cx fr x = .iface t v) (hg : guardA all o K fr = some true) (hk : Q (.panic (.iface t v)) fr σ) :
    S cx n B (.ops all (o :: l) K :: k) Q fr σ := by
  intro r a w hi hf hdf hxx
  have hw := guardA_wanted (cx := cx) hf hg
  have hv := ev_rel hi hf x
  rw [hx] at hv
  unfold wpList
  rw [if_pos hw]
  refine .inl ?_
  unfold Oper.wp
  have hrun : ∃ u, (execOp a.eval o).run cx.P w = .halt (.panic u) w ∧ VRel r w u (.iface t v) := by
    obtain ⟨dst, op, ty, pos, aft, guard⟩ := o
    simp only at ho
    subst ho
    refine ⟨a.eval x, ?_, hv⟩
    unfold execOp
    try simp only
    generalize a.eval x = z at hv ⊢
    cases hv with
    | iface h => simp [Instr.panic]
  obtain ⟨u, h1, h2⟩ := hrun
  rw [h1, Oper.upon_panic]
  refine Lift.mk (ae := .panic _) ?_ ⟨u, rfl, h2⟩ hi hf hdf hxx
  rw [after_panic]
  exact hk

end
end Go.Ab
