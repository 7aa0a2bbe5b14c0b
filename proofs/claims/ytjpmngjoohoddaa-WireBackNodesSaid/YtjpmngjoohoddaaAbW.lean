/-
  Another reading of the same heap: an empty slice as the slice of an empty box.
-/
import Derived.Test.YtjpmngjoohoddaaAbV
set_option linter.unusedVariables false
set_option linter.unusedSimpArgs false
namespace Go.Ab
open Go

theorem lble {a b : Nat} (h : Nat.ble a b = true) : a ≤ b := Nat.le_of_ble_eq_true h

theorem byte1 {x : AV} (h : isByte x) : ∀ y ∈ [x], isByte y := fun y hy => by simp at hy; subst hy; exact h

def Fzs (st : Bool) (σ : Heap) (as bs : List AV) : Prop := as.length = bs.length ∧ ∀ i (h : i < as.length) (h' : i < bs.length), Frz st σ as[i] bs[i]
theorem Fzs.nil {st : Bool} {σ : Heap} : Fzs st σ [] [] := ⟨rfl, fun i h => absurd h (by simp)⟩
theorem Fzs.cons {st : Bool} {σ : Heap} {a b : AV} {as bs : List AV} (h : Frz st σ a b) (hs : Fzs st σ as bs) : Fzs st σ (a :: as) (b :: bs) := by
  refine ⟨by simp [hs.1], fun i h1 h2 => ?_⟩
  cases i with
  | zero => exact h
  | succ i => simpa using hs.2 i (by simpa using h1) (by simpa using h2)
theorem Fzs.tup {st : Bool} {σ : Heap} {as bs : List AV} (h : Fzs st σ as bs) : Frz st σ (.tup as) (.tup bs) := .tup h.1 h.2

theorem one_cells {x : AV} (h : x.one = true) : x.cells = [x] := by cases x <;> first | rfl | cases h

theorem ones_flat : ∀ {xs : List AV}, (∀ x ∈ xs, x.one = true) → xs.flatMap AV.cells = xs
  | [], _ => rfl
  | x :: r, h => by
    rw [List.flatMap_cons, one_cells (h x (List.mem_cons_self ..)), ones_flat (fun y hy => h y (List.mem_cons_of_mem _ hy))]
    rfl

/-- A slice of a box of one-cell values is handed out. -/
theorem Frz.ms1 {st : Bool} {σ : Heap} {id ver len : Nat} {full : Bool} {xs : List AV} {ro : Tag} (hb : boxAt σ id = some (ver, xs, ro)) (ho : ∀ x ∈ xs, x.one = true) (hl : xs.length = len) (hf : ∀ x ∈ xs, Free st x) :
    Frz st σ (.ms id ver 0 len 1 full) (.sl st false 1 xs) := by
  subst hl
  exact .ms hb (by simp) (by simp [ones_flat ho]) (fun x hx => by rw [one_cells (ho x hx)]; rfl) rfl hf

theorem Inv.recast {cx : Cx} {r : Rl} {σ : Heap} {w : World} {id cur : Nat} {x y : Box} (hi : Inv cx r σ w) (hσ : σ[id]? = some (cur, some x)) (hxy : ∀ b o, BoxRel r w b o x → BoxRel r w b o y) (hd : ∀ ro, x = .cells [] ro → ∃ ro', y = .cells [] ro') :
    Inv cx r (σ.set id (cur, some y)) w ∧ Ext r σ w r (σ.set id (cur, some y)) w := by
  have hid : id < σ.length := by
    rcases Nat.lt_or_ge id σ.length with h | h
    · exact h
    · rw [List.getElem?_eq_none h] at hσ; cases hσ
  have hget : ∀ (j v : Nat) (z : Box), (σ.set id (cur, some y))[j]? = some (v, some z) → ∃ z0, σ[j]? = some (v, some z0) ∧ ((j = id ∧ z0 = x ∧ z = y) ∨ (j ≠ id ∧ z0 = z)) := by
    intro j v z h
    rw [List.getElem?_set] at h
    by_cases hj : id = j
    · subst hj
      rw [if_pos rfl] at h
      simp [hid] at h
      obtain ⟨rfl, rfl⟩ := h
      exact ⟨x, hσ, .inl ⟨rfl, rfl, rfl⟩⟩
    · rw [if_neg hj] at h; exact ⟨z, h, .inr ⟨fun e => hj e.symm, rfl⟩⟩
  have hlive : ∀ b, Live r (σ.set id (cur, some y)) b → Live r σ b := by
    rintro b ⟨j, v, z, o, h1, h2⟩
    obtain ⟨z0, h3, _⟩ := hget j v z h1
    exact ⟨j, v, z0, o, h3, h2⟩
  refine ⟨⟨fun j v z h => ?_, fun j v b o h => ?_, fun i i' v v' z z' b o o' h1 h2 h3 h4 => ?_, fun b hb hI => hi.imm b (hlive b hb) hI, hi.Ilt, hi.SI, hi.glob⟩,
    ⟨fun _ h => h, fun _ h => h, fun _ h => .inl h, fun _ h => .inl h, fun _ _ _ h => h, Nat.le_refl _, by simp, fun b hb hnl => rfl, fun b hb => .inl (hlive b hb), fun b c t f h => ⟨c, f, h, rfl⟩, rfl, rfl, rfl⟩⟩
  · obtain ⟨z0, h3, h4⟩ := hget j v z h
    rcases h4 with ⟨rfl, rfl, rfl⟩ | ⟨h4, rfl⟩
    · rcases hi.box j v _ h3 with ⟨b, o, k1, k2⟩ | ⟨k1, ro, k2⟩
      · exact .inl ⟨b, o, k1, hxy b o k2⟩
      · exact .inr ⟨k1, hd ro k2⟩
    · exact hi.box j v _ h3
  · obtain ⟨⟨c, z, h1, h2⟩, h3⟩ := hi.lt j v b o h
    refine ⟨?_, h3⟩
    by_cases hj : id = j
    · subst hj
      rw [hσ] at h1; cases h1
      exact ⟨_, some y, by simp [hid], h2⟩
    · exact ⟨c, z, by rw [List.getElem?_set, if_neg hj]; exact h1, h2⟩
  · obtain ⟨z0, k1, _⟩ := hget i v z h1
    obtain ⟨z0', k2, _⟩ := hget i' v' z' h2
    exact hi.inj i i' v v' z0 z0' b o o' k1 k2 h3 h4

/-- In a row of cells, an empty slice is read as the slice of an empty box. -/
theorem nils_ms {r : Rl} {w : World} {b o k id ver sz : Nat} {cs : List AV} {g : Tag} (hk : cs[k]? = some .nils) (h : BoxRel r w b o (.cells cs g)) : BoxRel r w b o (.cells (cs.set k (.ms id ver 0 0 sz false)) g) := by
  obtain ⟨c, t, lo, hi, h1, h2, h3, h4, h5⟩ := h
  refine ⟨c, t, lo, hi, h1, fun i hil => ?_, fun x hx => ?_, fun i a b c => by rw [List.length_set]; exact h4 i a b c, h5⟩
  · have hil' : i < cs.length := by simpa using hil
    obtain ⟨v, k1, k2⟩ := h2 i hil'
    refine ⟨v, k1, ?_⟩
    rw [List.getElem_set]
    split
    · rename_i hki
      subst hki
      rw [List.getElem?_eq_getElem hil'] at hk
      rw [Option.some.inj hk] at k2
      cases k2
      exact .ms0
    · exact k2
  · rcases List.mem_or_eq_of_mem_set hx with h | h
    · exact h3 x h
    · subst h; rfl

section
variable {cx : Cx} {n : Nat} {B : Bs} {k : List AI} {Q : Post} {fr : Fr} {σ : Heap}

theorem S_ghost {todo : List AI} {id cur j gid gver : Nat} {cs : List AV} {g : Tag} {σ' : Heap} (sz : Nat) (g' : Tag) (h : σ[id]? = some (cur, some (.cells cs g))) (hj : cs[j]? = some .nils) (ha : allocH σ (.cells [] g') = (gid, gver, σ')) (hne : id ≠ gid)
    (hT : ∃ c k, todo = .code c :: k ∨ ∃ all l K, todo = .ops all l K :: k)
    (hk : S cx n B todo Q fr (σ'.set id (cur, some (.cells (cs.set j (.ms gid gver 0 0 sz false)) g)))) : S cx n B todo Q fr σ := by
  have key : ∀ r w, Inv cx r σ w → Inv cx r (σ'.set id (cur, some (.cells (cs.set j (.ms gid gver 0 0 sz false)) g))) w ∧ Ext r σ w r (σ'.set id (cur, some (.cells (cs.set j (.ms gid gver 0 0 sz false)) g))) w := by
    intro r w hi
    obtain ⟨ha1, ha2, ha3⟩ := allocH_spec ha
    obtain ⟨g1, g2⟩ := hi.ghost ha1 ha2 ha3
    obtain ⟨q1, q2⟩ := g1.recast (y := .cells (cs.set j (.ms gid gver 0 0 sz false)) g) (by rw [ha2 id hne]; exact h) (fun b o hb => nils_ms hj hb) (fun ro hro => by cases hro; simp at hj)
    exact ⟨q1, g2.trans q2⟩
  obtain ⟨c, k, hT⟩ := hT
  rcases hT with rfl | ⟨all, l, K, rfl⟩
  · intro r a w hi hf hd hx
    obtain ⟨q1, q2⟩ := key r w hi
    exact hk r a w q1 (hf.mono (q2.grow hi)) hd (hx.trans q2)
  · intro r a w hi hf hd hx
    obtain ⟨q1, q2⟩ := key r w hi
    exact hk r a w q1 (hf.mono (q2.grow hi)) hd (hx.trans q2)

/-- A pure function's answer. -/
theorem S_retc {fn : Func} {C : List Prop} {vs : List AV} {res : AV} {todo : List AI} (hf : Free true res) (h : resAll cx fr σ fn.results.toList = some (C, vs)) (hC : AllP C) (he : tupOf vs = res) :
    S cx n B (.code .ret :: todo) (retQ cx fn fun o σ' => ∃ v, o = .ret v ∧ Frz true σ' v res) fr σ := by
  refine S_ret ⟨C, vs, h, hC, _, rfl, ?_⟩
  rw [he]
  exact .refl hf

/-- A call whose arguments are known by another name. -/
theorem S_calle {all : Array Oper} {o : Oper} {l : List Oper} {K : List Nat} {f : FuncId} {args args' : List AV} {R : Out → Heap → Prop} (hg : guardA all o K fr = some true) (hc : callA cx fr o.op = some (f, args')) (hd : dstOk n o.dst = true) (he : args' = args)
    (hcall : CallOk cx f args σ R) (hr : ∀ v σ', R (.ret v) σ' → S cx n B (.ops all l K :: k) Q (setA o.dst v fr) σ') (hp : ∀ v σ', R (.panic v) σ' → Q (.panic v) fr σ') : S cx n B (.ops all (o :: l) K :: k) Q fr σ := by
  subst he
  exact S_call hg hc hd hcall hr hp

/-- The same of a temporary. -/
theorem S_ghostF {todo : List AI} {t gid gver : Nat} {σ' : Heap} (sz : Nat) (g' : Tag) (h : fr.get t = .nils) (ha : allocH σ (.cells [] g') = (gid, gver, σ'))
    (hT : ∃ c k, todo = .code c :: k ∨ ∃ all l K, todo = .ops all l K :: k) (hk : S cx n B todo Q ((t, .ms gid gver 0 0 sz false) :: fr) σ') : S cx n B todo Q fr σ := by
  have key : ∀ r w a, Inv cx r σ w → FRel r w n fr a → Inv cx r σ' w ∧ Ext r σ w r σ' w ∧ FRel r w n ((t, .ms gid gver 0 0 sz false) :: fr) a := by
    intro r w a hi hf
    obtain ⟨ha1, ha2, ha3⟩ := allocH_spec ha
    obtain ⟨g1, g2⟩ := hi.ghost ha1 ha2 ha3
    refine ⟨g1, g2, hf.size, fun s => ?_, fun vs hm => ?_⟩
    case refine_2 =>
      rw [Fr.get_cons] at hm
      split at hm
      · cases hm
      · exact hf.defs vs hm
    rw [Fr.get_cons]
    split
    · rename_i hs
      subst hs
      have := hf.get t
      rw [h] at this
      generalize a.tmps.getD t undef = z at this
      cases this
      exact .ms0
    · exact hf.get s
  obtain ⟨c, k, hT⟩ := hT
  rcases hT with rfl | ⟨all, l, K, rfl⟩
  · intro r a w hi hf hd hx
    obtain ⟨q1, q2, q3⟩ := key r w a hi hf
    exact hk r a w q1 q3 hd (hx.trans q2)
  · intro r a w hi hf hd hx
    obtain ⟨q1, q2, q3⟩ := key r w a hi hf
    exact hk r a w q1 q3 hd (hx.trans q2)

end
end Go.Ab
