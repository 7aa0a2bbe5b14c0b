/-
  Texts of our own, in one file.
-/
import Derived.Test.YtjaflkgfipaajaaGrpC
import Derived.WideShapes
section
set_option linter.unusedVariables false
set_option linter.unusedSimpArgs false
set_option maxRecDepth 20000
namespace Go.Proofs.Ytjaflkgfipaajaa
open Go Go.Ab
def chooseN (c : Int) (n : Nat) : Nat := (if c < 0 then (-(c + 1)).toNat else c.toNat) % n
theorem choose_ok (c : Int) (n : Nat) (hc : -9223372036854775808 ≤ c ∧ c ≤ 9223372036854775807) (hn : 0 < n) (hn2 : n ≤ 9223372036854775807) : Calc cx 10 [.int .i64 c, .int .i64 n] (.int .i64 (chooseN c n)) :=
  pure_intro (fun a w => Try.call10 a w) Try.func10 rfl Try.ntmps10 rfl .int fun B => by
    refine ab 1000 rfl trivial ?_
    have hmod : ∀ m : Nat, ((m : Int).tmod n) = ((m % n : Nat) : Int) := fun m => rfl
    refine S_dec rfl (fun h => ?_) (fun h => ?_)
    · have hw : IntKind.i64.wrap (0 - IntKind.i64.wrap (c + 1)) = (((-(c + 1)).toNat : Nat) : Int) := by
        have e1 : IntKind.i64.wrap (c + 1) = c + 1 := IntWalk.i64_in _ ⟨by omega, by omega⟩
        rw [e1]
        exact w64 (by omega) (by omega)
      refine ab 1000 rfl ⟨by omega, trivial⟩ ?_
      refine S_retc .int rfl trivial ?_
      show AV.int .i64 ((IntKind.i64.wrap (0 - IntKind.i64.wrap (c + 1))).tmod n) = _
      rw [hw, hmod, chooseN, if_pos h]
    · refine ab 1000 rfl ⟨by omega, trivial⟩ ?_
      refine S_retc .int rfl trivial ?_
      obtain ⟨m, rfl⟩ := Int.eq_ofNat_of_zero_le (by omega : 0 ≤ c)
      show AV.int .i64 ((m : Int).tmod n) = _
      rw [hmod, chooseN, if_neg h, Int.toNat_natCast]
theorem chooseN_lt (c : Int) {n : Nat} (hn : 0 < n) : chooseN c n < n := Nat.mod_lt _ hn
end Go.Proofs.Ytjaflkgfipaajaa
end
section
set_option linter.unusedVariables false
set_option linter.unusedSimpArgs false
set_option maxRecDepth 20000
namespace Go.Proofs.Ytjaflkgfipaajaa
open Go Go.Ab
theorem digs_small {n : Nat} (h : n < 10) : digs n = [UInt8.ofNat (48 + n)] := by rw [digs, dif_pos h]
theorem digs_big {n : Nat} (h : ¬ n < 10) : digs n = digs (n / 10) ++ [UInt8.ofNat (48 + n % 10)] := by rw [digs, dif_neg h]
theorem dig_at {d : Nat} (h : d < 10) : (UInt8.ofNat (48 + d)).toNat = 48 + d := by rw [UInt8.toNat_ofNat']; omega
theorem digs_rng (n : Nat) : ∀ m, m = n → ∀ b ∈ digs m, 48 ≤ b.toNat ∧ b.toNat ≤ 57 := by
  induction n using Nat.strongRecOn with
  | _ n ih =>
    intro m hm b hb
    by_cases h : m < 10
    · rw [digs_small h] at hb
      rw [List.mem_singleton.1 hb, dig_at h]; omega
    · rw [digs_big h] at hb
      rcases List.mem_append.1 hb with hb | hb
      · exact ih (m / 10) (by omega) _ rfl b hb
      · rw [List.mem_singleton.1 hb, dig_at (Nat.mod_lt _ (by omega))]
        have := Nat.mod_lt m (show 0 < 10 by omega)
        omega
def dval (l : List UInt8) : Nat := l.foldl (fun a b => 10 * a + (b.toNat - 48)) 0
theorem dval_digs (n : Nat) : ∀ m, m = n → dval (digs m) = m := by
  induction n using Nat.strongRecOn with
  | _ n ih =>
    intro m hm
    by_cases h : m < 10
    · rw [digs_small h]
      show 10 * 0 + ((UInt8.ofNat (48 + m)).toNat - 48) = m
      rw [dig_at h]; omega
    · rw [digs_big h]
      have := ih (m / 10) (by omega) _ rfl
      unfold dval at this ⊢
      rw [List.foldl_append, this]
      show 10 * (m / 10) + ((UInt8.ofNat (48 + m % 10)).toNat - 48) = m
      rw [dig_at (Nat.mod_lt _ (by omega))]; omega
theorem digs_inj {a b : Nat} (h : digs a = digs b) : a = b := by
  have h1 := dval_digs a a rfl
  have h2 := dval_digs b b rfl
  rw [h] at h1; omega
theorem digs_len3 {n : Nat} (h : n < 1000) : (digs n).length ≤ 3 := by
  have s1 : ∀ m, m < 10 → (digs m).length = 1 := fun m hm => by rw [digs_small hm]; rfl
  have s2 : ∀ m, m < 100 → (digs m).length ≤ 2 := fun m hm => by
    by_cases h : m < 10
    · rw [s1 m h]; omega
    · rw [digs_big h, List.length_append, s1 _ (by omega)]; exact Nat.le_refl 2
  by_cases h1 : n < 10
  · rw [s1 n h1]; omega
  · have := s2 (n / 10) (by omega)
    rw [digs_big h1, List.length_append]
    simp only [List.length_cons, List.length_nil]; omega
def nmJ (k : Nat) : Nm := 106 :: digs k
theorem nmJ_inj {a b : Nat} (h : nmJ a = nmJ b) : a = b := digs_inj (List.cons.inj h).2
theorem nmJ_len {k : Nat} (h : k < 1000) : (nmJ k).length ≤ 4 := by have := digs_len3 h; unfold nmJ; rw [List.length_cons]; omega
theorem nmJ_name {k : Nat} (h : k < 1000) : isName (nmJ k) = true := by
  have hl := nmJ_len h
  unfold isName
  have h1 : (nmJ k).all nameB = true := by
    unfold nmJ
    rw [List.all_cons, Bool.and_eq_true]
    refine ⟨by decide, List.all_eq_true.2 fun b hb => ?_⟩
    have := digs_rng k k rfl b hb
    unfold nameB
    refine decide_eq_true ?_
    unfold nameP
    omega
  have h2 : nmJ k ≠ [46] := fun e => by have := (List.cons.inj e).1; exact absurd this (by decide)
  have h3 : nmJ k ≠ [46, 46] := fun e => by have := (List.cons.inj e).1; exact absurd this (by decide)
  rw [h1, decide_eq_true (show 1 ≤ (nmJ k).length from Nat.succ_le_succ (Nat.zero_le _)), decide_eq_true (show (nmJ k).length ≤ 20 by omega)]
  simp [h2, h3]
theorem addJ_mem {j : QJ} : ∀ {ring : List QT} {t : QT}, t ∈ addJ ring j → t ∈ ring ∨ (∃ t0 ∈ ring, t = moreJ t0 j) ∨ t = ⟨j.ten, 0, false, [j]⟩
  | [], t, h => by rw [addJ] at h; exact .inr (.inr (List.mem_singleton.1 h))
  | x :: r, t, h => by
    rw [addJ] at h
    split at h
    · rcases List.mem_cons.1 h with h | h
      · exact .inr (.inl ⟨x, List.mem_cons_self .., h⟩)
      · exact .inl (List.mem_cons_of_mem _ h)
    · rcases List.mem_cons.1 h with h | h
      · exact .inl (by rw [h]; exact List.mem_cons_self ..)
      · rcases addJ_mem h with h | ⟨t0, h0, h⟩ | h
        · exact .inl (List.mem_cons_of_mem _ h)
        · exact .inr (.inl ⟨t0, List.mem_cons_of_mem _ h0, h⟩)
        · exact .inr (.inr h)
theorem many_addJ {j : QJ} : ∀ (ring : List QT), manyQ (addJ ring j) = manyQ ring + 1
  | [] => rfl
  | x :: r => by
    rw [addJ]
    split
    · show (x.jobs ++ [j]).length + manyQ r = _
      rw [manyQ, List.length_append]; simp only [List.length_cons, List.length_nil]; omega
    · rw [manyQ, manyQ, many_addJ r]; omega
theorem QOk.add {quan : Int} {ring : List QT} {j : QJ} (h : QOk quan ring) (hp : putE ring j = 0) : QOk quan (addJ ring j) := by
  have hc : 1 ≤ j.cost ∧ j.cost ≤ 1000 := by
    unfold putE at hp
    by_cases h0 : j.ten < 1 ∨ j.ten > 20 ∨ j.cost < 1 ∨ j.cost > 1000
    · rw [if_pos h0] at hp; cases hp
    · omega
  have hm : manyQ ring ≠ 200 := by
    unfold putE at hp
    split at hp
    · cases hp
    · split at hp
      · cases hp
      · split at hp
        · cases hp
        · split at hp
          · cases hp
          · assumption
  have hmn := h.mn
  refine ⟨h.q1, fun t ht => ?_, fun t ht => ?_, fun t ht => ?_, fun t ht => ?_, by rw [many_addJ]; omega⟩
  · rcases addJ_mem ht with ht | ⟨t0, h0, rfl⟩ | rfl
    · exact h.ne t ht
    · show t0.jobs ++ [j] ≠ []; simp
    · simp
  · rcases addJ_mem ht with ht | ⟨t0, h0, rfl⟩ | rfl
    · exact h.cr t ht
    · exact h.cr t0 h0
    · exact ⟨Int.le_refl _, by show (0 : Int) ≤ 1999; decide, fun _ => by show (0 : Int) ≤ 999; decide⟩
  · rcases addJ_mem ht with ht | ⟨t0, h0, rfl⟩ | rfl
    · exact h.co t ht
    · intro x hx
      rcases List.mem_append.1 hx with hx | hx
      · exact h.co t0 h0 x hx
      · rw [List.mem_singleton.1 hx]; exact hc
    · intro x hx
      rw [List.mem_singleton.1 hx]; exact hc
  · cases hr : ring with
    | nil => rw [hr] at ht; cases ht
    | cons x r =>
      rw [hr, addJ] at ht
      have htl := h.tl
      rw [hr] at htl
      split at ht
      · exact htl t ht
      · rcases addJ_mem (show t ∈ addJ r j from ht) with ht | ⟨t0, h0, rfl⟩ | rfl
        · exact htl t ht
        · exact htl t0 h0
        · rfl
theorem nxtF_one {quan : Int} : ∀ (f : Nat) (t : QT) (j : QJ) (js : List QJ), t.jobs = j :: js → QOk quan [t] → mQ [t] < f → ∃ c, (nxtF f quan [t]) = (some j, if js = [] then [] else [⟨t.num, c, true, js⟩]) ∧ 0 ≤ c ∧ c ≤ 1999
  | 0, _, _, _, _, _, h => by omega
  | f + 1, t, j, js, hj, hok, hm => by
    rw [nxtF, hj]
    simp only
    obtain ⟨c1, c2, c3⟩ := hok.cr t (List.mem_singleton.2 rfl)
    obtain ⟨d1, d2⟩ := hok.co t (List.mem_singleton.2 rfl) j (by rw [hj]; exact List.mem_cons_self ..)
    have hq := hok.q1
    by_cases hc : j.cost ≤ (if t.turn = true then t.cred else t.cred + quan)
    · rw [if_pos hc]
      refine ⟨(if t.turn = true then t.cred else t.cred + quan) - j.cost, ?_, by omega, ?_⟩
      · unfold takR lessJ
        simp only [List.getElem?_cons_zero, List.eraseIdx_cons_zero, List.set_cons_zero]
        congr 1
      · split
        · omega
        · rename_i hx
          have := c3 (by simpa using hx)
          omega
    · rw [if_neg hc]
      obtain ⟨k1, k2⟩ := hok.rot hj hc
      have := nxtF_one f (rested quan t) j js hj k1 (by show mQ ([] ++ [rested quan t]) < f; omega)
      unfold rested at this
      rw [hj] at this
      exact this
end Go.Proofs.Ytjaflkgfipaajaa
end
section
set_option linter.unusedVariables false
set_option linter.unusedSimpArgs false
namespace Go.Ab
open Go
def rpLoad (cx : Cx) (fr : Fr) : Op → Bool
  | .load _ a => match ev cx fr a with
    | .rp .. => true
    | _ => false
  | _ => false
def oneZ {α : Type} (cx : Cx) (K : List Nat) (n : Nat) (all : Array Oper) (s : Heap) (o : Oper) (fr : Fr) (rs : List AV) (c : List Prop → AV → List AV → Option α) : Option α :=
  match dstOk n o.dst with
  | false => none
  | true => match guardA all o K fr with
    | none => none
    | some false => c [] (.tup []) rs
    | some true => match callA cx fr o.op with
      | some (f, args) => match rs with
        | x :: rs => c [∃ args', Calc cx f args' x ∧ Frzs s args args'] x rs
        | [] => none
      | none => match heapOp o.op || stopOp o.op with
        | false => match aOp cx [] o.dst o.op fr s with
          | some (C, v, s') => forceV v fun v => c ((s' = s) :: C) v rs
          | none => none
        | true => match rs with
          | [] => none
          | x :: rs => match rpLoad cx fr o.op with
            | true => match loadA cx fr s o.op x with
              | some D => c D x rs
              | none => none
            | false => match idxA cx fr s o.op x with
              | some (D, v) => forceV v fun v => c D v rs
              | none => c [OpSpec cx n fr s o x s] x rs
theorem oneZ_spec {α : Type} {cx : Cx} {n : Nat} {K : List Nat} {all : Array Oper} {s : Heap} {o : Oper} {fr : Fr} {rs : List AV} {c : List Prop → AV → List AV → Option α} {a : α} (h : oneZ cx K n all s o fr rs c = some a) :
    ∃ C v rs', c C v rs' = some a ∧ (AllP C → StepX cx n all s s K fr o v) := by
  unfold oneZ at h
  split at h
  · cases h
  rename_i hd
  split at h
  · cases h
  · rename_i hg
    exact ⟨_, _, _, h, fun _ => ⟨hd, .inl ⟨hg, rfl, rfl⟩⟩⟩
  rename_i hg
  split at h
  · rename_i f args hc
    split at h
    · rename_i x rs'
      refine ⟨_, _, _, h, fun hC => ?_⟩
      obtain ⟨⟨args', h1, h2⟩, _⟩ := hC
      have : oneD cx K n all s o fr [x] = some ([∃ args', Calc cx f args' x ∧ Frzs s args args'], x, []) := by
        unfold oneD
        rw [hd]
        simp only [hg, hc]
      exact (oneD_spec this ⟨⟨args', h1, h2⟩, trivial⟩).x
    · cases h
  · split at h
    · split at h
      · rename_i C v s' ha
        rw [forceV_eq] at h
        refine ⟨_, _, _, h, fun hC => ?_⟩
        obtain ⟨e, hC⟩ := hC
        subst e
        exact opC_step hd hg ha hC
      · cases h
    · split at h
      · cases h
      · rename_i x rs'
        split at h
        · split at h
          · rename_i D hl
            exact ⟨_, _, _, h, fun hC => specC_step hd hg fun r a w hi hf => loadA_run hi hf hl hC⟩
          · cases h
        · split at h
          · rename_i D v hx
            rw [forceV_eq] at h
            exact ⟨_, _, _, h, fun hC => specC_step hd hg fun r a w hi hf => idxA_run hi hf hx hC⟩
          · exact ⟨_, _, _, h, fun hC => specC_step hd hg hC.1⟩
def appK {α : Type} : List Prop → List Prop → (List Prop → α) → α
  | [], D, c => c D
  | x :: r, D, c => appK r D fun l => c (x :: l)
theorem appK_eq {α : Type} : ∀ (C D : List Prop) (c : List Prop → α), appK C D c = c (C ++ D)
  | [], D, c => rfl
  | x :: r, D, c => by rw [appK, appK_eq r]; rfl
def runZ {α : Type} (cx : Cx) (K : List Nat) (n : Nat) (all : Array Oper) (ops : List Oper) (s : Heap) (jc : Nat) : List Oper → Nat → Fr → List AV → (List Prop → List AV → Fr → Option α) → Option α
  | [], i, fr, rs, c => c [] [] fr
  | o :: l, i, fr, rs, c => match Nat.beq i jc with
    | true => match rs with
      | x :: rs => runZ cx K n all ops s jc l (i + 1) (setA o.dst x fr) rs fun D vs fr' => c D (x :: vs) fr'
      | [] => none
    | false => oneZ cx K n all s o (restr ops o fr) rs fun C v rs => match isGuard ops i with
      | false => runZ cx K n all ops s jc l (i + 1) (setA o.dst v fr) rs fun D vs fr' => appK C D fun D => c D (v :: vs) fr'
      | true => match v with
        | .bool b => match rs with
          | .bool t :: rs => runZ cx K n all ops s jc l (i + 1) (setA o.dst (.bool t) fr) rs fun D vs fr' => appK C ((b = t) :: D) fun D => c D (.bool t :: vs) fr'
          | _ => none
        | .tup us => runZ cx K n all ops s jc l (i + 1) (setA o.dst (.tup us) fr) rs fun D vs fr' => appK C D fun D => c D (.tup us :: vs) fr'
        | _ => none
theorem runZ_spec {α : Type} {cx : Cx} {n : Nat} {K : List Nat} {all : Array Oper} {ops : List Oper} {s : Heap} {jc : Nat} {a : α} : ∀ (l : List Oper) (i : Nat) (fr : Fr) (rs : List AV) (c : List Prop → List AV → Fr → Option α), runZ cx K n all ops s jc l i fr rs c = some a →
    ∃ C vals fr', c C vals fr' = some a ∧ vals.length = l.length ∧ fr' = ovl l vals fr ∧ (AllP C → ∀ (j : Nat) (o : Oper) (v : AV), l[j]? = some o → vals[j]? = some v → i + j ≠ jc → StepX cx n all s s K (restr ops o (ovl (l.take j) (vals.take j) fr)) o v)
  | [], i, fr, rs, c, h => ⟨_, _, _, h, rfl, rfl, fun _ j o v h => by simp at h⟩
  | o :: l, i, fr, rs, c, h => by
    unfold runZ at h
    split at h
    · rename_i hb
      have hij : i = jc := Nat.eq_of_beq_eq_true hb
      split at h
      · rename_i x rs'
        obtain ⟨D, vs, fr', h1, h2, h3, h4⟩ := runZ_spec l _ _ _ _ h
        refine ⟨_, _, _, h1, by simp [h2], by rw [h3]; rfl, fun hD j oj vj hj hvj hne => ?_⟩
        cases j with
        | zero => exact absurd hij hne
        | succ j =>
          simp only [List.getElem?_cons_succ] at hj hvj
          exact h4 hD j oj vj hj hvj (by omega)
      · cases h
    · obtain ⟨C, v, rs', h1, h2⟩ := oneZ_spec h
      split at h1
      · obtain ⟨D, vs, fr', k1, k2, k3, k4⟩ := runZ_spec l _ _ _ _ h1
        rw [appK_eq] at k1
        refine ⟨_, _, _, k1, by simp [k2], by rw [k3]; rfl, fun hD j oj vj hj hvj hne => ?_⟩
        obtain ⟨hC, hD⟩ := AllP_append hD
        cases j with
        | zero =>
          simp only [List.getElem?_cons_zero, Option.some.injEq] at hj hvj
          subst hj; subst hvj
          exact h2 hC
        | succ j =>
          simp only [List.getElem?_cons_succ] at hj hvj
          exact k4 hD j oj vj hj hvj (by omega)
      · split at h1
        · rename_i b
          split at h1
          · rename_i t rs''
            obtain ⟨D, vs, fr', k1, k2, k3, k4⟩ := runZ_spec l _ _ _ _ h1
            rw [appK_eq] at k1
            refine ⟨_, _, _, k1, by simp [k2], by rw [k3]; rfl, fun hD j oj vj hj hvj hne => ?_⟩
            obtain ⟨hC, hb, hD2⟩ := AllP_append hD
            subst hb
            cases j with
            | zero =>
              simp only [List.getElem?_cons_zero, Option.some.injEq] at hj hvj
              subst hj; subst hvj
              exact h2 hC
            | succ j =>
              simp only [List.getElem?_cons_succ] at hj hvj
              exact k4 hD2 j oj vj hj hvj (by omega)
          · cases h1
        · rename_i us
          obtain ⟨D, vs, fr', k1, k2, k3, k4⟩ := runZ_spec l _ _ _ _ h1
          rw [appK_eq] at k1
          refine ⟨_, _, _, k1, by simp [k2], by rw [k3]; rfl, fun hD j oj vj hj hvj hne => ?_⟩
          obtain ⟨hC, hD⟩ := AllP_append hD
          cases j with
          | zero =>
            simp only [List.getElem?_cons_zero, Option.some.injEq] at hj hvj
            subst hj; subst hvj
            exact h2 hC
          | succ j =>
            simp only [List.getElem?_cons_succ] at hj hvj
            exact k4 hD j oj vj hj hvj (by omega)
        · cases h1
section
variable {cx : Cx} {n : Nat} {B : Bs} {k : List AI} {Q : Post} {fr : Fr} {σ : Heap}
theorem StepX.d {K : List Nat} {all : Array Oper} {o : Oper} {v : AV} (h : StepX cx n all σ σ K fr o v) : StepD cx n all σ K fr o v := by
  refine ⟨h.1, ?_⟩
  rcases h.2 with ⟨h1, h2, _⟩ | h1
  · exact .inl ⟨h1, h2⟩
  · exact .inr h1
theorem S_drawO {id : Nat} {ops : Array Oper} (m : Nat) (rs : List AV) {C : List Prop} {vals : List AV} {fr' : Fr} (hP : cx.P.follows .mixedOrders = true) (hchk : drawOk ops.toList m = true) (hmN : Nat.ble m ops.size = true) (hbig : Nat.ble m 1000000 = true)
    (hrun : runZ cx (guardKs ops.toList ops.toList) n ops ops.toList σ 1000000 (ops.toList.take m) 0 fr rs (fun C vs f => some (C, vs, f)) = some (C, vals, fr')) (hC : AllP C)
    (hk : S cx n B (.ops ops (ops.toList.drop m) [] :: k) Q fr' σ) : S cx n B (.code (.region id ops true) :: k) Q fr σ := by
  intro r a w hi hf hd hx
  obtain ⟨c1, c2, c3, c4, c5⟩ := drawOk_spec hchk
  obtain ⟨C', vals', fr'', e, k1, k2, k3⟩ := runZ_spec _ _ _ _ _ hrun
  simp only [Option.some.injEq, Prod.mk.injEq] at e
  obtain ⟨rfl, rfl, rfl⟩ := e
  have k3 := k3 hC
  have hmN' := Nat.le_of_ble_eq_true hmN
  have hlen : vals'.length = m := by rw [k1, List.length_take, Array.length_toList]; omega
  obtain ⟨hi1, hx1⟩ := hi.heap_eq (w' := { w with drawn := w.drawn + 1 }) rfl rfl rfl rfl
  have hf1 := hf.mono (hx1.grow hi)
  have nl : ∀ {j : Nat}, ¬ Listed (Array.replicate ops.size false) j := by
    intro j hj
    unfold Listed at hj
    rw [Array.getD_eq_getD_getElem?, Array.getElem?_replicate] at hj
    split at hj <;> simp at hj
  refine wp_region_any hP ?_
  refine wpAny_front (cx := cx) (n := n) (B := B) (fr := fr) (σ := σ) (m := m) (vals := vals') (K := guardKs ops.toList ops.toList) hmN' hlen c1 c2 c3 c4 c5 (fun j o v hj ho hv => ?_) (fun r a w hi hf hd hx => ?_) ops.size _ r a _ (by simp) ?_ (fun j i hj => ?_) (fun j _ => ?_) ⟨hf1.size, fun j d v _ hj => ?_, fun t _ => hf1.get t, hf1.defs⟩ hi1 hd (hx.trans hx1)
  · have := k3 j o v (by rw [List.getElem?_take_of_lt hj]; exact ho) hv (by have := Nat.le_of_ble_eq_true hbig; omega)
    rw [List.take_take, Nat.min_eq_left (by omega)] at this
    exact this.d
  · rw [k2] at hk
    exact hk r a w hi hf hd hx
  · unfold unl; simp [List.countP_replicate]
  · exact absurd hj nl
  · exact nl
  · exact absurd hj nl
theorem S_drawOC {id : Nat} {ops : Array Oper} (σ2 : Heap) (jc m : Nat) (rs : List AV) {C : Heap → List Prop} {vals : List AV} {fr' : Fr} (hP : cx.P.follows .mixedOrders = true) (hchk : drawOk ops.toList m = true) (hmN : Nat.ble m ops.size = true) (hjc : Nat.blt jc m = true)
    (hrun : ∀ s, runZ cx (guardKs ops.toList ops.toList) n ops ops.toList s jc (ops.toList.take m) 0 fr rs (fun C vs f => some (C, vs, f)) = some (C s, vals, fr')) (hC : ∀ s, s = σ ∨ s = σ2 → AllP (C s))
    (hj : ∀ o v, ops.toList[jc]? = some o → vals[jc]? = some v → StepX cx n ops σ σ2 (guardKs ops.toList ops.toList) (restr ops.toList o (ovl (ops.toList.take jc) (vals.take jc) fr)) o v)
    (hk : S cx n B (.ops ops (ops.toList.drop m) [] :: k) Q fr' σ2) : S cx n B (.code (.region id ops true) :: k) Q fr σ := by
  intro r a w hi hf hd hx
  obtain ⟨c1, c2, c3, c4, c5⟩ := drawOk_spec hchk
  have key : ∀ s, s = σ ∨ s = σ2 → vals.length = (ops.toList.take m).length ∧ fr' = ovl (ops.toList.take m) vals fr ∧ ∀ (j : Nat) (o : Oper) (v : AV), (ops.toList.take m)[j]? = some o → vals[j]? = some v → 0 + j ≠ jc → StepX cx n ops s s (guardKs ops.toList ops.toList) (restr ops.toList o (ovl ((ops.toList.take m).take j) (vals.take j) fr)) o v := fun s hs => by
    obtain ⟨C', vals', fr'', e, k1, k2, k3⟩ := runZ_spec _ _ _ _ _ (hrun s)
    simp only [Option.some.injEq, Prod.mk.injEq] at e
    obtain ⟨rfl, rfl, rfl⟩ := e
    exact ⟨k1, k2, k3 (hC s hs)⟩
  obtain ⟨k1, k2, _⟩ := key σ (.inl rfl)
  have hmN' := Nat.le_of_ble_eq_true hmN
  have hjlt := blt_lt hjc
  have hlen : vals.length = m := by rw [k1, List.length_take, Array.length_toList]; omega
  obtain ⟨hi1, hx1⟩ := hi.heap_eq (w' := { w with drawn := w.drawn + 1 }) rfl rfl rfl rfl
  have hf1 := hf.mono (hx1.grow hi)
  have nl : ∀ {j : Nat}, ¬ Listed (Array.replicate ops.size false) j := by
    intro j hj
    unfold Listed at hj
    rw [Array.getD_eq_getD_getElem?, Array.getElem?_replicate] at hj
    split at hj <;> simp at hj
  have h0 : hpC σ σ2 jc (Array.replicate ops.size false) = σ := hpC_out (by
    cases hb : (Array.replicate ops.size false).getD jc false with
    | false => rfl
    | true => exact absurd hb nl)
  refine wp_region_any hP ?_
  refine wpAny_frontC (σ' := σ2) (jc := jc) (cx := cx) (n := n) (B := B) (fr := fr) (σ := σ) (m := m) (vals := vals) (K := guardKs ops.toList ops.toList) hjlt hmN' hlen c1 c2 c3 c4 c5 (fun j o v hjm ho hv => ?_) (fun r a w hi hf hd hx => ?_) ops.size _ r a _ (by simp) ?_ (fun j i hj => ?_) (fun j _ => ?_) ⟨hf1.size, fun j d v _ hj => ?_, fun t _ => hf1.get t, hf1.defs⟩ (by rw [h0]; exact hi1) hd (by rw [h0]; exact hx.trans hx1)
  · refine ⟨fun hne b => ?_, fun e => by subst e; exact hj o v ho hv⟩
    have h := fun s hs => (key s hs).2.2 j o v (by rw [List.getElem?_take_of_lt hjm]; exact ho) hv (by omega)
    rw [List.take_take, Nat.min_eq_left (by omega)] at h
    cases b with
    | true => exact h σ2 (.inr rfl)
    | false => exact h σ (.inl rfl)
  · rw [k2] at hk
    exact hk r a w hi hf hd hx
  · unfold unl; simp [List.countP_replicate]
  · exact absurd hj nl
  · exact nl
  · exact absurd hj nl
end
end Go.Ab
end
section
set_option linter.unusedVariables false
set_option linter.unusedSimpArgs false
namespace Go.Ab
open Go Go.WideShapes
def laidB (P : Program) : List Field → Nat → Option Nat
  | [], o => some o
  | f :: r, o => match Nat.beq f.offset o with
    | true => laidB P r (o + P.cellsOf f.type)
    | false => none
mutual
def plainB (P : Program) : Nat → TypeId → Bool
  | 0, _ => false
  | n + 1, t => match P.underlying t with
    | some .bool => Nat.beq (P.cellsOf t) 1
    | some (.int _) => Nat.beq (P.cellsOf t) 1
    | some .string => Nat.beq (P.cellsOf t) 1
    | some (.slice e) => match Nat.beq (P.cellsOf t) 1, Nat.beq (P.cellsOf e) 0 with
      | true, false => plainB P n e
      | _, _ => false
    | some (.struct fs) => match laidB P fs.toList 0 with
      | some m => match Nat.beq (P.cellsOf t) m with
        | true => plainAll P n fs.toList
        | false => false
      | none => false
    | _ => false
def plainAll (P : Program) : Nat → List Field → Bool
  | 0, _ => false
  | n + 1, fs => match fs with
    | [] => true
    | f :: r => match plainB P n f.type with
      | true => plainAll P n r
      | false => false
end
inductive RdD (P : Program) {H : Type} : TypeId → DataW H → AV → Prop
  | bool {t b} (ht : P.underlying t = some .bool) : RdD P t (.lit (.bool b)) (.bool b)
  | int {t k n} (ht : P.underlying t = some (.int k)) (hw : (Lit.int k n).wf = true) : RdD P t (.lit (.int k n)) (.int k n)
  | str {t s} (ht : P.underlying t = some .string) (hs : s.length ≤ maxLen) : RdD P t (.lit (.string s)) (.str s)
  | nils {t e} (ht : P.underlying t = some (.slice e)) : RdD P t .nil (.sl true false (P.cellsOf e) [])
  | sl {t e} {ds rest : List (DataW H)} {xs : List AV} (ht : P.underlying t = some (.slice e)) (hl : xs.length = ds.length) (hm : xs.length ≤ maxLen) (h : ∀ i (h1 : i < ds.length) (h2 : i < xs.length), RdD P e ds[i] xs[i]) : RdD P t (.slice ds rest) (.sl true false (P.cellsOf e) xs)
  | st {t} {fs : Array Field} {ds : List (DataW H)} {xs : List AV} (ht : P.underlying t = some (.struct fs)) (hd : ds.length = fs.size) (hx : xs.length = fs.size) (h : ∀ i (h1 : i < ds.length) (h2 : i < xs.length) (h3 : i < fs.size), RdD P fs[i].type ds[i] xs[i]) : RdD P t (.agg ds) (.agg (xs.flatMap AV.cells))
def CellsV (w : World) (cs : List Value) (az : List AV) : Prop := cs.length = az.length ∧ ∀ i (h1 : i < cs.length) (h2 : i < az.length), VRel (Rl.old w) w cs[i] az[i]
theorem CellsV.one {w : World} {v : Value} {a : AV} (h : VRel (Rl.old w) w v a) : CellsV w [v] [a] := by
  refine ⟨rfl, fun i h1 h2 => ?_⟩
  obtain rfl : i = 0 := by simpa using h1
  exact h
theorem laidB_flat {P : Program} : ∀ (fs : List Field) (o m : Nat) (w : World) (cs : List Value) (xs : List AV), laidB P fs o = some m → xs.length = fs.length → (∀ i (h1 : i < fs.length) (h2 : i < xs.length), CellsV w ((cs.drop fs[i].offset).take (P.cellsOf fs[i].type)) xs[i].cells ∧ xs[i].cells.length = P.cellsOf fs[i].type) →
    cs.length = m → o ≤ m ∧ CellsV w (cs.drop o) (xs.flatMap AV.cells)
  | [], o, m, w, cs, xs, h, hl, hc, hm => by
    simp only [laidB, Option.some.injEq] at h
    obtain rfl : xs = [] := List.eq_nil_of_length_eq_zero hl
    subst h
    refine ⟨Nat.le_refl _, ?_⟩
    rw [List.drop_of_length_le (by omega)]
    exact ⟨rfl, fun i h => absurd h (by simp)⟩
  | f :: r, o, m, w, cs, xs, h, hl, hc, hm => by
    rw [laidB] at h
    split at h
    case h_2 => cases h
    rename_i hb
    have ho := Nat.eq_of_beq_eq_true hb
    obtain ⟨x, xs, rfl⟩ : ∃ x xs', xs = x :: xs' := by
      cases xs with
      | nil => simp at hl
      | cons x xs => exact ⟨x, xs, rfl⟩
    have h0 := hc 0 (by simp) (by simp)
    simp only [List.getElem_cons_zero] at h0
    obtain ⟨h1, h2⟩ := laidB_flat r (o + P.cellsOf f.type) m w cs xs h (by simpa using hl) (fun i k1 k2 => hc (i + 1) (Nat.succ_lt_succ k1) (Nat.succ_lt_succ k2)) hm
    refine ⟨by omega, ?_⟩
    obtain ⟨⟨e1, e2⟩, e3⟩ := h0
    rw [ho] at e1 e2
    rw [List.flatMap_cons]
    have hsplit : cs.drop o = (cs.drop o).take (P.cellsOf f.type) ++ cs.drop (o + P.cellsOf f.type) := by
      rw [← List.drop_drop, List.take_append_drop]
    rw [hsplit]
    refine ⟨by rw [List.length_append, List.length_append, e1, h2.1], fun i k1 k2 => ?_⟩
    by_cases hi : i < x.cells.length
    · rw [List.getElem_append_left (by omega), List.getElem_append_left hi]
      exact e2 i (by omega) hi
    · rw [List.getElem_append_right (by omega), List.getElem_append_right (by omega)]
      have : i - ((cs.drop o).take (P.cellsOf f.type)).length = i - x.cells.length := by omega
      simp only [this]
      exact h2.2 _ _ _
theorem read_cells {H : Type} {enc : TypeId × Value → H} {P : Program} {W : World} : ∀ (fuel n : Nat) (t : TypeId) (cs : List Value) (d : DataW H) (ps : List MemPlace), DataW.trod enc P W 0 (fun _ => true) true fuel t cs = some (d, ps) → plainB P n t = true →
    ∃ a, RdD P t d a ∧ a.cells.length = P.cellsOf t ∧ CellsV W cs a.cells ∧ (∀ v, (∃ xs, v = .agg xs ∧ xs.toList = cs ∧ aggT P t = some true) ∨ ([v] = cs ∧ aggT P t = some false) → VRel (Rl.old W) W v a) := by
  intro fuel
  induction fuel with
  | zero => intro n t cs d ps h _; simp [DataW.trod] at h
  | succ fuel ih =>
    intro n t cs d ps h hp
    have hall : ∀ (n : Nat) (fs : List Field), plainAll P n fs = true → ∀ i (hi : i < fs.length), ∃ m, plainB P m fs[i].type = true := by
      intro n
      induction n with
      | zero => intro fs h; simp [plainAll] at h
      | succ n ihn =>
        intro fs h i hi
        cases fs with
        | nil => simp at hi
        | cons f r =>
          rw [plainAll] at h
          split at h
          · rename_i hb
            cases i with
            | zero => exact ⟨n, hb⟩
            | succ i => exact ihn r h i (by simpa using hi)
          · cases h
    cases n with
    | zero => simp [plainB] at hp
    | succ n =>
      rw [plainB] at hp
      split at hp
      ·
        rename_i ht
        obtain ⟨b, rfl, hx⟩ := DataW.trod_bool ht h
        cases hx
        refine ⟨.bool b, .bool ht, (Nat.eq_of_beq_eq_true hp).symm, .one .bool, ?_⟩
        rintro v (⟨xs, rfl, h1, h2⟩ | ⟨h1, h2⟩)
        · simp [aggT, ht] at h2
        · cases h1; exact .bool
      · rename_i k ht
        obtain ⟨m, rfl, hx, hw⟩ := DataW.trod_int ht h
        cases hx
        refine ⟨.int _ m, .int ht hw, (Nat.eq_of_beq_eq_true hp).symm, .one .int, ?_⟩
        rintro v (⟨xs, rfl, h1, h2⟩ | ⟨h1, h2⟩)
        · simp [aggT, ht] at h2
        · cases h1; exact .int
      · rename_i ht
        obtain ⟨s, rfl, hx, hw⟩ := DataW.trod_string ht h
        cases hx
        refine ⟨.str s.data.toList, .str ht (by rw [Array.length_toList]; exact hw), (Nat.eq_of_beq_eq_true hp).symm, .one (.str rfl), ?_⟩
        rintro v (⟨xs, rfl, h1, h2⟩ | ⟨h1, h2⟩)
        · simp [aggT, ht] at h2
        · cases h1; exact .str rfl
      ·
        rename_i e ht
        split at hp
        case h_2 => cases hp
        rename_i hc1 hc0
        have hc1 := Nat.eq_of_beq_eq_true hc1
        have hpos : 0 < P.cellsOf e := by
          rcases Nat.eq_zero_or_pos (P.cellsOf e) with h0 | h0
          · rw [h0] at hc0; cases hc0
          · exact h0
        rcases DataW.trod_slice ht h with ⟨rfl, hx⟩ | ⟨a, len, cap, elems, rest, fu, hfu, rfl, hx, _, hl, hm, hlen, hel, hsp, hns⟩
        · cases hx
          refine ⟨_, .nils ht, hc1.symm, .one (.sl0 (fun h => by cases h)), ?_⟩
          rintro v (⟨xs, rfl, h1, h2⟩ | ⟨h1, h2⟩)
          · simp [aggT, ht] at h2
          · cases h1; exact .sl0 (fun h => by cases h)
        · cases hx
          obtain rfl : fuel = fu := by omega
          have each : ∀ i (hi : i < elems.length), ∃ x, RdD P e (elems[i]).1 x ∧ x.cells.length = P.cellsOf e ∧ ∃ ecs : List Value, W.cells? 0 (a.add (i * P.cellsOf e)) (P.cellsOf e) = some ecs ∧ CellsV W ecs x.cells := by
            intro i hi
            have h1 := hel i (by omega)
            rw [List.getElem?_eq_getElem hi, Option.bind_eq_some_iff] at h1
            obtain ⟨ecs, h2, h3⟩ := h1
            obtain ⟨x, k1, k2, k3, _⟩ := ih n e ecs (elems[i]).1 (elems[i]).2 h3 hp
            exact ⟨x, k1, k2, ecs, h2, k3⟩
          have : ∃ xs : List AV, xs.length = elems.length ∧ ∀ i (hi : i < elems.length) (hx : i < xs.length), RdD P e (elems[i]).1 xs[i] ∧ xs[i].cells.length = P.cellsOf e ∧ ∃ ecs : List Value, W.cells? 0 (a.add (i * P.cellsOf e)) (P.cellsOf e) = some ecs ∧ CellsV W ecs xs[i].cells := by
            refine ⟨(List.finRange elems.length).map fun i => Classical.choose (each i.1 i.2), by simp, fun i hi hx => ?_⟩
            simp only [List.getElem_map, List.getElem_finRange]
            exact Classical.choose_spec (each i hi)
          obtain ⟨xs, hxl, hxs⟩ := this
          have hv : VRel (Rl.old W) W (.slice (some a) len cap) (.sl true false (P.cellsOf e) xs) := by
            rcases Nat.eq_zero_or_pos len with h0 | h0
            · subst h0
              obtain rfl : xs = [] := List.eq_nil_of_length_eq_zero (by omega)
              exact .sl0 (fun h => by cases h)
            · obtain ⟨b, o, sp⟩ := a
              obtain ⟨_, _, ecs0, hc, _⟩ := hxs 0 (by omega) (by omega)
              obtain ⟨_, hcl, hcc⟩ := World.cells?_some hc
              have hcell0 := hcc 0 hpos
              rw [List.getElem?_eq_getElem (by omega)] at hcell0
              have hsp : sp = none := by
                cases sp with
                | none => rfl
                | some s =>
                  simp [Addr.add, World.cell?] at hcell0
                  split at hcell0 <;> cases hcell0
              subst hsp
              have hb : b < W.heap.size := by
                rw [Addr.add_lit] at hcell0
                rcases Nat.lt_or_ge b W.heap.size with h | h
                · exact h
                · simp [World.cell?, Addr.add, Array.getElem?_eq_none h] at hcell0
              have hcel : ∀ i, i < xs.length → ∀ j, j < P.cellsOf e → ∃ v, W.cell? ⟨b, o + i * P.cellsOf e + j, none⟩ = some v ∧ ∀ (hi : i < xs.length) (hj : j < (AV.cells xs[i]).length), VRel (Rl.old W) W v (AV.cells xs[i])[j] := by
                intro i hi j hj
                obtain ⟨_, hxc, ecs, hc, hcv⟩ := hxs i (by omega) hi
                obtain ⟨_, hcl, hcc⟩ := World.cells?_some hc
                have h1 := hcc j hj
                rw [List.getElem?_eq_getElem (by omega)] at h1
                rw [Addr.add_lit, Addr.add_lit] at h1
                refine ⟨ecs[j], h1, fun _ hj' => hcv.2 j _ hj'⟩
              refine .sl (by omega) hl (fun h => by cases h) hb (fun _ => hb) (fun x hx => ?_) (fun i j => (W.cell? ⟨b, o + i * P.cellsOf e + j, none⟩).getD undef) (fun i hi j hj => ?_) (fun i hi j hj => ?_)
              · obtain ⟨i, hi, rfl⟩ := List.getElem_of_mem hx
                exact (hxs i (by omega) hi).2.1
              · obtain ⟨v, h1, _⟩ := hcel i hi j hj
                rw [h1]; rfl
              · obtain ⟨v, h1, h2⟩ := hcel i hi j (by rw [(hxs i (by omega) hi).2.1] at hj; exact hj)
                rw [h1]
                exact h2 hi hj
          refine ⟨.sl true false (P.cellsOf e) xs, .sl ht (by simp [hxl]) (by omega) (fun i h1 h2 => by simpa using (hxs i (by simpa using h1) h2).1), hc1.symm, .one hv, ?_⟩
          rintro v (⟨ys, rfl, h1, h2⟩ | ⟨h1, h2⟩)
          · simp [aggT, ht] at h2
          · cases h1; exact hv
      ·
        rename_i fs ht
        split at hp
        case h_2 => cases hp
        rename_i m hm
        split at hp
        case h_2 => cases hp
        rename_i hcm
        have hcm := Nat.eq_of_beq_eq_true hcm
        obtain ⟨ys, fu, hfu, hx, hl, hyl, hy⟩ := DataW.trod_struct ht h
        obtain rfl : fuel = fu := by omega
        cases hx
        have each : ∀ i (hi : i < fs.toList.length) (hi' : i < ys.length), ∃ x, RdD P (fs.toList[i]).type (ys[i]).1 x ∧ x.cells.length = P.cellsOf (fs.toList[i]).type ∧ CellsV W ((cs.drop (fs.toList[i]).offset).take (P.cellsOf (fs.toList[i]).type)) x.cells := by
          intro i hi hi'
          have h1 := hy i (fs.toList[i]) (by simp at hi; simp [hi])
          rw [List.getElem?_eq_getElem hi'] at h1
          obtain ⟨k, hk⟩ := hall n fs.toList hp i hi
          obtain ⟨x, k1, k2, k3, _⟩ := ih k _ _ (ys[i]).1 (ys[i]).2 h1 hk
          exact ⟨x, k1, k2, k3⟩
        have hfl : fs.toList.length = ys.length := by simp [hyl]
        have : ∃ xs : List AV, xs.length = fs.toList.length ∧ ∀ i (hi : i < fs.toList.length) (hi' : i < ys.length) (hx : i < xs.length), RdD P (fs.toList[i]).type (ys[i]).1 xs[i] ∧ xs[i].cells.length = P.cellsOf (fs.toList[i]).type ∧ CellsV W ((cs.drop (fs.toList[i]).offset).take (P.cellsOf (fs.toList[i]).type)) xs[i].cells := by
          refine ⟨(List.finRange fs.toList.length).map fun i => Classical.choose (each i.1 i.2 (by omega)), by simp, fun i hi hi' hx => ?_⟩
          simp only [List.getElem_map, List.getElem_finRange]
          exact Classical.choose_spec (each i hi hi')
        obtain ⟨xs, hxl, hxs⟩ := this
        obtain ⟨_, hcv⟩ := laidB_flat fs.toList 0 m W cs xs hm hxl (fun i h1 h2 => ⟨(hxs i h1 (by omega) h2).2.2, (hxs i h1 (by omega) h2).2.1⟩) (by omega)
        rw [List.drop_zero] at hcv
        refine ⟨.agg (xs.flatMap AV.cells), .st ht (by simp [hyl]) (by simpa using hxl) (fun i h1 h2 h3 => by
          have := (hxs i (by simpa using h3) (by simpa using h1) h2).1
          simp only [Array.getElem_toList, List.getElem_map] at this ⊢
          exact this), by show (xs.flatMap AV.cells).length = _; rw [← hcv.1]; omega, hcv, ?_⟩
        rintro v (⟨zs, rfl, h1, h2⟩ | ⟨h1, h2⟩)
        · refine .agg (by rw [← hcv.1, ← h1]; simp) (fun i hi => ?_)
          have h3 : i < cs.length := by rw [hcv.1]; exact hi
          have := hcv.2 i h3 hi
          subst h1
          rw [Array.getD_eq_getD_getElem?, Array.getElem?_eq_getElem (by simpa using h3)]
          simpa using this
        · simp [aggT, ht] at h2
      · cases hp
theorem read_plain {H : Type} {enc : TypeId × Value → H} {P : Program} {W : World} {r : Reach} {base : Nat} {n : Nat} {t : TypeId} {v : Value} {d : DataW H} {ps : List MemPlace} (hp : plainB P n t = true) (hv : Value.okWide P W r base t v)
    (h : DataW.Trod enc P W 0 (fun _ => true) true t v d ps) : ∃ a, VRel (Rl.old W) W v a ∧ RdD P t d a := by
  obtain ⟨fuel, hf⟩ := h
  obtain ⟨a, h1, _, _, h2⟩ := read_cells fuel n t _ d ps hf hp
  refine ⟨a, h2 v ?_, h1⟩
  cases n with
  | zero => simp [plainB] at hp
  | succ n =>
    rw [plainB] at hp
    split at hp
    · rename_i ht
      obtain ⟨b, rfl⟩ := okWide_bool ht hv
      exact .inr ⟨rfl, by simp [aggT, ht]⟩
    · rename_i k ht
      obtain ⟨b, rfl⟩ := okWide_int ht hv
      exact .inr ⟨rfl, by simp [aggT, ht]⟩
    · rename_i ht
      obtain ⟨b, rfl⟩ := okWide_string ht hv
      exact .inr ⟨rfl, by simp [aggT, ht]⟩
    · rename_i e ht
      obtain ⟨a, len, cap, rfl⟩ := okWide_slice ht hv
      exact .inr ⟨rfl, by simp [aggT, ht]⟩
    · rename_i fs ht
      obtain ⟨cs, rfl, _⟩ := okWide_struct ht hv
      exact .inl ⟨cs, rfl, rfl, by simp [aggT, ht]⟩
    · cases hp
def RdDAll (P : Program) {H : Type} : List Field → List (DataW H) → List AV → Prop
  | [], [], [] => True
  | f :: fs, d :: ds, x :: xs => RdD P f.type d x ∧ RdDAll P fs ds xs
  | _, _, _ => False
theorem RdDAll.cons {P : Program} {H : Type} {f : Field} {fs : List Field} {ds : List (DataW H)} {xs : List AV} (h : RdDAll P (f :: fs) ds xs) : ∃ d ds' x xs', ds = d :: ds' ∧ xs = x :: xs' ∧ RdD P f.type d x ∧ RdDAll P fs ds' xs' := by
  match ds, xs, h with
  | d :: ds', x :: xs', ⟨h1, h2⟩ => exact ⟨d, ds', x, xs', rfl, rfl, h1, h2⟩
theorem RdDAll.nil {P : Program} {H : Type} {ds : List (DataW H)} {xs : List AV} (h : RdDAll P [] ds xs) : ds = [] ∧ xs = [] := by
  match ds, xs, h with
  | [], [], _ => exact ⟨rfl, rfl⟩
section
variable {P : Program} {H : Type} {t : TypeId} {d : DataW H} {a : AV}
theorem RdD.inv_int {k : IntKind} (h : RdD P t d a) (ht : P.underlying t = some (.int k)) : ∃ n, d = .lit (.int k n) ∧ a = .int k n ∧ (Lit.int k n).wf = true := by
  cases h with
  | int ht' hs => rw [ht] at ht'; cases ht'; exact ⟨_, rfl, rfl, hs⟩
  | bool ht' => rw [ht] at ht'; cases ht'
  | str ht' => rw [ht] at ht'; cases ht'
  | nils ht' => rw [ht] at ht'; cases ht'
  | sl ht' => rw [ht] at ht'; cases ht'
  | st ht' => rw [ht] at ht'; cases ht'
theorem RdD.inv_sl {e : TypeId} (h : RdD P t d a) (ht : P.underlying t = some (.slice e)) :
    ∃ (ds : List (DataW H)) (xs : List AV), a = .sl true false (P.cellsOf e) xs ∧ xs.length = ds.length ∧ xs.length ≤ maxLen ∧ (∀ i (h1 : i < ds.length) (h2 : i < xs.length), RdD P e ds[i] xs[i]) ∧ ((d = .nil ∧ ds = []) ∨ ∃ rest, d = .slice ds rest) := by
  cases h with
  | nils ht' => rw [ht] at ht'; cases ht'; exact ⟨[], [], rfl, rfl, Nat.zero_le _, fun i h => absurd h (by simp), .inl ⟨rfl, rfl⟩⟩
  | sl ht' hl hm h => rw [ht] at ht'; cases ht'; exact ⟨_, _, rfl, hl, hm, h, .inr ⟨_, rfl⟩⟩
  | bool ht' => rw [ht] at ht'; cases ht'
  | int ht' => rw [ht] at ht'; cases ht'
  | str ht' => rw [ht] at ht'; cases ht'
  | st ht' => rw [ht] at ht'; cases ht'
theorem RdD.each {α : Type} {e : TypeId} (f : α → AV) (g : α → DataW H → Prop) {ds : List (DataW H)} {xs : List AV} (hl : xs.length = ds.length) (h : ∀ i (h1 : i < ds.length) (h2 : i < xs.length), RdD P e ds[i] xs[i])
    (hf : ∀ d x, RdD P e d x → ∃ y, x = f y ∧ g y d) : ∃ ys : List α, xs = ys.map f ∧ ys.length = ds.length ∧ ∀ i (h1 : i < ds.length) (h2 : i < ys.length), g ys[i] ds[i] := by
  induction xs generalizing ds with
  | nil =>
    obtain rfl : ds = [] := List.eq_nil_of_length_eq_zero (by simpa using hl.symm)
    exact ⟨[], rfl, rfl, fun i h => absurd h (by simp)⟩
  | cons x xs ih =>
    cases ds with
    | nil => simp at hl
    | cons d ds =>
      obtain ⟨y, hy, hg⟩ := hf d x (h 0 (by simp) (by simp))
      obtain ⟨ys, h1, h2, h3⟩ := ih (ds := ds) (by simpa using hl) (fun i k1 k2 => h (i + 1) (Nat.succ_lt_succ k1) (Nat.succ_lt_succ k2))
      refine ⟨y :: ys, by rw [hy, h1]; rfl, by simp [h2], fun i k1 k2 => ?_⟩
      cases i with
      | zero => exact hg
      | succ i => exact h3 i (Nat.lt_of_succ_lt_succ k1) (Nat.lt_of_succ_lt_succ k2)
end
end Go.Ab
end
section
set_option linter.unusedVariables false
set_option linter.unusedSimpArgs false
namespace Go.Ab
open Go Go.WideShapes
mutual
def avB : AV → Nat
  | .str s => s.length
  | .sl _ _ _ xs => avS xs
  | .agg cs => avC cs
  | _ => 0
def avS : List AV → Nat
  | [] => 0
  | x :: r => avB x + 1 + avS r
def avC : List AV → Nat
  | [] => 0
  | x :: r => avB x + avC r
end
theorem avC_append (a b : List AV) : avC (a ++ b) = avC a + avC b := by
  induction a with
  | nil => simp [avC]
  | cons x a ih => simp only [List.cons_append, avC, ih]; omega
theorem avC_cells (x : AV) : avC x.cells ≤ avB x := by
  cases x <;> simp [AV.cells, avC, avB]
theorem avC_flat (xs : List AV) : avC (xs.flatMap AV.cells) ≤ avC xs := by
  induction xs with
  | nil => simp
  | cons x xs ih =>
    have := avC_cells x
    simp only [List.flatMap_cons, avC_append, avC]; omega
theorem avC_le_avS (xs : List AV) : avC xs ≤ avS xs := by
  induction xs with
  | nil => simp [avC, avS]
  | cons x xs ih => simp only [avC, avS]; omega
theorem avS_len : ∀ xs : List AV, xs.length ≤ avS xs
  | [] => Nat.zero_le _
  | x :: xs => by have := avS_len xs; simp only [avS, List.length_cons]; omega
theorem bulk_all {P : Program} {H : Type} {B : DataW H → Nat} {BA : List (DataW H) → Nat} (hn : BA [] = 0) (hc : ∀ d r, BA (d :: r) = B d + BA r) : ∀ {ds : List (DataW H)} {xs : List AV}, xs.length = ds.length →
    (∀ i (h1 : i < ds.length) (h2 : i < xs.length), avB xs[i] + 1 ≤ B ds[i]) → avS xs ≤ BA ds
  | [], xs, hl, h => by
    obtain rfl : xs = [] := List.eq_nil_of_length_eq_zero (by simpa using hl)
    simp [avS]
  | d :: ds, xs, hl, h => by
    cases xs with
    | nil => simp at hl
    | cons x xs =>
      have h0 := h 0 (by simp) (by simp)
      have := bulk_all (P := P) (B := B) hn hc (ds := ds) (xs := xs) (by simpa using hl) (fun i h1 h2 => h (i + 1) (Nat.succ_lt_succ h1) (Nat.succ_lt_succ h2))
      simp only [avS, hc]
      simp only [List.getElem_cons_zero] at h0
      omega
theorem RdD.bulk {P : Program} {H : Type} {B : DataW H → Nat} {BA : List (DataW H) → Nat} (hn : BA [] = 0) (hc : ∀ d r, BA (d :: r) = B d + BA r) (h1 : ∀ d, 1 ≤ B d) (hs : ∀ s, B (.lit (.string s)) = s.length + 1)
    (hsl : ∀ a b, B (.slice a b) = BA a + BA b + 1) (hag : ∀ a, B (.agg a) = BA a + 1) {t : TypeId} {d : DataW H} {a : AV} (h : RdD P t d a) : avB a + 1 ≤ B d := by
  induction h with
  | bool => simpa [avB] using h1 _
  | int => simpa [avB] using h1 _
  | str => simp [avB, hs]
  | nils => simpa [avB, avS] using h1 _
  | sl ht hl hm h ih =>
    have := bulk_all (P := P) (B := B) hn hc hl ih
    rw [hsl]; simp only [avB]; omega
  | st ht hd hx h ih =>
    have := bulk_all (P := P) (B := B) hn hc (by omega) (fun i a b => ih i a b (by omega))
    rw [hag]; simp only [avB]
    rename_i t fs ds xs
    have k1 := avC_flat xs
    have k2 := avC_le_avS xs
    omega
end Go.Ab
end
section
set_option linter.unusedVariables false
set_option linter.unusedSimpArgs false
set_option maxRecDepth 20000
namespace Go.Proofs.Ytjaflkgfipaajaa
open Go Go.Ab
def zints (l : List Int) : List AV := l.map fun z => .int .i64 z
theorem zints_len (l : List Int) : (zints l).length = l.length := by simp [zints]
def IsI64 (z : Int) : Prop := -9223372036854775808 ≤ z ∧ z ≤ 9223372036854775807
theorem open_z {H : Type} {d : DataW H} {a : AV} (h : RdD Try.prog 30 d a) : ∃ l : List Int, a = .sl true false 1 (zints l) ∧ ∀ z ∈ l, IsI64 z := by
  obtain ⟨ds, xs, rfl, hl, hm, hall, _⟩ := h.inv_sl Try.underlying30
  obtain ⟨ys, rfl, hy, hg⟩ := RdD.each (fun z : Int => AV.int .i64 z) (fun z _ => IsI64 z) hl hall (fun d x h => by
    obtain ⟨z, rfl, rfl, hw⟩ := h.inv_int Try.underlying3
    exact ⟨z, rfl, by simpa [IsI64, Lit.wf, IntKind.min, IntKind.max, IntKind.signed, IntKind.bits] using hw⟩)
  have hc : Try.prog.cellsOf 3 = 1 := by kernel_rfl
  exact ⟨ys, by rw [hc]; rfl, fun z hz => by
    obtain ⟨i, hi, rfl⟩ := List.getElem_of_mem hz
    exact hg i (by omega) hi⟩
end Go.Proofs.Ytjaflkgfipaajaa
end
section
set_option linter.unusedVariables false
set_option linter.unusedSimpArgs false
set_option maxRecDepth 20000
set_option maxHeartbeats 2000000
namespace Go.Proofs.Ytjaflkgfipaajaa
open Go Go.Ab
def alJ (ten : Int) (costs : List Int) (k : Nat) : QJ := ⟨((1 + chooseN ten 20 : Nat) : Int), nmJ k, ((1 + chooseN (costs.getD k 0) 1000 : Nat) : Int)⟩
def alL (ten : Int) (costs : List Int) (i : Nat) : List QJ := (List.range i).map (alJ ten costs)
def alR (ten : Int) (costs : List Int) (i : Nat) : List QT := if i = 0 then [] else [⟨((1 + chooseN ten 20 : Nat) : Int), 0, false, alL ten costs i⟩]
theorem alL_len (ten : Int) (costs : List Int) (i : Nat) : (alL ten costs i).length = i := by simp [alL]
theorem alL_snoc (ten : Int) (costs : List Int) (i : Nat) : alL ten costs (i + 1) = alL ten costs i ++ [alJ ten costs i] := by unfold alL; rw [List.range_succ, List.map_append]; rfl
theorem al_add (ten : Int) (costs : List Int) (i : Nat) : addJ (alR ten costs i) (alJ ten costs i) = alR ten costs (i + 1) := by
  unfold alR
  rw [if_neg (Nat.succ_ne_zero i), alL_snoc]
  by_cases h : i = 0
  · subst h; rfl
  · rw [if_neg h, addJ, if_pos (by simp [alJ])]
theorem al_fnd (ten : Int) (costs : List Int) (i : Nat) : fndQ (alR ten costs i) (nmJ i) = none := by
  unfold alR
  by_cases h : i = 0
  · rw [if_pos h]; rfl
  · rw [if_neg h]
    refine fnd_no fun m hm => ?_
    have : m = 0 := by simpa using hm
    subst this
    rw [List.findIdx?_eq_none_iff]
    intro x hx
    obtain ⟨k, hk, rfl⟩ := List.mem_map.1 (show x ∈ (List.range i).map (alJ ten costs) from hx)
    have hk := List.mem_range.1 hk
    have : nmJ k ≠ nmJ i := fun e => by have := nmJ_inj e; omega
    simpa [alJ] using this
theorem al_many (ten : Int) (costs : List Int) (i : Nat) : manyQ (alR ten costs i) = i := by
  unfold alR
  by_cases h : i = 0
  · rw [if_pos h, h]; rfl
  · rw [if_neg h]
    show (alL ten costs i).length + 0 = i
    rw [alL_len, Nat.add_zero]
theorem al_put {ten : Int} {costs : List Int} {i : Nat} (h : i < 100) : putE (alR ten costs i) (alJ ten costs i) = 0 := by
  have h1 := chooseN_lt ten (n := 20) (by decide)
  have h2 := chooseN_lt (costs.getD i 0) (n := 1000) (by decide)
  unfold putE
  rw [if_neg (by simp only [alJ]; omega), if_neg (by simp only [alJ]; rw [nmJ_name (by omega)]; simp), if_neg (by simp only [alJ]; rw [al_fnd]; simp), if_neg (by rw [al_many]; omega)]
theorem al_ok {quan : Int} (ten : Int) (costs : List Int) (hq : 1 ≤ quan ∧ quan ≤ 1000) : ∀ i, i ≤ 100 → QOk quan (alR ten costs i)
  | 0, _ => ok0 hq
  | i + 1, h => by
    rw [← al_add]
    exact (al_ok ten costs hq i (by omega)).add (al_put (by omega))
theorem one_ok {quan : Int} {t : QT} {j : QJ} {js : List QJ} {c : Int} (h : QOk quan [t]) (hj : t.jobs = j :: js) (hne : js ≠ []) (hc : 0 ≤ c ∧ c ≤ 1999) : QOk quan [⟨t.num, c, true, js⟩] := by
  refine ⟨h.q1, fun x hx => ?_, fun x hx => ?_, fun x hx => ?_, (fun x hx => by cases hx), ?_⟩
  · rw [List.mem_singleton.1 hx]; exact hne
  · rw [List.mem_singleton.1 hx]; exact ⟨hc.1, hc.2, fun h => by cases h⟩
  · rw [List.mem_singleton.1 hx]
    intro y hy
    exact h.co t (List.mem_singleton.2 rfl) y (by rw [hj]; exact List.mem_cons_of_mem _ hy)
  · have := h.mn
    have h1 : manyQ [t] = t.jobs.length := rfl
    rw [h1, hj, List.length_cons] at this
    show js.length + 0 ≤ 200
    omega
theorem QueueAlone_ok (quan ten : Int) (costs : List Int) (hq : -9223372036854775808 ≤ quan ∧ quan ≤ 9223372036854775807) (ht : -9223372036854775808 ≤ ten ∧ ten ≤ 9223372036854775807) (hb : avB (.sl true false 1 (zints costs)) ≤ 1048576) (hcz : ∀ c ∈ costs, IsI64 c) :
    Calc cx 4 [.int .i64 quan, .int .i64 ten, .sl true false 1 (zints costs)] (.bool true) :=
  pure_intro (fun a w => Try.call4 a w) Try.func4 rfl Try.ntmps4 rfl .bool fun B => by
    have hcl : costs.length ≤ 1048576 := by
      have h1 := avS_len (zints costs)
      have h2 : avS (zints costs) ≤ 1048576 := hb
      rw [zints_len] at h1; omega
    have hB := queueBegun_ok
    by_cases hqq : 1 ≤ quan ∧ quan ≤ 1000
    case neg =>
      have hN := NewE_ok quan (by omega)
      refine pao [.v (.bool true), .b false, .v (.tup [.nilp, .int .i64 3]), .b true, .b true] rfl ?_ ?_
      · (repeat' with_reducible apply AllP_cons) <;> try exact aC
        · exact ⟨[], hB, .nil _⟩
        · exact ⟨_, hN, .cons (.refl .int) (.nil _)⟩
      exact S_retc .bool rfl trivial rfl
    have hN := New_ok quan hqq
    have hzl := zints_len costs
    refine pao [.v (.bool true), .b false, .f (.tup [.ptr 0 0 0, .int .i64 0]) (fun _ => newQ quan), .b false, .b false] rfl ?_ ?_
    · (repeat' with_reducible apply AllP_cons) <;> try exact aC
      · exact ⟨[], hB, .nil _⟩
    refine S_ghost (id := 0) (gid := 1) (gver := 0) (j := 1) (σ' := newQ quan ++ [(0, some (.cells [] ⟨false, none⟩))]) 1 ⟨false, none⟩ rfl rfl rfl (by decide) ⟨_, _, .inl rfl⟩ ?_
    refine S_heap (newH quan) rfl ?_
    refine S_ghostF (t := 9) (gid := 2) (gver := 0) (σ' := newH quan ++ [(0, some (.cells [] ⟨false, none⟩))]) 3 ⟨false, none⟩ rfl rfl ⟨_, _, .inl rfl⟩ ?_
    refine S_while (α := (Heap × Nat × List QL) × Nat) (fun s => [(1, .int .i64 ten), (2, .sl true false 1 (zints costs)), (7, .ptr 0 0 0), (9, .ms 2 s.2 0 s.2 3 false), (10, .int .i64 (s.2 : Nat))]) (fun s => s.1.1)
      (fun s => QAt s.1.1 0 1 s.1.2.1 s.1.2.2 quan (alR ten costs s.2) ∧ s.1.1[2]? = some (s.2, some (.cells (jbC (alL ten costs s.2)) ⟨false, none⟩)) ∧ ¬ Own 0 1 s.1.2.2 2 ∧ s.2 ≤ costs.length ∧ s.2 ≤ 100) (fun s => costs.length - s.2) ((newH quan ++ [(0, some (.cells [] ⟨false, none⟩))], 0, []), 0)
      ⟨(newH_at quan).app 0 _, rfl, (fun ho => by rcases ho with h | h | ⟨e, he, _⟩; cases h; cases h; cases he), Nat.zero_le _, Nat.zero_le _⟩ (.cons rfl (.cons rfl (.cons rfl (.cons rfl (.cons rfl (.nil _)))))) rfl ?_
    rintro ⟨⟨σ, rv, es⟩, i⟩ ⟨h, hl, hn, hi1, hi2⟩
    simp only at h hl hn hi1 hi2
    by_cases hlt : i < costs.length ∧ i < 100
    · obtain ⟨hlt1, hlt2⟩ := hlt
      have c1 : decide ((i : Int) < (((zints costs).length : Nat) : Int)) = true := decide_eq_true (by omega)
      have c2 : decide ((i : Int) < 100) = true := decide_eq_true (by omega)
      obtain ⟨cc, hcc⟩ : ∃ cc, cc = costs.getD i 0 := ⟨_, rfl⟩
      have hci : costs[i] = cc := by rw [hcc]; simp [List.getD, hlt1]
      have hcg : (zints costs)[(i : Int).toNat]? = some (.int .i64 cc) := by rw [Int.toNat_natCast, ← hci]; simp [zints, hlt1]
      have hcb := hcz cc (by rw [← hci]; exact List.getElem_mem hlt1)
      have k1 := chooseN_lt ten (n := 20) (by decide)
      have k2 := chooseN_lt cc (n := 1000) (by decide)
      have hch1 := choose_ok ten 20 ht (by decide) (by decide)
      have hch2 := choose_ok cc 1000 hcb (by decide) (by decide)
      have hdg := DigitsOf_ok i i rfl (by omega)
      have hdl := digs_len3 (n := i) (by omega)
      have hJ : alJ ten costs i = ⟨((1 + chooseN ten 20 : Nat) : Int), nmJ i, ((1 + chooseN cc 1000 : Nat) : Int)⟩ := by unfold alJ; rw [← hcc]
      obtain ⟨z0, hz0⟩ : ∃ z0 : Nat × Option Box, z0 = (0, some (.cells [.int .i64 0, .str [], .int .i64 0] ⟨false, some 34⟩)) := ⟨_, rfl⟩
      obtain ⟨z1, hz1⟩ : ∃ z1 : Nat × Option Box, z1 = (0, some (.cells (alJ ten costs i).cells ⟨false, some 34⟩)) := ⟨_, rfl⟩
      have h1 : QAt (σ ++ [z1]) 0 1 rv es quan (alR ten costs i) := by rw [hz1]; exact h.app _ _
      have hw1 : IntKind.i64.wrap (1 + ((chooseN ten 20 : Nat) : Int)) = ((1 + chooseN ten 20 : Nat) : Int) := w64 (by omega) (by omega)
      have hw2 : IntKind.i64.wrap (1 + ((chooseN cc 1000 : Nat) : Int)) = ((1 + chooseN cc 1000 : Nat) : Int) := w64 (by omega) (by omega)
      refine pao [.b true, .b true] rfl ?_ ?_
      · (repeat' with_reducible apply AllP_cons) <;> try exact aC
      refine S_drawOC (σ ++ [z0]) 13 14 [.int .i64 (chooseN ten 20 : Nat), .str (digs i), .int .i64 cc, .int .i64 cc, .int .i64 (chooseN cc 1000 : Nat), .ptr σ.length 0 0] rfl rfl rfl rfl (fun s => rfl) (fun s hs => ?_) (fun o v ho hv => ?_) ?_
      · (repeat' with_reducible apply AllP_cons) <;> try exact aC
        · exact ⟨_, hch1, .cons (.refl .int) (.cons (.refl .int) (.nil _))⟩
        · exact ⟨_, hdg, .cons (.refl .int) (.nil _)⟩
        · exact ⟨_, hch2, .cons (.refl .int) (.cons (.refl .int) (.nil _))⟩
      · cases ho; cases hv
        exact specC_step rfl rfl (by rw [hz0]; exact OpSpec.allocE rfl rfl rfl rfl h.al)
      have hst : ∀ y : AV, y = jobA (alJ ten costs i) → σ ++ [z1] = (σ ++ [z0]).set σ.length (0, some (.cells (setRange [.int .i64 0, .str [], .int .i64 0] 0 y.cells) ⟨false, some 34⟩)) := fun y hy => by
        rw [List.set_append_right _ _ (Nat.le_refl _), Nat.sub_self, hy, hz1]; rfl
      refine pao [.f (.tup []) (fun _ => σ ++ [z1]), .v (jobA (alJ ten costs i))] rfl ?_ ?_
      · (repeat' with_reducible apply AllP_cons) <;> try exact aC
        · refine OpSpec.storeP (id := σ.length) (gT := some 34) (cs := [.int .i64 0, .str [], .int .i64 0]) (y := jobA (alJ ten costs i)) rfl rfl rfl ?_ rfl rfl (by rw [app_last, hz0]) (lble rfl) (hst _ rfl)
          show AV.agg [.int .i64 (IntKind.i64.wrap (1 + ((chooseN ten 20 : Nat) : Int))), .str (106 :: digs i), .int .i64 (IntKind.i64.wrap (1 + ((chooseN cc 1000 : Nat) : Int)))] = _
          rw [hw1, hw2, hJ]; rfl
        · exact OpSpec.loadPA rfl rfl rfl rfl (by rw [hz1]; exact app_last) (lble rfl) rfl
      have hp := al_put (ten := ten) (costs := costs) hlt2
      have hok := al_ok ten costs hqq i hi2
      have hP := Put_ok (σ ++ [z1]) 0 1 rv es quan (alR ten costs i) (alJ ten costs i) h1 hok.mn hok.len (by have := nmJ_len (k := i) (by omega); show (nmJ i).length ≤ 1048576; omega)
      rw [hp] at hP
      refine S_call rfl rfl rfl hP (fun v' σ' hv => ?_) (fun v' σ' hv => ?_)
      case _ =>
        obtain ⟨e1, rv', es', h2, hk2⟩ := hv
        cases e1
        have h2 : QAt σ' 0 1 rv' es' quan (addJ (alR ten costs i) (alJ ten costs i)) := h2
        rw [al_add] at h2
        have hlen := lt_of_get hl
        have hl2 : σ'[2]? = some (i, some (.cells (jbC (alL ten costs i)) ⟨false, none⟩)) := by rw [hk2.same 2 (by simp; omega) hn]; exact app_get hl
        have hj2 : σ'[σ.length]? = some z1 := by rw [hk2.same σ.length (by simp) (fun ho => by have := h.lt _ ho; omega)]; exact app_last
        have hn2 : ¬ Own 0 1 es' 2 := fun ho => by
          rcases hk2.new _ ho with h' | h'
          · exact hn h'
          · simp at h'; omega
        obtain ⟨L2, hL2⟩ : ∃ L2 : Nat × Option Box, L2 = (i + 1, some (.cells (jbC (alL ten costs (i + 1))) ⟨false, none⟩)) := ⟨_, rfl⟩
        refine pao [.b false, .v (jobA (alJ ten costs i)), .f (.ms 2 (i + 1) 0 (i + 1) 3 false) (fun s => s.set 2 L2)] rfl ?_ ?_
        · (repeat' with_reducible apply AllP_cons) <;> try exact aC
          · exact OpSpec.loadPA rfl rfl rfl rfl (by rw [hj2, hz1]) (lble rfl) rfl
          · refine OpSpec.appendX (id := 2) (ver := i) (off := 0) (len := i) (y := jobA (alJ ten costs i)) (cs := jbC (alL ten costs i)) rfl rfl rfl rfl rfl (fun z hz => ?_) hl2 ?_ ?_ ?_ ?_
            · have hz : z ∈ (alJ ten costs i).cells := hz
              exact jbC_one [alJ ten costs i] z (by simpa [jbC] using hz)
            · rw [jbC_len, alL_len]; omega
            · show (i + 1) * 32 ≤ 140737488355328; omega
            · omega
            · rw [hL2, alL_snoc, jbC_app]; rfl
        refine S_round ((σ'.set 2 L2, rv', es'), i + 1) (by show costs.length - (i + 1) < costs.length - i; omega) ⟨h2.keep (Alive.set' h2.al (by rw [hL2]; exact ⟨_, rfl⟩) _) fun id ho => set_ne fun e => hn2 (e ▸ ho), ?_, hn2, hlt1, hlt2⟩ (.cons rfl (.cons rfl (.cons rfl (.cons rfl (.cons ?_ (.nil _)))))) rfl
        · show (σ'.set 2 L2)[2]? = _
          rw [set_eq hl2, hL2]
        · show AV.int .i64 (IntKind.i64.wrap ((i : Int) + 1)) = .int .i64 ((i + 1 : Nat) : Int); exact ai64 rfl (by omega)
      case _ =>
        obtain ⟨e1, _⟩ := hv
        cases e1
    · have c1 : decide ((i : Int) < (((zints costs).length : Nat) : Int)) = decide (i < costs.length) := decide_eq_decide.2 (by omega)
      have c2 : decide ((i : Int) < 100) = decide (i < 100) := decide_eq_decide.2 (by omega)
      refine' S_shareO (ι := Unit) (fun _ => [(7, .ptr 0 0 0), (9, .ms 2 i 0 i 3 false)]) (fun _ => σ) (fun _ => True) ?main ?rest
      case main =>
        intro hsh
        by_cases hlt1 : i < costs.length
        · have c1' : decide ((i : Int) < (((zints costs).length : Nat) : Int)) = true := by rw [c1]; exact decide_eq_true hlt1
          have c2' : decide ((i : Int) < 100) = false := by rw [c2]; exact decide_eq_false (fun h' => hlt ⟨hlt1, h'⟩)
          refine pao [.b true, .b false, .s] rfl ?_ ?_
          · (repeat' with_reducible apply AllP_cons) <;> try exact aC
          exact hsh () _ trivial (.cons rfl (.cons rfl (.nil _)))
        · have c1' : decide ((i : Int) < (((zints costs).length : Nat) : Int)) = false := by rw [c1]; exact decide_eq_false hlt1
          refine pao [.b false, .b false, .s] rfl ?_ ?_
          · (repeat' with_reducible apply AllP_cons) <;> try exact aC
          exact hsh () _ trivial (.cons rfl (.cons rfl (.nil _)))
      case rest =>
        rintro ⟨⟩ _
        have hokm := al_ok ten costs hqq i hi2
        refine pao [] rfl ?_ ?_
        · (repeat' with_reducible apply AllP_cons) <;> try exact aC
        refine S_while (α := (Heap × Nat × List QL × List QT) × Nat) (fun s => [(7, .ptr 0 0 0), (9, .ms 2 i 0 i 3 false), (12, .int .i64 (s.2 : Nat))]) (fun s => s.1.1)
          (fun s => QAt s.1.1 0 1 s.1.2.1 s.1.2.2.1 quan s.1.2.2.2 ∧ QOk quan s.1.2.2.2 ∧ s.1.1[2]? = some (i, some (.cells (jbC (alL ten costs i)) ⟨false, none⟩)) ∧ ¬ Own 0 1 s.1.2.2.1 2 ∧ s.2 ≤ i ∧ (s.1.2.2.2 = [] ∧ s.2 = i ∨ ∃ t, s.1.2.2.2 = [t] ∧ t.jobs = (alL ten costs i).drop s.2 ∧ s.2 < i)) (fun s => i - s.2) ((σ, rv, es, alR ten costs i), 0)
          ⟨h, hokm, hl, hn, Nat.zero_le _, ?_⟩ (.cons rfl (.cons rfl (.cons rfl (.nil _)))) rfl ?_
        · show (alR ten costs i = [] ∧ 0 = i) ∨ ∃ t, alR ten costs i = [t] ∧ t.jobs = (alL ten costs i).drop 0 ∧ 0 < i
          unfold alR
          by_cases h0 : i = 0
          · rw [if_pos h0]; exact .inl ⟨rfl, h0.symm⟩
          · rw [if_neg h0]; exact .inr ⟨_, rfl, rfl, by omega⟩
        rintro ⟨⟨σ3, rv3, es3, ring⟩, k⟩ ⟨h3, hok3, hl3, hn3, hk, hr⟩
        simp only at h3 hok3 hl3 hn3 hk hr
        have hX := Next_ok σ3 0 1 rv3 es3 quan ring h3 hok3
        obtain ⟨z0, hz0⟩ : ∃ z0 : Nat × Option Box, z0 = (0, some (.cells [.int .i64 0, .str [], .int .i64 0] ⟨false, some 34⟩)) := ⟨_, rfl⟩
        rcases hr with ⟨hr, hki⟩ | ⟨t, hr, htj, hki⟩
        · subst hr
          have c3 : decide ((k : Int) < (i : Int)) = false := decide_eq_false (by omega)
          have hnx : nxtQ quan [] = (none, []) := rfl
          rw [hnx] at hX
          refine pao [.b false] rfl ?_ ?_
          · (repeat' with_reducible apply AllP_cons) <;> try exact aC
          refine S_call rfl rfl rfl hX (fun v' σ' hv => ?_) (fun v' σ' hv => ?_)
          case _ =>
            obtain ⟨e1, rv', es', h4, hk4⟩ := hv
            cases e1
            refine pao [.f (.ptr σ'.length 0 0) (fun s => s ++ [z0]), .f (.tup []) (fun _ => σ' ++ [z0]), .b true, .v (jobA job0)] rfl ?_ ?_
            · (repeat' with_reducible apply AllP_cons) <;> try exact aC
              · rw [hz0]; exact OpSpec.allocE rfl rfl rfl rfl h4.al
              · exact OpSpec.storeP (id := σ'.length) (gT := some 34) (cs := [.int .i64 0, .str [], .int .i64 0]) (y := jobA job0) rfl rfl rfl rfl rfl rfl (by rw [app_last, hz0]) (lble rfl) (by rw [List.set_append_right _ _ (Nat.le_refl _), Nat.sub_self, hz0]; rfl)
              · exact OpSpec.loadPA rfl rfl rfl rfl (by rw [hz0]; exact app_last) (lble rfl) rfl
              · kernel_rfl
            exact S_retc .bool rfl trivial rfl
          case _ =>
            obtain ⟨e1, _⟩ := hv
            cases e1
        · subst hr
          have hlk : k < (alL ten costs i).length := by rw [alL_len]; exact hki
          have c3 : decide ((k : Int) < (i : Int)) = true := decide_eq_true (by omega)
          obtain ⟨j, hj⟩ : ∃ j, j = (alL ten costs i)[k] := ⟨_, rfl⟩
          have htj2 : t.jobs = j :: (alL ten costs i).drop (k + 1) := by rw [htj, List.drop_eq_getElem_cons hlk, ← hj]
          obtain ⟨c, hnx, hc1, hc2⟩ := nxtF_one (mQ [t] + 1) t j _ htj2 hok3 (Nat.lt_succ_self _)
          have hnx : nxtQ quan [t] = _ := hnx
          rw [hnx] at hX
          refine pao [.b true] rfl ?_ ?_
          · (repeat' with_reducible apply AllP_cons) <;> try exact aC
          refine S_call rfl rfl rfl hX (fun v' σ' hv => ?_) (fun v' σ' hv => ?_)
          case _ =>
            obtain ⟨e1, rv', es', h4, hk4⟩ := hv
            cases e1
            obtain ⟨zj, hzj⟩ : ∃ zj : Nat × Option Box, zj = (0, some (.cells j.cells ⟨false, some 34⟩)) := ⟨_, rfl⟩
            have hl4 : σ'[2]? = some (i, some (.cells (jbC (alL ten costs i)) ⟨false, none⟩)) := by rw [hk4.same 2 (lt_of_get hl3) hn3]; exact hl3
            have hn4 : ¬ Own 0 1 es' 2 := fun ho => by
              rcases hk4.new _ ho with h' | h'
              · exact hn3 h'
              · have := lt_of_get hl3; omega
            refine pao [.f (.ptr σ'.length 0 0) (fun s => s ++ [z0]), .f (.tup []) (fun _ => σ' ++ [zj])] rfl ?_ ?_
            · (repeat' with_reducible apply AllP_cons) <;> try exact aC
              · rw [hz0]; exact OpSpec.allocE rfl rfl rfl rfl h4.al
              · exact OpSpec.storeP (id := σ'.length) (gT := some 34) (cs := [.int .i64 0, .str [], .int .i64 0]) (y := jobA j) rfl rfl rfl rfl rfl rfl (by rw [app_last, hz0]) (lble rfl) (by rw [List.set_append_right _ _ (Nat.le_refl _), Nat.sub_self, hzj]; rfl)
            refine S_drawO 10 [.bool false, jobA j, .top, jobA j] rfl rfl rfl rfl rfl ?_ ?_
            · (repeat' with_reducible apply AllP_cons) <;> try exact aC
              · exact OpSpec.loadPA rfl rfl rfl rfl (by rw [hzj]; exact app_last) (lble rfl) rfl
              · obtain ⟨e1, e2⟩ := jbC_at hlk
                refine OpSpec.loadEA (id := 2) (ver := i) (off := offN 0 (mulN ((k : Int)).toNat 3)) (cs := jbC (alL ten costs i)) rfl rfl rfl rfl (app_get hl4) e2 ?_
                rw [hj]
                exact congrArg AV.agg e1.symm
              · kernel_rfl
            refine pao [.b false] rfl ?_ ?_
            · refine ⟨?_, trivial⟩
              show (!(j.ten == j.ten && (j.name == j.name && (j.cost == j.cost && true)))) = false
              simp
            refine S_round ((σ' ++ [zj], rv', es', if (alL ten costs i).drop (k + 1) = [] then [] else [⟨t.num, c, true, (alL ten costs i).drop (k + 1)⟩]), k + 1) (by show i - (k + 1) < i - k; omega) ⟨?_, ?_, app_get hl4, hn4, hki, ?_⟩ (.cons rfl (.cons rfl (.cons ?_ (.nil _)))) rfl
            · exact h4.keep (by rw [hzj]; exact h4.al.app _ _) fun id ho => List.getElem?_append_left (h4.lt _ ho)
            · by_cases hd : (alL ten costs i).drop (k + 1) = []
              · rw [if_pos hd]; exact ok0 hqq
              · rw [if_neg hd]; exact one_ok hok3 htj2 hd ⟨hc1, hc2⟩
            · by_cases hd : (alL ten costs i).drop (k + 1) = []
              · rw [if_pos hd]
                refine .inl ⟨rfl, ?_⟩
                have := List.drop_eq_nil_iff.1 hd
                rw [alL_len] at this
                show k + 1 = i; omega
              · rw [if_neg hd]
                refine .inr ⟨_, rfl, rfl, ?_⟩
                rcases Nat.lt_or_ge (k + 1) i with h' | h'
                · exact h'
                · exact absurd (List.drop_eq_nil_iff.2 (by rw [alL_len]; exact h')) hd
            · show AV.int .i64 (IntKind.i64.wrap ((k : Int) + 1)) = .int .i64 ((k + 1 : Nat) : Int); exact ai64 rfl (by omega)
          case _ =>
            obtain ⟨e1, _⟩ := hv
            cases e1
end Go.Proofs.Ytjaflkgfipaajaa
end
