/-
  Texts of our own, in one file.
-/
import Derived.Test.YtjaflkgfipaajaaGrpC
import Derived.WideShapes
section
set_option linter.unusedVariables false
set_option linter.unusedSimpArgs false
set_option maxRecDepth 20000
set_option maxHeartbeats 2000000
namespace Go.Proofs.Ytjaflkgfipaajaa
open Go Go.Ab
def newQ (quan : Int) : Heap := [(0, some (.cells [.int .i64 quan, .nils, .int .i64 0] ⟨false, some 56⟩))]
theorem New_ok (quan : Int) (h : 1 ≤ quan ∧ quan ≤ 1000) : CallOk cx 8 [.int .i64 quan] [] (fun o s => o = .ret (.tup [.ptr 0 0 0, .int .i64 0]) ∧ s = newQ quan) :=
  callOk_intro (fun a w => Try.call8 a w) Try.func8 rfl Try.ntmps8 rfl fun B => by
    have c1 : decide (quan < 1) = false := decide_eq_false (by omega)
    have c2 : decide (quan > 1000) = false := decide_eq_false (by omega)
    refine pB [.b false, .b false] rfl ?_
    exact S_ret ⟨_, _, rfl, trivial, rfl, rfl⟩
theorem NewE_ok (quan : Int) (h : quan < 1 ∨ quan > 1000) : Calc cx 8 [.int .i64 quan] (.tup [.nilp, .int .i64 3]) :=
  pure_intro (fun a w => Try.call8 a w) Try.func8 rfl Try.ntmps8 rfl (.tup (fun a ha => by rcases List.mem_cons.1 ha with rfl | ha; exact .nilp; rw [List.mem_singleton.1 ha]; exact .int)) fun B => by
    by_cases h1 : quan < 1
    · have c1 : decide (quan < 1) = true := decide_eq_true h1
      refine pB [.b true, .b true] rfl ?_
      exact S_ret ⟨_, _, rfl, trivial, _, rfl, .refl (.tup (fun a ha => by rcases List.mem_cons.1 ha with rfl | ha; exact .nilp; rw [List.mem_singleton.1 ha]; exact .int))⟩
    · have c1 : decide (quan < 1) = false := decide_eq_false h1
      have c2 : decide (quan > 1000) = true := decide_eq_true (by omega)
      refine pB [.b false, .b true] rfl ?_
      exact S_ret ⟨_, _, rfl, trivial, _, rfl, .refl (.tup (fun a ha => by rcases List.mem_cons.1 ha with rfl | ha; exact .nilp; rw [List.mem_singleton.1 ha]; exact .int))⟩
def newH (quan : Int) : Heap := [(0, some (.cells [.int .i64 quan, .ms 1 0 0 0 1 false, .int .i64 0] ⟨false, some 56⟩)), (0, some (.cells [] ⟨false, none⟩))]
theorem newH_at (quan : Int) : QAt (newH quan) 0 1 0 [] quan [] := by
  refine ⟨fun e he => ?_, rfl, rfl, .nil, ⟨by decide, (fun p hp => by cases hp), .nil⟩⟩
  rcases List.mem_cons.1 he with rfl | he
  · exact ⟨_, rfl⟩
  · rw [List.mem_singleton.1 he]; exact ⟨_, rfl⟩
def jobX : QJ := ⟨1, [97], 3⟩
theorem putX : putE [] jobX = 0 := by decide
theorem nxtX : nxtQ 5 (addJ [] jobX) = (some jobX, []) := rfl
theorem okX : QOk 5 (addJ [] jobX) := by
  refine ⟨by decide, fun t ht => ?_, fun t ht => ?_, fun t ht => ?_, (fun t ht => by cases ht), by decide⟩
  · rw [List.mem_singleton.1 ht]; simp
  · rw [List.mem_singleton.1 ht]; decide
  · rw [List.mem_singleton.1 ht]
    intro j hj
    rw [List.mem_singleton.1 hj]; decide
theorem queueBegun_ok : Calc cx 7 [] (.bool true) :=
  pure_intro (fun a w => Try.call7 a w) Try.func7 rfl Try.ntmps7 rfl .bool fun B => by
    have hN := New_ok 5 (by decide)
    refine pao [.f (.tup [.ptr 0 0 0, .int .i64 0]) (fun _ => newQ 5), .b false, .b false, .b false] rfl ?_ ?_
    · (repeat' with_reducible apply AllP_cons) <;> try exact aC
    refine S_ghost (id := 0) (gid := 1) (gver := 0) (j := 1) (σ' := newQ 5 ++ [(0, some (.cells [] ⟨false, none⟩))]) 1 ⟨false, none⟩ rfl rfl rfl (by decide) ⟨.skip, _, .inr ⟨_, _, _, rfl⟩⟩ ?_
    refine S_heap (newH 5) rfl ?_
    have hP := Put_ok (newH 5) 0 1 0 [] 5 [] jobX (newH_at 5) (by decide) (by decide) (by decide)
    rw [putX] at hP
    refine S_call rfl rfl rfl hP (fun v' σ' hv => ?_) (fun v' σ' hv => ?_)
    case _ =>
      obtain ⟨e1, rv', es', h1, _⟩ := hv
      cases e1
      have h1 : QAt σ' 0 1 rv' es' 5 (addJ [] jobX) := h1
      have hX := Next_ok σ' 0 1 rv' es' 5 _ h1 okX
      rw [nxtX] at hX
      refine pao [] rfl ?_ ?_
      · (repeat' with_reducible apply AllP_cons) <;> try exact aC
      refine S_call rfl rfl rfl hX (fun v' σ2 hv => ?_) (fun v' σ2 hv => ?_)
      case _ =>
        obtain ⟨e1, rv2, es2, h2, _⟩ := hv
        cases e1
        refine pao [.f (.ptr σ2.length 0 0) (fun s => s ++ [(0, some (.cells [.int .i64 0, .str [], .int .i64 0] ⟨false, some 34⟩))]), .f (.tup []) (fun _ => σ2 ++ [(0, some (.cells jobX.cells ⟨false, some 34⟩))]), .b true, .b true, .v (.str [97])] rfl ?_ ?_
        · (repeat' with_reducible apply AllP_cons) <;> try exact aC
          · exact OpSpec.allocE rfl rfl rfl rfl h2.al
          · exact OpSpec.storeP (y := jobA jobX) rfl rfl rfl rfl rfl rfl app_last (lble rfl) (by rw [List.set_append_right _ _ (Nat.le_refl _), Nat.sub_self]; rfl)
          · exact OpSpec.loadP rfl rfl rfl rfl app_last rfl
        exact S_ret ⟨_, _, rfl, trivial, _, rfl, .refl .bool⟩
      case _ =>
        obtain ⟨e1, _⟩ := hv
        cases e1
    case _ =>
      obtain ⟨e1, _⟩ := hv
      cases e1
end Go.Proofs.Ytjaflkgfipaajaa
end
section
set_option linter.unusedVariables false
set_option linter.unusedSimpArgs false
set_option maxRecDepth 20000
namespace Go.Proofs.Ytjaflkgfipaajaa
open Go Go.Ab
def chooseN (c : Int) (n : Nat) : Nat := (if c < 0 then (-(c + 1)).toNat else c.toNat) % n
theorem choose_ok (c : Int) (n : Nat) (hc : -9223372036854775808 ≤ c ∧ c ≤ 9223372036854775807) (hn : 0 < n) (hn2 : n ≤ 9223372036854775807) : Calc cx 10 [.int .i64 c, .int .i64 n] (.int .i64 (chooseN c n)) :=
  pure_intro (fun a w => Try.call10 a w) Try.func10 rfl Try.ntmps10 rfl .int fun B => by
    refine ab 1000 rfl trivial ?_
    have hmod : ∀ m : Nat, ((m : Int).tmod n) = ((m % n : Nat) : Int) := fun m => rfl
    refine S_dec rfl (fun h => ?_) (fun h => ?_)
    · have hw : IntKind.i64.wrap (0 - IntKind.i64.wrap (c + 1)) = (((-(c + 1)).toNat : Nat) : Int) := by
        have e1 : IntKind.i64.wrap (c + 1) = c + 1 := IntWalk.i64_in _ ⟨by omega, by omega⟩
        rw [e1]
        exact w64 (by omega) (by omega)
      refine ab 1000 rfl ⟨by omega, trivial⟩ ?_
      refine S_retc .int rfl trivial ?_
      show AV.int .i64 ((IntKind.i64.wrap (0 - IntKind.i64.wrap (c + 1))).tmod n) = _
      rw [hw, hmod, chooseN, if_pos h]
    · refine ab 1000 rfl ⟨by omega, trivial⟩ ?_
      refine S_retc .int rfl trivial ?_
      obtain ⟨m, rfl⟩ := Int.eq_ofNat_of_zero_le (by omega : 0 ≤ c)
      show AV.int .i64 ((m : Int).tmod n) = _
      rw [hmod, chooseN, if_neg h, Int.toNat_natCast]
theorem chooseN_lt (c : Int) {n : Nat} (hn : 0 < n) : chooseN c n < n := Nat.mod_lt _ hn
end Go.Proofs.Ytjaflkgfipaajaa
end
section
set_option linter.unusedVariables false
set_option linter.unusedSimpArgs false
set_option maxRecDepth 20000
namespace Go.Proofs.Ytjaflkgfipaajaa
open Go Go.Ab
theorem digs_small {n : Nat} (h : n < 10) : digs n = [UInt8.ofNat (48 + n)] := by rw [digs, dif_pos h]
theorem digs_big {n : Nat} (h : ¬ n < 10) : digs n = digs (n / 10) ++ [UInt8.ofNat (48 + n % 10)] := by rw [digs, dif_neg h]
theorem dig_at {d : Nat} (h : d < 10) : (UInt8.ofNat (48 + d)).toNat = 48 + d := by rw [UInt8.toNat_ofNat']; omega
theorem digs_rng (n : Nat) : ∀ m, m = n → ∀ b ∈ digs m, 48 ≤ b.toNat ∧ b.toNat ≤ 57 := by
  induction n using Nat.strongRecOn with
  | _ n ih =>
    intro m hm b hb
    by_cases h : m < 10
    · rw [digs_small h] at hb
      rw [List.mem_singleton.1 hb, dig_at h]; omega
    · rw [digs_big h] at hb
      rcases List.mem_append.1 hb with hb | hb
      · exact ih (m / 10) (by omega) _ rfl b hb
      · rw [List.mem_singleton.1 hb, dig_at (Nat.mod_lt _ (by omega))]
        have := Nat.mod_lt m (show 0 < 10 by omega)
        omega
def dval (l : List UInt8) : Nat := l.foldl (fun a b => 10 * a + (b.toNat - 48)) 0
theorem dval_digs (n : Nat) : ∀ m, m = n → dval (digs m) = m := by
  induction n using Nat.strongRecOn with
  | _ n ih =>
    intro m hm
    by_cases h : m < 10
    · rw [digs_small h]
      show 10 * 0 + ((UInt8.ofNat (48 + m)).toNat - 48) = m
      rw [dig_at h]; omega
    · rw [digs_big h]
      have := ih (m / 10) (by omega) _ rfl
      unfold dval at this ⊢
      rw [List.foldl_append, this]
      show 10 * (m / 10) + ((UInt8.ofNat (48 + m % 10)).toNat - 48) = m
      rw [dig_at (Nat.mod_lt _ (by omega))]; omega
theorem digs_inj {a b : Nat} (h : digs a = digs b) : a = b := by
  have h1 := dval_digs a a rfl
  have h2 := dval_digs b b rfl
  rw [h] at h1; omega
theorem digs_len3 {n : Nat} (h : n < 1000) : (digs n).length ≤ 3 := by
  have s1 : ∀ m, m < 10 → (digs m).length = 1 := fun m hm => by rw [digs_small hm]; rfl
  have s2 : ∀ m, m < 100 → (digs m).length ≤ 2 := fun m hm => by
    by_cases h : m < 10
    · rw [s1 m h]; omega
    · rw [digs_big h, List.length_append, s1 _ (by omega)]; exact Nat.le_refl 2
  by_cases h1 : n < 10
  · rw [s1 n h1]; omega
  · have := s2 (n / 10) (by omega)
    rw [digs_big h1, List.length_append]
    simp only [List.length_cons, List.length_nil]; omega
def nmJ (k : Nat) : Nm := 106 :: digs k
theorem nmJ_inj {a b : Nat} (h : nmJ a = nmJ b) : a = b := digs_inj (List.cons.inj h).2
theorem nmJ_len {k : Nat} (h : k < 1000) : (nmJ k).length ≤ 4 := by have := digs_len3 h; unfold nmJ; rw [List.length_cons]; omega
theorem nmJ_name {k : Nat} (h : k < 1000) : isName (nmJ k) = true := by
  have hl := nmJ_len h
  unfold isName
  have h1 : (nmJ k).all nameB = true := by
    unfold nmJ
    rw [List.all_cons, Bool.and_eq_true]
    refine ⟨by decide, List.all_eq_true.2 fun b hb => ?_⟩
    have := digs_rng k k rfl b hb
    unfold nameB
    refine decide_eq_true ?_
    unfold nameP
    omega
  have h2 : nmJ k ≠ [46] := fun e => by have := (List.cons.inj e).1; exact absurd this (by decide)
  have h3 : nmJ k ≠ [46, 46] := fun e => by have := (List.cons.inj e).1; exact absurd this (by decide)
  rw [h1, decide_eq_true (show 1 ≤ (nmJ k).length from Nat.succ_le_succ (Nat.zero_le _)), decide_eq_true (show (nmJ k).length ≤ 20 by omega)]
  simp [h2, h3]
theorem addJ_mem {j : QJ} : ∀ {ring : List QT} {t : QT}, t ∈ addJ ring j → t ∈ ring ∨ (∃ t0 ∈ ring, t = moreJ t0 j) ∨ t = ⟨j.ten, 0, false, [j]⟩
  | [], t, h => by rw [addJ] at h; exact .inr (.inr (List.mem_singleton.1 h))
  | x :: r, t, h => by
    rw [addJ] at h
    split at h
    · rcases List.mem_cons.1 h with h | h
      · exact .inr (.inl ⟨x, List.mem_cons_self .., h⟩)
      · exact .inl (List.mem_cons_of_mem _ h)
    · rcases List.mem_cons.1 h with h | h
      · exact .inl (by rw [h]; exact List.mem_cons_self ..)
      · rcases addJ_mem h with h | ⟨t0, h0, h⟩ | h
        · exact .inl (List.mem_cons_of_mem _ h)
        · exact .inr (.inl ⟨t0, List.mem_cons_of_mem _ h0, h⟩)
        · exact .inr (.inr h)
theorem many_addJ {j : QJ} : ∀ (ring : List QT), manyQ (addJ ring j) = manyQ ring + 1
  | [] => rfl
  | x :: r => by
    rw [addJ]
    split
    · show (x.jobs ++ [j]).length + manyQ r = _
      rw [manyQ, List.length_append]; simp only [List.length_cons, List.length_nil]; omega
    · rw [manyQ, manyQ, many_addJ r]; omega
theorem QOk.add {quan : Int} {ring : List QT} {j : QJ} (h : QOk quan ring) (hp : putE ring j = 0) : QOk quan (addJ ring j) := by
  have hc : 1 ≤ j.cost ∧ j.cost ≤ 1000 := by
    unfold putE at hp
    by_cases h0 : j.ten < 1 ∨ j.ten > 20 ∨ j.cost < 1 ∨ j.cost > 1000
    · rw [if_pos h0] at hp; cases hp
    · omega
  have hm : manyQ ring ≠ 200 := by
    unfold putE at hp
    split at hp
    · cases hp
    · split at hp
      · cases hp
      · split at hp
        · cases hp
        · split at hp
          · cases hp
          · assumption
  have hmn := h.mn
  refine ⟨h.q1, fun t ht => ?_, fun t ht => ?_, fun t ht => ?_, fun t ht => ?_, by rw [many_addJ]; omega⟩
  · rcases addJ_mem ht with ht | ⟨t0, h0, rfl⟩ | rfl
    · exact h.ne t ht
    · show t0.jobs ++ [j] ≠ []; simp
    · simp
  · rcases addJ_mem ht with ht | ⟨t0, h0, rfl⟩ | rfl
    · exact h.cr t ht
    · exact h.cr t0 h0
    · exact ⟨Int.le_refl _, by show (0 : Int) ≤ 1999; decide, fun _ => by show (0 : Int) ≤ 999; decide⟩
  · rcases addJ_mem ht with ht | ⟨t0, h0, rfl⟩ | rfl
    · exact h.co t ht
    · intro x hx
      rcases List.mem_append.1 hx with hx | hx
      · exact h.co t0 h0 x hx
      · rw [List.mem_singleton.1 hx]; exact hc
    · intro x hx
      rw [List.mem_singleton.1 hx]; exact hc
  · cases hr : ring with
    | nil => rw [hr] at ht; cases ht
    | cons x r =>
      rw [hr, addJ] at ht
      have htl := h.tl
      rw [hr] at htl
      split at ht
      · exact htl t ht
      · rcases addJ_mem (show t ∈ addJ r j from ht) with ht | ⟨t0, h0, rfl⟩ | rfl
        · exact htl t ht
        · exact htl t0 h0
        · rfl
end Go.Proofs.Ytjaflkgfipaajaa
end
section
set_option linter.unusedVariables false
set_option linter.unusedSimpArgs false
set_option maxRecDepth 20000
namespace Go.Proofs.Ytjaflkgfipaajaa
open Go Go.Ab
theorem getErase {α : Type} : ∀ {l : List α} {i : Nat} (h : i < l.length), (l[i] :: l.eraseIdx i).Perm l
  | x :: r, 0, _ => .refl _
  | x :: r, i + 1, h => by
    have := getErase (l := r) (i := i) (Nat.lt_of_succ_lt_succ h)
    exact (List.Perm.swap ..).trans (this.cons x)
theorem setErase {α : Type} (a : α) : ∀ {l : List α} {i : Nat} (h : i < l.length), (l.set i a).Perm (a :: l.eraseIdx i)
  | x :: r, 0, _ => .refl _
  | x :: r, i + 1, h => by
    have := setErase a (l := r) (i := i) (Nat.lt_of_succ_lt_succ h)
    exact (this.cons x).trans (List.Perm.swap ..)
def nmsQ (ring : List QT) : List Nm := ring.flatMap fun t => t.jobs.map QJ.name
theorem nmsQ_cons (t : QT) (r : List QT) : nmsQ (t :: r) = t.jobs.map QJ.name ++ nmsQ r := by unfold nmsQ; rw [List.flatMap_cons]
theorem nmsQ_perm {a b : List QT} (h : a.Perm b) : (nmsQ a).Perm (nmsQ b) := h.flatMap_right _
theorem nmsQ_len : ∀ ring : List QT, (nmsQ ring).length = manyQ ring
  | [] => rfl
  | t :: r => by rw [nmsQ_cons, List.length_append, List.length_map, nmsQ_len r, manyQ]
theorem takR_eq {ring : List QT} {i k : Nat} (hi : i < ring.length) : takR ring i k = if (ring[i].jobs.eraseIdx k) = [] then ring.eraseIdx i else ring.set i (lessJ ring[i] k) := by
  unfold takR
  rw [List.getElem?_eq_getElem hi]
theorem nms_take {ring : List QT} {i k : Nat} (hi : i < ring.length) (hk : k < ring[i].jobs.length) : (ring[i].jobs[k].name :: nmsQ (takR ring i k)).Perm (nmsQ ring) := by
  have h1 : (ring[i] :: ring.eraseIdx i).Perm ring := getErase hi
  have h2 : (ring[i].jobs[k] :: ring[i].jobs.eraseIdx k).Perm ring[i].jobs := getErase hk
  have h3 : (nmsQ (takR ring i k)).Perm ((ring[i].jobs.eraseIdx k).map QJ.name ++ nmsQ (ring.eraseIdx i)) := by
    rw [takR_eq hi]
    split
    · rename_i he
      rw [he]; exact .refl _
    · have := nmsQ_perm (setErase (lessJ ring[i] k) hi)
      rw [nmsQ_cons] at this
      exact this
  refine (h3.cons _).trans ?_
  refine List.Perm.trans ?_ (nmsQ_perm h1)
  rw [nmsQ_cons, ← List.cons_append, ← List.map_cons]
  exact (h2.map _).append_right _
theorem fnd_some {name : Nm} : ∀ {ring : List QT} {i k : Nat}, fndQ ring name = some (i, k) → ∃ (hi : i < ring.length) (hk : k < ring[i].jobs.length), ring[i].jobs[k].name = name
  | [], i, k, h => by cases h
  | x :: r, i, k, h => by
    rw [fndQ] at h
    split at h
    · rename_i k' hf
      cases h
      obtain ⟨h1, h2, _⟩ := List.findIdx?_eq_some_iff_getElem.1 hf
      exact ⟨Nat.zero_lt_succ _, h1, by simpa using h2⟩
    · rename_i hf
      cases hr : fndQ r name with
      | none => rw [hr] at h; cases h
      | some p =>
        rw [hr] at h
        cases h
        obtain ⟨h1, h2, h3⟩ := fnd_some (ring := r) (i := p.1) (k := p.2) hr
        exact ⟨Nat.succ_lt_succ h1, h2, h3⟩
theorem many_take {ring : List QT} {i k : Nat} (hi : i < ring.length) (hk : k < ring[i].jobs.length) : manyQ (takR ring i k) + 1 = manyQ ring := by
  have := (nms_take hi hk).length_eq
  rw [List.length_cons, nmsQ_len, nmsQ_len] at this
  exact this
theorem QOk.take {quan : Int} {ring : List QT} (h : QOk quan ring) {i k : Nat} (hi : i < ring.length) (hk : k < ring[i].jobs.length) : QOk quan (takR ring i k) := by
  have hm := many_take hi hk
  have hmn := h.mn
  have hmem : ∀ t ∈ takR ring i k, t ∈ ring ∨ (t = lessJ ring[i] k ∧ t.jobs ≠ []) := fun t ht => by
    rw [takR_eq hi] at ht
    split at ht
    · exact .inl (List.mem_of_mem_eraseIdx ht)
    · rename_i hne
      rcases List.mem_or_eq_of_mem_set ht with ht | ht
      · exact .inl ht
      · exact .inr ⟨ht, by rw [ht]; exact hne⟩
  have hin : ring[i] ∈ ring := List.getElem_mem hi
  refine ⟨h.q1, fun t ht => ?_, fun t ht => ?_, fun t ht => ?_, fun t ht => ?_, by omega⟩
  · rcases hmem t ht with ht | ⟨rfl, h2⟩
    · exact h.ne t ht
    · exact h2
  · rcases hmem t ht with ht | ⟨rfl, h2⟩
    · exact h.cr t ht
    · exact h.cr ring[i] hin
  · rcases hmem t ht with ht | ⟨rfl, h2⟩
    · exact h.co t ht
    · intro j hj
      exact h.co _ hin j (List.mem_of_mem_eraseIdx hj)
  · have htl := h.tl
    rw [takR_eq hi] at ht
    cases ring with
    | nil => cases hi
    | cons x r =>
      have htl : ∀ t ∈ r, t.turn = false := htl
      split at ht
      · cases i with
        | zero => exact htl t (List.mem_of_mem_tail ht)
        | succ i => exact htl t (List.mem_of_mem_eraseIdx (show t ∈ r.eraseIdx i from ht))
      · cases i with
        | zero => exact htl t ht
        | succ i =>
          have hi' : i < r.length := Nat.lt_of_succ_lt_succ hi
          rcases List.mem_or_eq_of_mem_set (show t ∈ r.set i (lessJ r[i] k) from ht) with ht | ht
          · exact htl t ht
          · rw [ht]; exact htl r[i] (List.getElem_mem hi')
theorem nxt_spec {quan : Int} : ∀ (f : Nat) (ring : List QT), QOk quan ring → mQ ring < f → ring = [] ∧ nxtF f quan ring = (none, []) ∨ ∃ j r', nxtF f quan ring = (some j, r') ∧ (j.name :: nmsQ r').Perm (nmsQ ring) ∧ QOk quan r'
  | 0, _, _, h => by omega
  | f + 1, [], _, _ => .inl ⟨rfl, rfl⟩
  | f + 1, t :: r, hok, hm => by
    right
    obtain ⟨j, js, hj⟩ : ∃ j js, t.jobs = j :: js := by
      cases hh : t.jobs with
      | nil => exact absurd hh (hok.ne t (List.mem_cons_self ..))
      | cons j js => exact ⟨j, js, rfl⟩
    rw [nxtF]
    simp only [hj]
    obtain ⟨c1, c2, c3⟩ := hok.cr t (List.mem_cons_self ..)
    obtain ⟨d1, d2⟩ := hok.co t (List.mem_cons_self ..) j (by rw [hj]; exact List.mem_cons_self ..)
    have hq := hok.q1
    by_cases hc : j.cost ≤ (if t.turn = true then t.cred else t.cred + quan)
    · rw [if_pos hc]
      obtain ⟨c, hcc⟩ : ∃ c, c = (if t.turn = true then t.cred else t.cred + quan) - j.cost := ⟨_, rfl⟩
      have hcb : 0 ≤ c ∧ c ≤ 1999 := by
        rw [hcc]
        split
        · split at hc <;> omega
        · rename_i hx
          have := c3 (by simpa using hx)
          rw [if_neg hx] at hc
          omega
      rw [← hcc, ← hj]
      have hok2 : QOk quan (⟨t.num, c, true, t.jobs⟩ :: r) := by
        refine ⟨hok.q1, fun x hx => ?_, fun x hx => ?_, fun x hx => ?_, fun x hx => hok.tl x hx, hok.mn⟩
        · rcases List.mem_cons.1 hx with rfl | hx
          · exact hok.ne t (List.mem_cons_self ..)
          · exact hok.ne x (List.mem_cons_of_mem _ hx)
        · rcases List.mem_cons.1 hx with rfl | hx
          · exact ⟨hcb.1, hcb.2, fun h => by cases h⟩
          · exact hok.cr x (List.mem_cons_of_mem _ hx)
        · rcases List.mem_cons.1 hx with rfl | hx
          · exact hok.co t (List.mem_cons_self ..)
          · exact hok.co x (List.mem_cons_of_mem _ hx)
      have hk0 : 0 < ((⟨t.num, c, true, t.jobs⟩ :: r : List QT)[0]'(Nat.zero_lt_succ _)).jobs.length := by
        show 0 < t.jobs.length
        rw [hj]; exact Nat.zero_lt_succ _
      refine ⟨j, _, rfl, ?_, hok2.take (Nat.zero_lt_succ _) hk0⟩
      have := nms_take (ring := ⟨t.num, c, true, t.jobs⟩ :: r) (Nat.zero_lt_succ _) hk0
      have he : ((⟨t.num, c, true, t.jobs⟩ :: r : List QT)[0]'(Nat.zero_lt_succ _)).jobs[0]'hk0 = j := by simp [hj]
      rw [he] at this
      exact this
    · rw [if_neg hc]
      obtain ⟨k1, k2⟩ := hok.rot hj hc
      have hre : rested quan t = ⟨t.num, if t.turn = true then t.cred else t.cred + quan, false, j :: js⟩ := by unfold rested; rw [hj]
      rw [hre] at k1 k2
      rcases nxt_spec f _ k1 (by omega) with ⟨h1, _⟩ | ⟨j', r', h1, h2, h3⟩
      · simp at h1
      · refine ⟨j', r', h1, h2.trans ?_, h3⟩
        have : (r ++ [(⟨t.num, if t.turn = true then t.cred else t.cred + quan, false, j :: js⟩ : QT)]).Perm (⟨t.num, if t.turn = true then t.cred else t.cred + quan, false, j :: js⟩ :: r) := List.perm_append_comm
        refine (nmsQ_perm this).trans ?_
        rw [nmsQ_cons, nmsQ_cons, hj]
end Go.Proofs.Ytjaflkgfipaajaa
end
section
set_option linter.unusedVariables false
set_option linter.unusedSimpArgs false
set_option maxRecDepth 20000
namespace Go.Proofs.Ytjaflkgfipaajaa
open Go Go.Ab
def upd {α : Type} (f : Nat → α) (a : Nat) (x : α) : Nat → α := fun b => if b = a then x else f b
theorem upd_eq {α : Type} {f : Nat → α} {a : Nat} {x : α} : upd f a x a = x := if_pos rfl
theorem upd_ne {α : Type} {f : Nat → α} {a b : Nat} {x : α} (h : b ≠ a) : upd f a x b = f b := if_neg h
def wQ (quan : Int) (got : Nat → Int) (t : QT) : Int := got (t.num.toNat - 1) + t.cred - (if t.turn = true then quan else 0)
structure FI (quan D : Int) (n : Nat) (nm : Nat → List Nm) (got : Nat → Int) (came : Nat → Nat) (ring : List QT) : Prop where
  num : ∀ t ∈ ring, ∃ a, a < n ∧ t.num = ((a + 1 : Nat) : Int)
  nd : (ring.map QT.num).Nodup
  ten : ∀ t ∈ ring, ∀ j ∈ t.jobs, j.ten = t.num
  rem : ∀ a, a < n → (∃ t ∈ ring, t.num = ((a + 1 : Nat) : Int) ∧ t.jobs.map QJ.name = (nm a).drop (came a)) ∨ ((∀ t ∈ ring, t.num ≠ ((a + 1 : Nat) : Int)) ∧ (nm a).length ≤ came a)
  pw : ring.Pairwise fun a b => wQ quan got a ≤ wQ quan got b ∧ wQ quan got b ≤ wQ quan got a + quan
  cr : ∀ t ∈ ring, 0 ≤ t.cred ∧ t.cred ≤ (if t.turn = true then quan + D - 1 else D - 1)
  co : ∀ t ∈ ring, ∀ j ∈ t.jobs, j.cost ≤ D
theorem pw_two {P : QT → QT → Prop} {l : List QT} (h : l.Pairwise P) {a b : QT} (ha : a ∈ l) (hb : b ∈ l) (hne : a ≠ b) : P a b ∨ P b a := by
  obtain ⟨i, hi, rfl⟩ := List.getElem_of_mem ha
  obtain ⟨k, hk, rfl⟩ := List.getElem_of_mem hb
  have hp := List.pairwise_iff_getElem.1 h
  rcases Nat.lt_trichotomy i k with h' | h' | h'
  · exact .inl (hp i k hi hk h')
  · subst h'; exact absurd rfl hne
  · exact .inr (hp k i hk hi h')
theorem FI.fair {quan D : Int} {n : Nat} {nm : Nat → List Nm} {got : Nat → Int} {came : Nat → Nat} {ring : List QT} (h : FI quan D n nm got came ring) (hok : QOk quan ring) {a b : Nat} (ha : a < n) (hb : b < n) (hca : came a < (nm a).length) (hcb : came b < (nm b).length) : got a - got b ≤ quan + D := by
  have hq := hok.q1
  obtain ⟨ta, hta, hna, _⟩ : ∃ t ∈ ring, t.num = ((a + 1 : Nat) : Int) ∧ t.jobs.map QJ.name = (nm a).drop (came a) := by
    rcases h.rem a ha with h' | ⟨_, h'⟩
    · exact h'
    · omega
  obtain ⟨tb, htb, hnb, _⟩ : ∃ t ∈ ring, t.num = ((b + 1 : Nat) : Int) ∧ t.jobs.map QJ.name = (nm b).drop (came b) := by
    rcases h.rem b hb with h' | ⟨_, h'⟩
    · exact h'
    · omega
  have wa : wQ quan got ta = got a + ta.cred - (if ta.turn = true then quan else 0) := by unfold wQ; rw [hna]; rfl
  have wb : wQ quan got tb = got b + tb.cred - (if tb.turn = true then quan else 0) := by unfold wQ; rw [hnb]; rfl
  obtain ⟨ca1, ca2⟩ := h.cr ta hta
  obtain ⟨cb1, cb2⟩ := h.cr tb htb
  have hD : 1 ≤ D := by
    obtain ⟨j, hj⟩ := List.exists_mem_of_ne_nil _ (hok.ne ta hta)
    have := (hok.co ta hta j hj).1
    have := h.co ta hta j hj
    omega
  by_cases hne : ta = tb
  · subst hne
    have : a = b := by rw [hna] at hnb; omega
    subst this; omega
  have hhead : ∀ x y : QT, x ∈ ring → y ∈ ring → x ≠ y → x.turn = true → wQ quan got x ≤ wQ quan got y ∧ wQ quan got y ≤ wQ quan got x + quan ∧ y.turn = false := fun x y hx hy hxy hxt => by
    cases hr : ring with
    | nil => rw [hr] at hx; cases hx
    | cons z r =>
      have htl := hok.tl
      have hpw := h.pw
      rw [hr] at hx hy htl hpw
      have hxz : x = z := by
        rcases List.mem_cons.1 hx with h' | h'
        · exact h'
        · have := htl x h'; rw [hxt] at this; cases this
      have hyr : y ∈ r := by
        rcases List.mem_cons.1 hy with h' | h'
        · exact absurd (hxz.trans h'.symm) hxy
        · exact h'
      have h2 := (List.pairwise_cons.1 hpw).1 y hyr
      rw [← hxz] at h2
      exact ⟨h2.1, h2.2, htl y hyr⟩
  cases htb' : tb.turn with
  | true =>
    obtain ⟨h1, h2, h3⟩ := hhead tb ta htb hta (Ne.symm hne) htb'
    rw [h3] at wa ca2
    rw [htb'] at wb cb2
    simp only [if_true, Bool.false_eq_true, if_false] at wa wb ca2 cb2
    omega
  | false =>
    rw [htb'] at wb cb2
    cases hta' : ta.turn with
    | true =>
      obtain ⟨h1, h2, h3⟩ := hhead ta tb hta htb hne hta'
      rw [hta'] at wa ca2
      simp only [if_true, Bool.false_eq_true, if_false] at wa wb ca2 cb2
      omega
    | false =>
      rw [hta'] at wa ca2
      simp only [Bool.false_eq_true, if_false] at wa wb ca2 cb2
      rcases pw_two h.pw hta htb hne with ⟨h1, h2⟩ | ⟨h1, h2⟩ <;> omega
theorem nd_num {ring : List QT} (h : (ring.map QT.num).Nodup) {x y : QT} (hx : x ∈ ring) (hy : y ∈ ring) (e : x.num = y.num) : x = y := by
  obtain ⟨i, hi, rfl⟩ := List.getElem_of_mem hx
  obtain ⟨k, hk, rfl⟩ := List.getElem_of_mem hy
  have hp := List.pairwise_iff_getElem.1 h
  rcases Nat.lt_trichotomy i k with h' | h' | h'
  · exact absurd (by rw [List.getElem_map, List.getElem_map]; exact e) (hp i k (by simpa using hi) (by simpa using hk) h')
  · subst h'; rfl
  · exact absurd (by rw [List.getElem_map, List.getElem_map]; exact e.symm) (hp k i (by simpa using hk) (by simpa using hi) h')
theorem FI.rot {quan D : Int} {n : Nat} {nm : Nat → List Nm} {got : Nat → Int} {came : Nat → Nat} {t : QT} {r : List QT} {j : QJ} {js : List QJ} (h : FI quan D n nm got came (t :: r)) (hj : t.jobs = j :: js) (hc : ¬ j.cost ≤ (if t.turn = true then t.cred else t.cred + quan)) (hq : 1 ≤ quan) :
    FI quan D n nm got came (r ++ [rested quan t]) := by
  have hmem : ∀ x ∈ r ++ [rested quan t], x ∈ r ∨ x = rested quan t := fun x hx => by
    rcases List.mem_append.1 hx with h' | h'
    · exact .inl h'
    · exact .inr (List.mem_singleton.1 h')
  have htm : t ∈ t :: r := List.mem_cons_self ..
  have hco := h.co t htm j (by rw [hj]; exact List.mem_cons_self ..)
  obtain ⟨cr1, cr2⟩ := h.cr t htm
  refine ⟨fun x hx => ?_, ?_, fun x hx => ?_, fun a ha => ?_, ?_, fun x hx => ?_, fun x hx => ?_⟩
  · rcases hmem x hx with h' | rfl
    · exact h.num x (List.mem_cons_of_mem _ h')
    · exact h.num t htm
  · have := h.nd
    rw [List.map_append]
    exact (List.perm_append_comm (l₁ := [t.num]) (l₂ := r.map QT.num)).nodup_iff.1 this
  · rcases hmem x hx with h' | rfl
    · exact h.ten x (List.mem_cons_of_mem _ h')
    · exact h.ten t htm
  · rcases h.rem a ha with ⟨x, hx, h1, h2⟩ | ⟨h1, h2⟩
    · rcases List.mem_cons.1 hx with rfl | hx
      · exact .inl ⟨rested quan x, List.mem_append_right _ (List.mem_singleton.2 rfl), h1, h2⟩
      · exact .inl ⟨x, List.mem_append_left _ hx, h1, h2⟩
    · refine .inr ⟨fun x hx => ?_, h2⟩
      rcases hmem x hx with h' | rfl
      · exact h1 x (List.mem_cons_of_mem _ h')
      · exact h1 t htm
  · obtain ⟨p1, p2⟩ := List.pairwise_cons.1 h.pw
    refine List.pairwise_append.2 ⟨p2, List.pairwise_singleton .., fun x hx y hy => ?_⟩
    rw [List.mem_singleton.1 hy]
    obtain ⟨q1, q2⟩ := p1 x hx
    have hw : wQ quan got (rested quan t) = wQ quan got t + quan := by
      unfold wQ rested
      simp only
      split <;> simp <;> omega
    rw [hw]
    exact ⟨q2, by omega⟩
  · rcases hmem x hx with h' | rfl
    · exact h.cr x (List.mem_cons_of_mem _ h')
    · show 0 ≤ (if t.turn = true then t.cred else t.cred + quan) ∧ (if t.turn = true then t.cred else t.cred + quan) ≤ D - 1
      split at hc <;> rename_i ht
      · simp only [if_pos ht]; omega
      · simp only [if_neg ht]; omega
  · rcases hmem x hx with h' | rfl
    · exact h.co x (List.mem_cons_of_mem _ h')
    · exact h.co t htm
theorem FI.take {quan D : Int} {n : Nat} {nm : Nat → List Nm} {got : Nat → Int} {came : Nat → Nat} {t : QT} {r : List QT} {j : QJ} {js : List QJ} {c : Int} (h : FI quan D n nm got came (t :: r)) (hj : t.jobs = j :: js) (hcd : c = if t.turn = true then t.cred else t.cred + quan) (hc : j.cost ≤ c) (h1c : 1 ≤ j.cost) (hq : 1 ≤ quan) :
    ∃ a, a < n ∧ j.ten = ((a + 1 : Nat) : Int) ∧ (nm a)[came a]? = some j.name ∧ FI quan D n nm (upd got a (got a + j.cost)) (upd came a (came a + 1)) (takR (⟨t.num, c - j.cost, true, t.jobs⟩ :: r) 0 0) := by
  have htm : t ∈ t :: r := List.mem_cons_self ..
  obtain ⟨a, ha, hna⟩ := h.num t htm
  obtain ⟨cr1, cr2⟩ := h.cr t htm
  have hnd := List.nodup_cons.1 (show (t.num :: r.map QT.num).Nodup from h.nd)
  have hne : ∀ x ∈ r, x.num ≠ t.num := fun x hx e => hnd.1 (e ▸ List.mem_map_of_mem hx)
  have hne' : ∀ x ∈ r, x.num.toNat - 1 ≠ a := fun x hx e => by
    obtain ⟨b, hb, hnb⟩ := h.num x (List.mem_cons_of_mem _ hx)
    rw [hnb] at e
    have : b = a := by omega
    subst this
    exact hne x hx (hnb.trans hna.symm)
  have hrem : t.jobs.map QJ.name = (nm a).drop (came a) := by
    rcases h.rem a ha with ⟨x, hx, h1, h2⟩ | ⟨h1, _⟩
    · have : x = t := nd_num h.nd hx htm (h1.trans hna.symm)
      rw [← this]; exact h2
    · exact absurd hna (h1 t htm)
  rw [hj] at hrem
  have hlt : came a < (nm a).length := by
    rcases Nat.lt_or_ge (came a) (nm a).length with h' | h'
    · exact h'
    · rw [List.drop_of_length_le h'] at hrem; cases hrem
  rw [List.drop_eq_getElem_cons hlt, List.map_cons] at hrem
  obtain ⟨e1, e2⟩ := List.cons.inj hrem
  have htk : takR (⟨t.num, c - j.cost, true, t.jobs⟩ :: r) 0 0 = if js = [] then r else ⟨t.num, c - j.cost, true, js⟩ :: r := by
    unfold takR lessJ
    simp only [List.getElem?_cons_zero, List.eraseIdx_cons_zero, List.set_cons_zero, hj]
  have hwx : ∀ x ∈ r, wQ quan (upd got a (got a + j.cost)) x = wQ quan got x := fun x hx => by unfold wQ; rw [upd_ne (hne' x hx)]
  obtain ⟨p1, p2⟩ := List.pairwise_cons.1 h.pw
  have hco := h.co t htm j (by rw [hj]; exact List.mem_cons_self ..)
  have hcb : 0 ≤ c - j.cost ∧ c - j.cost ≤ quan + D - 1 := by
    rw [hcd] at hc ⊢
    split at hc <;> rename_i ht
    · rw [if_pos ht] at cr2 ⊢; omega
    · rw [if_neg ht] at cr2 ⊢; omega
  refine ⟨a, ha, (h.ten t htm j (by rw [hj]; exact List.mem_cons_self ..)).trans hna, by rw [List.getElem?_eq_getElem hlt, e1], ?_⟩
  rw [htk]
  have hremr : ∀ b, b < n → b ≠ a → (∃ x ∈ r, x.num = ((b + 1 : Nat) : Int) ∧ x.jobs.map QJ.name = (nm b).drop (came b)) ∨ ((∀ x ∈ r, x.num ≠ ((b + 1 : Nat) : Int)) ∧ (nm b).length ≤ came b) := fun b hb hba => by
    rcases h.rem b hb with ⟨x, hx, h1, h2⟩ | ⟨h1, h2⟩
    · rcases List.mem_cons.1 hx with rfl | hx
      · exfalso; rw [hna] at h1; omega
      · exact .inl ⟨x, hx, h1, h2⟩
    · exact .inr ⟨fun x hx => h1 x (List.mem_cons_of_mem _ hx), h2⟩
  have hpr : r.Pairwise fun x y => wQ quan (upd got a (got a + j.cost)) x ≤ wQ quan (upd got a (got a + j.cost)) y ∧ wQ quan (upd got a (got a + j.cost)) y ≤ wQ quan (upd got a (got a + j.cost)) x + quan := by
    refine p2.imp_of_mem fun {x y} hx hy hxy => ?_
    rw [hwx x hx, hwx y hy]; exact hxy
  by_cases hjs : js = []
  · rw [if_pos hjs]
    refine ⟨fun x hx => h.num x (List.mem_cons_of_mem _ hx), hnd.2, fun x hx => h.ten x (List.mem_cons_of_mem _ hx), fun b hb => ?_, hpr, fun x hx => h.cr x (List.mem_cons_of_mem _ hx), fun x hx => h.co x (List.mem_cons_of_mem _ hx)⟩
    by_cases hba : b = a
    · subst hba
      refine .inr ⟨fun x hx => by rw [← hna]; exact hne x hx, ?_⟩
      rw [upd_eq]
      rw [hjs] at e2
      exact List.drop_eq_nil_iff.1 e2.symm
    · rw [upd_ne hba]; exact hremr b hb hba
  · rw [if_neg hjs]
    refine ⟨fun x hx => ?_, h.nd, fun x hx => ?_, fun b hb => ?_, ?_, fun x hx => ?_, fun x hx => ?_⟩
    · rcases List.mem_cons.1 hx with rfl | hx
      · exact ⟨a, ha, hna⟩
      · exact h.num x (List.mem_cons_of_mem _ hx)
    · rcases List.mem_cons.1 hx with rfl | hx
      · intro y hy
        exact h.ten t htm y (by rw [hj]; exact List.mem_cons_of_mem _ hy)
      · exact h.ten x (List.mem_cons_of_mem _ hx)
    · by_cases hba : b = a
      · subst hba
        refine .inl ⟨_, List.mem_cons_self .., hna, ?_⟩
        rw [upd_eq]; exact e2
      · rw [upd_ne hba]
        rcases hremr b hb hba with ⟨x, hx, h1, h2⟩ | ⟨h1, h2⟩
        · exact .inl ⟨x, List.mem_cons_of_mem _ hx, h1, h2⟩
        · refine .inr ⟨fun x hx => ?_, h2⟩
          rcases List.mem_cons.1 hx with rfl | hx
          · show t.num ≠ _; rw [hna]; omega
          · exact h1 x hx
    · refine List.pairwise_cons.2 ⟨fun x hx => ?_, hpr⟩
      rw [hwx x hx]
      have hw : wQ quan (upd got a (got a + j.cost)) ⟨t.num, c - j.cost, true, js⟩ = wQ quan got t := by
        unfold wQ
        simp only [if_true]
        rw [hna]
        show upd got a (got a + j.cost) a + _ - _ = got a + _ - _
        rw [upd_eq, hcd]
        split <;> omega
      rw [hw]
      exact p1 x hx
    · rcases List.mem_cons.1 hx with rfl | hx
      · exact hcb
      · exact h.cr x (List.mem_cons_of_mem _ hx)
    · rcases List.mem_cons.1 hx with rfl | hx
      · intro y hy
        exact h.co t htm y (by rw [hj]; exact List.mem_cons_of_mem _ hy)
      · exact h.co x (List.mem_cons_of_mem _ hx)
theorem FI.next {quan D : Int} {n : Nat} {nm : Nat → List Nm} {got : Nat → Int} {came : Nat → Nat} : ∀ (f : Nat) (ring : List QT), FI quan D n nm got came ring → QOk quan ring → mQ ring < f → ring ≠ [] →
    ∃ j r' a, nxtF f quan ring = (some j, r') ∧ a < n ∧ j.ten = ((a + 1 : Nat) : Int) ∧ (nm a)[came a]? = some j.name ∧ 1 ≤ j.cost ∧ j.cost ≤ 1000 ∧ FI quan D n nm (upd got a (got a + j.cost)) (upd came a (came a + 1)) r'
  | 0, _, _, _, h, _ => by omega
  | f + 1, [], _, _, _, h => absurd rfl h
  | f + 1, t :: r, h, hok, hm, _ => by
    obtain ⟨j, js, hj⟩ : ∃ j js, t.jobs = j :: js := by
      cases hh : t.jobs with
      | nil => exact absurd hh (hok.ne t (List.mem_cons_self ..))
      | cons j js => exact ⟨j, js, rfl⟩
    obtain ⟨d1, d2⟩ := hok.co t (List.mem_cons_self ..) j (by rw [hj]; exact List.mem_cons_self ..)
    have hq := hok.q1
    rw [nxtF]
    simp only [hj]
    by_cases hc : j.cost ≤ (if t.turn = true then t.cred else t.cred + quan)
    · rw [if_pos hc, ← hj]
      obtain ⟨a, h1, h2, h3, h4⟩ := h.take hj rfl hc d1 hq.1
      exact ⟨j, _, a, rfl, h1, h2, h3, d1, d2, h4⟩
    · rw [if_neg hc]
      obtain ⟨k1, k2⟩ := hok.rot hj hc
      have hr := h.rot hj hc hq.1
      have hre : rested quan t = ⟨t.num, if t.turn = true then t.cred else t.cred + quan, false, j :: js⟩ := by unfold rested; rw [hj]
      rw [hre] at k1 k2 hr
      exact FI.next f _ hr k1 (by omega) (by simp)
end Go.Proofs.Ytjaflkgfipaajaa
end
section
set_option linter.unusedVariables false
set_option linter.unusedSimpArgs false
namespace Go.Ab
open Go Go.WideShapes
def laidB (P : Program) : List Field → Nat → Option Nat
  | [], o => some o
  | f :: r, o => match Nat.beq f.offset o with
    | true => laidB P r (o + P.cellsOf f.type)
    | false => none
mutual
def plainB (P : Program) : Nat → TypeId → Bool
  | 0, _ => false
  | n + 1, t => match P.underlying t with
    | some .bool => Nat.beq (P.cellsOf t) 1
    | some (.int _) => Nat.beq (P.cellsOf t) 1
    | some .string => Nat.beq (P.cellsOf t) 1
    | some (.slice e) => match Nat.beq (P.cellsOf t) 1, Nat.beq (P.cellsOf e) 0 with
      | true, false => plainB P n e
      | _, _ => false
    | some (.struct fs) => match laidB P fs.toList 0 with
      | some m => match Nat.beq (P.cellsOf t) m with
        | true => plainAll P n fs.toList
        | false => false
      | none => false
    | _ => false
def plainAll (P : Program) : Nat → List Field → Bool
  | 0, _ => false
  | n + 1, fs => match fs with
    | [] => true
    | f :: r => match plainB P n f.type with
      | true => plainAll P n r
      | false => false
end
inductive RdD (P : Program) {H : Type} : TypeId → DataW H → AV → Prop
  | bool {t b} (ht : P.underlying t = some .bool) : RdD P t (.lit (.bool b)) (.bool b)
  | int {t k n} (ht : P.underlying t = some (.int k)) (hw : (Lit.int k n).wf = true) : RdD P t (.lit (.int k n)) (.int k n)
  | str {t s} (ht : P.underlying t = some .string) (hs : s.length ≤ maxLen) : RdD P t (.lit (.string s)) (.str s)
  | nils {t e} (ht : P.underlying t = some (.slice e)) : RdD P t .nil (.sl true false (P.cellsOf e) [])
  | sl {t e} {ds rest : List (DataW H)} {xs : List AV} (ht : P.underlying t = some (.slice e)) (hl : xs.length = ds.length) (hm : xs.length ≤ maxLen) (h : ∀ i (h1 : i < ds.length) (h2 : i < xs.length), RdD P e ds[i] xs[i]) : RdD P t (.slice ds rest) (.sl true false (P.cellsOf e) xs)
  | st {t} {fs : Array Field} {ds : List (DataW H)} {xs : List AV} (ht : P.underlying t = some (.struct fs)) (hd : ds.length = fs.size) (hx : xs.length = fs.size) (h : ∀ i (h1 : i < ds.length) (h2 : i < xs.length) (h3 : i < fs.size), RdD P fs[i].type ds[i] xs[i]) : RdD P t (.agg ds) (.agg (xs.flatMap AV.cells))
def CellsV (w : World) (cs : List Value) (az : List AV) : Prop := cs.length = az.length ∧ ∀ i (h1 : i < cs.length) (h2 : i < az.length), VRel (Rl.old w) w cs[i] az[i]
theorem CellsV.one {w : World} {v : Value} {a : AV} (h : VRel (Rl.old w) w v a) : CellsV w [v] [a] := by
  refine ⟨rfl, fun i h1 h2 => ?_⟩
  obtain rfl : i = 0 := by simpa using h1
  exact h
theorem laidB_flat {P : Program} : ∀ (fs : List Field) (o m : Nat) (w : World) (cs : List Value) (xs : List AV), laidB P fs o = some m → xs.length = fs.length → (∀ i (h1 : i < fs.length) (h2 : i < xs.length), CellsV w ((cs.drop fs[i].offset).take (P.cellsOf fs[i].type)) xs[i].cells ∧ xs[i].cells.length = P.cellsOf fs[i].type) →
    cs.length = m → o ≤ m ∧ CellsV w (cs.drop o) (xs.flatMap AV.cells)
  | [], o, m, w, cs, xs, h, hl, hc, hm => by
    simp only [laidB, Option.some.injEq] at h
    obtain rfl : xs = [] := List.eq_nil_of_length_eq_zero hl
    subst h
    refine ⟨Nat.le_refl _, ?_⟩
    rw [List.drop_of_length_le (by omega)]
    exact ⟨rfl, fun i h => absurd h (by simp)⟩
  | f :: r, o, m, w, cs, xs, h, hl, hc, hm => by
    rw [laidB] at h
    split at h
    case h_2 => cases h
    rename_i hb
    have ho := Nat.eq_of_beq_eq_true hb
    obtain ⟨x, xs, rfl⟩ : ∃ x xs', xs = x :: xs' := by
      cases xs with
      | nil => simp at hl
      | cons x xs => exact ⟨x, xs, rfl⟩
    have h0 := hc 0 (by simp) (by simp)
    simp only [List.getElem_cons_zero] at h0
    obtain ⟨h1, h2⟩ := laidB_flat r (o + P.cellsOf f.type) m w cs xs h (by simpa using hl) (fun i k1 k2 => hc (i + 1) (Nat.succ_lt_succ k1) (Nat.succ_lt_succ k2)) hm
    refine ⟨by omega, ?_⟩
    obtain ⟨⟨e1, e2⟩, e3⟩ := h0
    rw [ho] at e1 e2
    rw [List.flatMap_cons]
    have hsplit : cs.drop o = (cs.drop o).take (P.cellsOf f.type) ++ cs.drop (o + P.cellsOf f.type) := by
      rw [← List.drop_drop, List.take_append_drop]
    rw [hsplit]
    refine ⟨by rw [List.length_append, List.length_append, e1, h2.1], fun i k1 k2 => ?_⟩
    by_cases hi : i < x.cells.length
    · rw [List.getElem_append_left (by omega), List.getElem_append_left hi]
      exact e2 i (by omega) hi
    · rw [List.getElem_append_right (by omega), List.getElem_append_right (by omega)]
      have : i - ((cs.drop o).take (P.cellsOf f.type)).length = i - x.cells.length := by omega
      simp only [this]
      exact h2.2 _ _ _
theorem read_cells {H : Type} {enc : TypeId × Value → H} {P : Program} {W : World} : ∀ (fuel n : Nat) (t : TypeId) (cs : List Value) (d : DataW H) (ps : List MemPlace), DataW.trod enc P W 0 (fun _ => true) true fuel t cs = some (d, ps) → plainB P n t = true →
    ∃ a, RdD P t d a ∧ a.cells.length = P.cellsOf t ∧ CellsV W cs a.cells ∧ (∀ v, (∃ xs, v = .agg xs ∧ xs.toList = cs ∧ aggT P t = some true) ∨ ([v] = cs ∧ aggT P t = some false) → VRel (Rl.old W) W v a) := by
  intro fuel
  induction fuel with
  | zero => intro n t cs d ps h _; simp [DataW.trod] at h
  | succ fuel ih =>
    intro n t cs d ps h hp
    have hall : ∀ (n : Nat) (fs : List Field), plainAll P n fs = true → ∀ i (hi : i < fs.length), ∃ m, plainB P m fs[i].type = true := by
      intro n
      induction n with
      | zero => intro fs h; simp [plainAll] at h
      | succ n ihn =>
        intro fs h i hi
        cases fs with
        | nil => simp at hi
        | cons f r =>
          rw [plainAll] at h
          split at h
          · rename_i hb
            cases i with
            | zero => exact ⟨n, hb⟩
            | succ i => exact ihn r h i (by simpa using hi)
          · cases h
    cases n with
    | zero => simp [plainB] at hp
    | succ n =>
      rw [plainB] at hp
      split at hp
      ·
        rename_i ht
        obtain ⟨b, rfl, hx⟩ := DataW.trod_bool ht h
        cases hx
        refine ⟨.bool b, .bool ht, (Nat.eq_of_beq_eq_true hp).symm, .one .bool, ?_⟩
        rintro v (⟨xs, rfl, h1, h2⟩ | ⟨h1, h2⟩)
        · simp [aggT, ht] at h2
        · cases h1; exact .bool
      · rename_i k ht
        obtain ⟨m, rfl, hx, hw⟩ := DataW.trod_int ht h
        cases hx
        refine ⟨.int _ m, .int ht hw, (Nat.eq_of_beq_eq_true hp).symm, .one .int, ?_⟩
        rintro v (⟨xs, rfl, h1, h2⟩ | ⟨h1, h2⟩)
        · simp [aggT, ht] at h2
        · cases h1; exact .int
      · rename_i ht
        obtain ⟨s, rfl, hx, hw⟩ := DataW.trod_string ht h
        cases hx
        refine ⟨.str s.data.toList, .str ht (by rw [Array.length_toList]; exact hw), (Nat.eq_of_beq_eq_true hp).symm, .one (.str rfl), ?_⟩
        rintro v (⟨xs, rfl, h1, h2⟩ | ⟨h1, h2⟩)
        · simp [aggT, ht] at h2
        · cases h1; exact .str rfl
      ·
        rename_i e ht
        split at hp
        case h_2 => cases hp
        rename_i hc1 hc0
        have hc1 := Nat.eq_of_beq_eq_true hc1
        have hpos : 0 < P.cellsOf e := by
          rcases Nat.eq_zero_or_pos (P.cellsOf e) with h0 | h0
          · rw [h0] at hc0; cases hc0
          · exact h0
        rcases DataW.trod_slice ht h with ⟨rfl, hx⟩ | ⟨a, len, cap, elems, rest, fu, hfu, rfl, hx, _, hl, hm, hlen, hel, hsp, hns⟩
        · cases hx
          refine ⟨_, .nils ht, hc1.symm, .one (.sl0 (fun h => by cases h)), ?_⟩
          rintro v (⟨xs, rfl, h1, h2⟩ | ⟨h1, h2⟩)
          · simp [aggT, ht] at h2
          · cases h1; exact .sl0 (fun h => by cases h)
        · cases hx
          obtain rfl : fuel = fu := by omega
          have each : ∀ i (hi : i < elems.length), ∃ x, RdD P e (elems[i]).1 x ∧ x.cells.length = P.cellsOf e ∧ ∃ ecs : List Value, W.cells? 0 (a.add (i * P.cellsOf e)) (P.cellsOf e) = some ecs ∧ CellsV W ecs x.cells := by
            intro i hi
            have h1 := hel i (by omega)
            rw [List.getElem?_eq_getElem hi, Option.bind_eq_some_iff] at h1
            obtain ⟨ecs, h2, h3⟩ := h1
            obtain ⟨x, k1, k2, k3, _⟩ := ih n e ecs (elems[i]).1 (elems[i]).2 h3 hp
            exact ⟨x, k1, k2, ecs, h2, k3⟩
          have : ∃ xs : List AV, xs.length = elems.length ∧ ∀ i (hi : i < elems.length) (hx : i < xs.length), RdD P e (elems[i]).1 xs[i] ∧ xs[i].cells.length = P.cellsOf e ∧ ∃ ecs : List Value, W.cells? 0 (a.add (i * P.cellsOf e)) (P.cellsOf e) = some ecs ∧ CellsV W ecs xs[i].cells := by
            refine ⟨(List.finRange elems.length).map fun i => Classical.choose (each i.1 i.2), by simp, fun i hi hx => ?_⟩
            simp only [List.getElem_map, List.getElem_finRange]
            exact Classical.choose_spec (each i hi)
          obtain ⟨xs, hxl, hxs⟩ := this
          have hv : VRel (Rl.old W) W (.slice (some a) len cap) (.sl true false (P.cellsOf e) xs) := by
            rcases Nat.eq_zero_or_pos len with h0 | h0
            · subst h0
              obtain rfl : xs = [] := List.eq_nil_of_length_eq_zero (by omega)
              exact .sl0 (fun h => by cases h)
            · obtain ⟨b, o, sp⟩ := a
              obtain ⟨_, _, ecs0, hc, _⟩ := hxs 0 (by omega) (by omega)
              obtain ⟨_, hcl, hcc⟩ := World.cells?_some hc
              have hcell0 := hcc 0 hpos
              rw [List.getElem?_eq_getElem (by omega)] at hcell0
              have hsp : sp = none := by
                cases sp with
                | none => rfl
                | some s =>
                  simp [Addr.add, World.cell?] at hcell0
                  split at hcell0 <;> cases hcell0
              subst hsp
              have hb : b < W.heap.size := by
                rw [Addr.add_lit] at hcell0
                rcases Nat.lt_or_ge b W.heap.size with h | h
                · exact h
                · simp [World.cell?, Addr.add, Array.getElem?_eq_none h] at hcell0
              have hcel : ∀ i, i < xs.length → ∀ j, j < P.cellsOf e → ∃ v, W.cell? ⟨b, o + i * P.cellsOf e + j, none⟩ = some v ∧ ∀ (hi : i < xs.length) (hj : j < (AV.cells xs[i]).length), VRel (Rl.old W) W v (AV.cells xs[i])[j] := by
                intro i hi j hj
                obtain ⟨_, hxc, ecs, hc, hcv⟩ := hxs i (by omega) hi
                obtain ⟨_, hcl, hcc⟩ := World.cells?_some hc
                have h1 := hcc j hj
                rw [List.getElem?_eq_getElem (by omega)] at h1
                rw [Addr.add_lit, Addr.add_lit] at h1
                refine ⟨ecs[j], h1, fun _ hj' => hcv.2 j _ hj'⟩
              refine .sl (by omega) hl (fun h => by cases h) hb (fun _ => hb) (fun x hx => ?_) (fun i j => (W.cell? ⟨b, o + i * P.cellsOf e + j, none⟩).getD undef) (fun i hi j hj => ?_) (fun i hi j hj => ?_)
              · obtain ⟨i, hi, rfl⟩ := List.getElem_of_mem hx
                exact (hxs i (by omega) hi).2.1
              · obtain ⟨v, h1, _⟩ := hcel i hi j hj
                rw [h1]; rfl
              · obtain ⟨v, h1, h2⟩ := hcel i hi j (by rw [(hxs i (by omega) hi).2.1] at hj; exact hj)
                rw [h1]
                exact h2 hi hj
          refine ⟨.sl true false (P.cellsOf e) xs, .sl ht (by simp [hxl]) (by omega) (fun i h1 h2 => by simpa using (hxs i (by simpa using h1) h2).1), hc1.symm, .one hv, ?_⟩
          rintro v (⟨ys, rfl, h1, h2⟩ | ⟨h1, h2⟩)
          · simp [aggT, ht] at h2
          · cases h1; exact hv
      ·
        rename_i fs ht
        split at hp
        case h_2 => cases hp
        rename_i m hm
        split at hp
        case h_2 => cases hp
        rename_i hcm
        have hcm := Nat.eq_of_beq_eq_true hcm
        obtain ⟨ys, fu, hfu, hx, hl, hyl, hy⟩ := DataW.trod_struct ht h
        obtain rfl : fuel = fu := by omega
        cases hx
        have each : ∀ i (hi : i < fs.toList.length) (hi' : i < ys.length), ∃ x, RdD P (fs.toList[i]).type (ys[i]).1 x ∧ x.cells.length = P.cellsOf (fs.toList[i]).type ∧ CellsV W ((cs.drop (fs.toList[i]).offset).take (P.cellsOf (fs.toList[i]).type)) x.cells := by
          intro i hi hi'
          have h1 := hy i (fs.toList[i]) (by simp at hi; simp [hi])
          rw [List.getElem?_eq_getElem hi'] at h1
          obtain ⟨k, hk⟩ := hall n fs.toList hp i hi
          obtain ⟨x, k1, k2, k3, _⟩ := ih k _ _ (ys[i]).1 (ys[i]).2 h1 hk
          exact ⟨x, k1, k2, k3⟩
        have hfl : fs.toList.length = ys.length := by simp [hyl]
        have : ∃ xs : List AV, xs.length = fs.toList.length ∧ ∀ i (hi : i < fs.toList.length) (hi' : i < ys.length) (hx : i < xs.length), RdD P (fs.toList[i]).type (ys[i]).1 xs[i] ∧ xs[i].cells.length = P.cellsOf (fs.toList[i]).type ∧ CellsV W ((cs.drop (fs.toList[i]).offset).take (P.cellsOf (fs.toList[i]).type)) xs[i].cells := by
          refine ⟨(List.finRange fs.toList.length).map fun i => Classical.choose (each i.1 i.2 (by omega)), by simp, fun i hi hi' hx => ?_⟩
          simp only [List.getElem_map, List.getElem_finRange]
          exact Classical.choose_spec (each i hi hi')
        obtain ⟨xs, hxl, hxs⟩ := this
        obtain ⟨_, hcv⟩ := laidB_flat fs.toList 0 m W cs xs hm hxl (fun i h1 h2 => ⟨(hxs i h1 (by omega) h2).2.2, (hxs i h1 (by omega) h2).2.1⟩) (by omega)
        rw [List.drop_zero] at hcv
        refine ⟨.agg (xs.flatMap AV.cells), .st ht (by simp [hyl]) (by simpa using hxl) (fun i h1 h2 h3 => by
          have := (hxs i (by simpa using h3) (by simpa using h1) h2).1
          simp only [Array.getElem_toList, List.getElem_map] at this ⊢
          exact this), by show (xs.flatMap AV.cells).length = _; rw [← hcv.1]; omega, hcv, ?_⟩
        rintro v (⟨zs, rfl, h1, h2⟩ | ⟨h1, h2⟩)
        · refine .agg (by rw [← hcv.1, ← h1]; simp) (fun i hi => ?_)
          have h3 : i < cs.length := by rw [hcv.1]; exact hi
          have := hcv.2 i h3 hi
          subst h1
          rw [Array.getD_eq_getD_getElem?, Array.getElem?_eq_getElem (by simpa using h3)]
          simpa using this
        · simp [aggT, ht] at h2
      · cases hp
theorem read_plain {H : Type} {enc : TypeId × Value → H} {P : Program} {W : World} {r : Reach} {base : Nat} {n : Nat} {t : TypeId} {v : Value} {d : DataW H} {ps : List MemPlace} (hp : plainB P n t = true) (hv : Value.okWide P W r base t v)
    (h : DataW.Trod enc P W 0 (fun _ => true) true t v d ps) : ∃ a, VRel (Rl.old W) W v a ∧ RdD P t d a := by
  obtain ⟨fuel, hf⟩ := h
  obtain ⟨a, h1, _, _, h2⟩ := read_cells fuel n t _ d ps hf hp
  refine ⟨a, h2 v ?_, h1⟩
  cases n with
  | zero => simp [plainB] at hp
  | succ n =>
    rw [plainB] at hp
    split at hp
    · rename_i ht
      obtain ⟨b, rfl⟩ := okWide_bool ht hv
      exact .inr ⟨rfl, by simp [aggT, ht]⟩
    · rename_i k ht
      obtain ⟨b, rfl⟩ := okWide_int ht hv
      exact .inr ⟨rfl, by simp [aggT, ht]⟩
    · rename_i ht
      obtain ⟨b, rfl⟩ := okWide_string ht hv
      exact .inr ⟨rfl, by simp [aggT, ht]⟩
    · rename_i e ht
      obtain ⟨a, len, cap, rfl⟩ := okWide_slice ht hv
      exact .inr ⟨rfl, by simp [aggT, ht]⟩
    · rename_i fs ht
      obtain ⟨cs, rfl, _⟩ := okWide_struct ht hv
      exact .inl ⟨cs, rfl, rfl, by simp [aggT, ht]⟩
    · cases hp
def RdDAll (P : Program) {H : Type} : List Field → List (DataW H) → List AV → Prop
  | [], [], [] => True
  | f :: fs, d :: ds, x :: xs => RdD P f.type d x ∧ RdDAll P fs ds xs
  | _, _, _ => False
theorem RdDAll.cons {P : Program} {H : Type} {f : Field} {fs : List Field} {ds : List (DataW H)} {xs : List AV} (h : RdDAll P (f :: fs) ds xs) : ∃ d ds' x xs', ds = d :: ds' ∧ xs = x :: xs' ∧ RdD P f.type d x ∧ RdDAll P fs ds' xs' := by
  match ds, xs, h with
  | d :: ds', x :: xs', ⟨h1, h2⟩ => exact ⟨d, ds', x, xs', rfl, rfl, h1, h2⟩
theorem RdDAll.nil {P : Program} {H : Type} {ds : List (DataW H)} {xs : List AV} (h : RdDAll P [] ds xs) : ds = [] ∧ xs = [] := by
  match ds, xs, h with
  | [], [], _ => exact ⟨rfl, rfl⟩
section
variable {P : Program} {H : Type} {t : TypeId} {d : DataW H} {a : AV}
theorem RdD.inv_int {k : IntKind} (h : RdD P t d a) (ht : P.underlying t = some (.int k)) : ∃ n, d = .lit (.int k n) ∧ a = .int k n ∧ (Lit.int k n).wf = true := by
  cases h with
  | int ht' hs => rw [ht] at ht'; cases ht'; exact ⟨_, rfl, rfl, hs⟩
  | bool ht' => rw [ht] at ht'; cases ht'
  | str ht' => rw [ht] at ht'; cases ht'
  | nils ht' => rw [ht] at ht'; cases ht'
  | sl ht' => rw [ht] at ht'; cases ht'
  | st ht' => rw [ht] at ht'; cases ht'
theorem RdD.inv_sl {e : TypeId} (h : RdD P t d a) (ht : P.underlying t = some (.slice e)) :
    ∃ (ds : List (DataW H)) (xs : List AV), a = .sl true false (P.cellsOf e) xs ∧ xs.length = ds.length ∧ xs.length ≤ maxLen ∧ (∀ i (h1 : i < ds.length) (h2 : i < xs.length), RdD P e ds[i] xs[i]) ∧ ((d = .nil ∧ ds = []) ∨ ∃ rest, d = .slice ds rest) := by
  cases h with
  | nils ht' => rw [ht] at ht'; cases ht'; exact ⟨[], [], rfl, rfl, Nat.zero_le _, fun i h => absurd h (by simp), .inl ⟨rfl, rfl⟩⟩
  | sl ht' hl hm h => rw [ht] at ht'; cases ht'; exact ⟨_, _, rfl, hl, hm, h, .inr ⟨_, rfl⟩⟩
  | bool ht' => rw [ht] at ht'; cases ht'
  | int ht' => rw [ht] at ht'; cases ht'
  | str ht' => rw [ht] at ht'; cases ht'
  | st ht' => rw [ht] at ht'; cases ht'
theorem RdD.each {α : Type} {e : TypeId} (f : α → AV) (g : α → DataW H → Prop) {ds : List (DataW H)} {xs : List AV} (hl : xs.length = ds.length) (h : ∀ i (h1 : i < ds.length) (h2 : i < xs.length), RdD P e ds[i] xs[i])
    (hf : ∀ d x, RdD P e d x → ∃ y, x = f y ∧ g y d) : ∃ ys : List α, xs = ys.map f ∧ ys.length = ds.length ∧ ∀ i (h1 : i < ds.length) (h2 : i < ys.length), g ys[i] ds[i] := by
  induction xs generalizing ds with
  | nil =>
    obtain rfl : ds = [] := List.eq_nil_of_length_eq_zero (by simpa using hl.symm)
    exact ⟨[], rfl, rfl, fun i h => absurd h (by simp)⟩
  | cons x xs ih =>
    cases ds with
    | nil => simp at hl
    | cons d ds =>
      obtain ⟨y, hy, hg⟩ := hf d x (h 0 (by simp) (by simp))
      obtain ⟨ys, h1, h2, h3⟩ := ih (ds := ds) (by simpa using hl) (fun i k1 k2 => h (i + 1) (Nat.succ_lt_succ k1) (Nat.succ_lt_succ k2))
      refine ⟨y :: ys, by rw [hy, h1]; rfl, by simp [h2], fun i k1 k2 => ?_⟩
      cases i with
      | zero => exact hg
      | succ i => exact h3 i (Nat.lt_of_succ_lt_succ k1) (Nat.lt_of_succ_lt_succ k2)
end
end Go.Ab
end
section
set_option linter.unusedVariables false
set_option linter.unusedSimpArgs false
namespace Go.Ab
open Go Go.WideShapes
mutual
def avB : AV → Nat
  | .str s => s.length
  | .sl _ _ _ xs => avS xs
  | .agg cs => avC cs
  | _ => 0
def avS : List AV → Nat
  | [] => 0
  | x :: r => avB x + 1 + avS r
def avC : List AV → Nat
  | [] => 0
  | x :: r => avB x + avC r
end
theorem avC_append (a b : List AV) : avC (a ++ b) = avC a + avC b := by
  induction a with
  | nil => simp [avC]
  | cons x a ih => simp only [List.cons_append, avC, ih]; omega
theorem avC_cells (x : AV) : avC x.cells ≤ avB x := by
  cases x <;> simp [AV.cells, avC, avB]
theorem avC_flat (xs : List AV) : avC (xs.flatMap AV.cells) ≤ avC xs := by
  induction xs with
  | nil => simp
  | cons x xs ih =>
    have := avC_cells x
    simp only [List.flatMap_cons, avC_append, avC]; omega
theorem avC_le_avS (xs : List AV) : avC xs ≤ avS xs := by
  induction xs with
  | nil => simp [avC, avS]
  | cons x xs ih => simp only [avC, avS]; omega
theorem avS_mem {x : AV} : ∀ {xs : List AV}, x ∈ xs → avB x + 1 ≤ avS xs
  | y :: ys, h => by
    rcases List.mem_cons.1 h with rfl | h
    · simp only [avS]; omega
    · have := avS_mem h; simp only [avS]; omega
theorem avS_len : ∀ xs : List AV, xs.length ≤ avS xs
  | [] => Nat.zero_le _
  | x :: xs => by have := avS_len xs; simp only [avS, List.length_cons]; omega
theorem bulk_all {P : Program} {H : Type} {B : DataW H → Nat} {BA : List (DataW H) → Nat} (hn : BA [] = 0) (hc : ∀ d r, BA (d :: r) = B d + BA r) : ∀ {ds : List (DataW H)} {xs : List AV}, xs.length = ds.length →
    (∀ i (h1 : i < ds.length) (h2 : i < xs.length), avB xs[i] + 1 ≤ B ds[i]) → avS xs ≤ BA ds
  | [], xs, hl, h => by
    obtain rfl : xs = [] := List.eq_nil_of_length_eq_zero (by simpa using hl)
    simp [avS]
  | d :: ds, xs, hl, h => by
    cases xs with
    | nil => simp at hl
    | cons x xs =>
      have h0 := h 0 (by simp) (by simp)
      have := bulk_all (P := P) (B := B) hn hc (ds := ds) (xs := xs) (by simpa using hl) (fun i h1 h2 => h (i + 1) (Nat.succ_lt_succ h1) (Nat.succ_lt_succ h2))
      simp only [avS, hc]
      simp only [List.getElem_cons_zero] at h0
      omega
theorem RdD.bulk {P : Program} {H : Type} {B : DataW H → Nat} {BA : List (DataW H) → Nat} (hn : BA [] = 0) (hc : ∀ d r, BA (d :: r) = B d + BA r) (h1 : ∀ d, 1 ≤ B d) (hs : ∀ s, B (.lit (.string s)) = s.length + 1)
    (hsl : ∀ a b, B (.slice a b) = BA a + BA b + 1) (hag : ∀ a, B (.agg a) = BA a + 1) {t : TypeId} {d : DataW H} {a : AV} (h : RdD P t d a) : avB a + 1 ≤ B d := by
  induction h with
  | bool => simpa [avB] using h1 _
  | int => simpa [avB] using h1 _
  | str => simp [avB, hs]
  | nils => simpa [avB, avS] using h1 _
  | sl ht hl hm h ih =>
    have := bulk_all (P := P) (B := B) hn hc hl ih
    rw [hsl]; simp only [avB]; omega
  | st ht hd hx h ih =>
    have := bulk_all (P := P) (B := B) hn hc (by omega) (fun i a b => ih i a b (by omega))
    rw [hag]; simp only [avB]
    rename_i t fs ds xs
    have k1 := avC_flat xs
    have k2 := avC_le_avS xs
    omega
end Go.Ab
end
section
set_option linter.unusedVariables false
set_option linter.unusedSimpArgs false
set_option maxRecDepth 20000
namespace Go.Proofs.Ytjaflkgfipaajaa
open Go Go.Ab
def zints (l : List Int) : List AV := l.map fun z => .int .i64 z
theorem zints_len (l : List Int) : (zints l).length = l.length := by simp [zints]
def IsI64 (z : Int) : Prop := -9223372036854775808 ≤ z ∧ z ≤ 9223372036854775807
theorem open_z {H : Type} {d : DataW H} {a : AV} (h : RdD Try.prog 30 d a) : ∃ l : List Int, a = .sl true false 1 (zints l) ∧ ∀ z ∈ l, IsI64 z := by
  obtain ⟨ds, xs, rfl, hl, hm, hall, _⟩ := h.inv_sl Try.underlying30
  obtain ⟨ys, rfl, hy, hg⟩ := RdD.each (fun z : Int => AV.int .i64 z) (fun z _ => IsI64 z) hl hall (fun d x h => by
    obtain ⟨z, rfl, rfl, hw⟩ := h.inv_int Try.underlying3
    exact ⟨z, rfl, by simpa [IsI64, Lit.wf, IntKind.min, IntKind.max, IntKind.signed, IntKind.bits] using hw⟩)
  have hc : Try.prog.cellsOf 3 = 1 := by kernel_rfl
  exact ⟨ys, by rw [hc]; rfl, fun z hz => by
    obtain ⟨i, hi, rfl⟩ := List.getElem_of_mem hz
    exact hg i (by omega) hi⟩
end Go.Proofs.Ytjaflkgfipaajaa
end
section
set_option linter.unusedVariables false
set_option linter.unusedSimpArgs false
set_option maxRecDepth 20000
namespace Go.Proofs.Ytjaflkgfipaajaa
open Go Go.Ab
def rowF (costs : List (List Int)) (a : Nat) : List Int := costs.getD a []
def fJ (costs : List (List Int)) (a k : Nat) : QJ := ⟨((a + 1 : Nat) : Int), nmJ (100 * a + k), ((1 + chooseN ((rowF costs a).getD k 0) 1000 : Nat) : Int)⟩
def jobsF (costs : List (List Int)) (a m : Nat) : List QJ := (List.range m).map (fJ costs a)
def kF (costs : List (List Int)) (a : Nat) : Nat := min (rowF costs a).length 20
def ptF (costs : List (List Int)) (a m : Nat) : List QT := if m = 0 then [] else [⟨((a + 1 : Nat) : Int), 0, false, jobsF costs a m⟩]
def rgF (costs : List (List Int)) : Nat → List QT
  | 0 => []
  | t + 1 => rgF costs t ++ ptF costs t (kF costs t)
theorem jobsF_len (costs : List (List Int)) (a m : Nat) : (jobsF costs a m).length = m := by simp [jobsF]
theorem jobsF_snoc (costs : List (List Int)) (a m : Nat) : jobsF costs a (m + 1) = jobsF costs a m ++ [fJ costs a m] := by unfold jobsF; rw [List.range_succ, List.map_append]; rfl
theorem ptF_mem {costs : List (List Int)} {a m : Nat} {t : QT} (h : t ∈ ptF costs a m) : 0 < m ∧ t = ⟨((a + 1 : Nat) : Int), 0, false, jobsF costs a m⟩ := by
  unfold ptF at h
  split at h
  · cases h
  · exact ⟨by omega, List.mem_singleton.1 h⟩
theorem rgF_mem {costs : List (List Int)} : ∀ {t : Nat} {x : QT}, x ∈ rgF costs t → ∃ a, a < t ∧ 0 < kF costs a ∧ x = ⟨((a + 1 : Nat) : Int), 0, false, jobsF costs a (kF costs a)⟩
  | t + 1, x, h => by
    rcases List.mem_append.1 (show x ∈ rgF costs t ++ ptF costs t (kF costs t) from h) with h | h
    · obtain ⟨a, h1, h2, h3⟩ := rgF_mem h
      exact ⟨a, by omega, h2, h3⟩
    · obtain ⟨h1, h2⟩ := ptF_mem h
      exact ⟨t, by omega, h1, h2⟩
theorem rgF_has {costs : List (List Int)} : ∀ {t a : Nat}, a < t → 0 < kF costs a → (⟨((a + 1 : Nat) : Int), 0, false, jobsF costs a (kF costs a)⟩ : QT) ∈ rgF costs t
  | t + 1, a, h, hk => by
    show _ ∈ rgF costs t ++ ptF costs t (kF costs t)
    rcases Nat.lt_or_ge a t with h' | h'
    · exact List.mem_append_left _ (rgF_has h' hk)
    · obtain rfl : a = t := by omega
      refine List.mem_append_right _ ?_
      unfold ptF
      rw [if_neg (by omega)]
      exact List.mem_singleton.2 rfl
theorem addJ_app {A B : List QT} {j : QJ} (h : ∀ x ∈ A, x.num ≠ j.ten) : addJ (A ++ B) j = A ++ addJ B j := by
  induction A with
  | nil => rfl
  | cons x r ih =>
    rw [List.cons_append, addJ, if_neg (by simpa using h x (List.mem_cons_self ..)), ih fun y hy => h y (List.mem_cons_of_mem _ hy)]
    rfl
def rnF (costs : List (List Int)) (t k : Nat) : List QT := rgF costs t ++ ptF costs t k
theorem rnF_add (costs : List (List Int)) (t k : Nat) : addJ (rnF costs t k) (fJ costs t k) = rnF costs t (k + 1) := by
  unfold rnF
  rw [addJ_app fun x hx => by
    obtain ⟨a, h1, _, rfl⟩ := rgF_mem hx
    show ((a + 1 : Nat) : Int) ≠ ((t + 1 : Nat) : Int)
    omega]
  congr 1
  unfold ptF
  rw [if_neg (Nat.succ_ne_zero k), jobsF_snoc]
  by_cases h : k = 0
  · subst h; rfl
  · rw [if_neg h, addJ, if_pos (by simp [fJ])]
theorem rgF_many (costs : List (List Int)) : ∀ t, manyQ (rgF costs t) ≤ 20 * t
  | 0 => Nat.le_refl _
  | t + 1 => by
    show manyQ (rgF costs t ++ ptF costs t (kF costs t)) ≤ _
    have := rgF_many costs t
    have hk : kF costs t ≤ 20 := Nat.min_le_right ..
    rw [many_app]
    unfold ptF
    split
    · show _ + 0 ≤ _; omega
    · show _ + ((jobsF costs t (kF costs t)).length + 0) ≤ _
      rw [jobsF_len]; omega
theorem rnF_many (costs : List (List Int)) (t k : Nat) : manyQ (rnF costs t k) ≤ 20 * t + k := by
  have := rgF_many costs t
  unfold rnF
  rw [many_app]
  unfold ptF
  split
  · show _ + 0 ≤ _; omega
  · show _ + ((jobsF costs t k).length + 0) ≤ _
    rw [jobsF_len]; omega
theorem rnF_names {costs : List (List Int)} {t k : Nat} {nm : Nm} (h : nm ∈ nmsQ (rnF costs t k)) : ∃ a m, nm = nmJ (100 * a + m) ∧ (a < t ∧ m < 20 ∨ a = t ∧ m < k) := by
  obtain ⟨x, hx, hm⟩ := List.mem_flatMap.1 h
  obtain ⟨j, hj, rfl⟩ := List.mem_map.1 hm
  rcases List.mem_append.1 (show x ∈ rgF costs t ++ ptF costs t k from hx) with hx | hx
  · obtain ⟨a, h1, _, rfl⟩ := rgF_mem hx
    obtain ⟨m, hm2, rfl⟩ := List.mem_map.1 (show j ∈ (List.range (kF costs a)).map (fJ costs a) from hj)
    have h5 := List.mem_range.1 hm2
    have h6 : kF costs a ≤ 20 := Nat.min_le_right ..
    exact ⟨a, m, rfl, .inl ⟨h1, by omega⟩⟩
  · obtain ⟨_, rfl⟩ := ptF_mem hx
    obtain ⟨m, hm2, rfl⟩ := List.mem_map.1 (show j ∈ (List.range k).map (fJ costs t) from hj)
    exact ⟨t, m, rfl, .inr ⟨rfl, List.mem_range.1 hm2⟩⟩
theorem rnF_put {costs : List (List Int)} {t k : Nat} (ht : t < 5) (hk : k < 20) : putE (rnF costs t k) (fJ costs t k) = 0 := by
  have h2 := chooseN_lt ((rowF costs t).getD k 0) (n := 1000) (by decide)
  have hmn := rnF_many costs t k
  have hf : fndQ (rnF costs t k) (nmJ (100 * t + k)) = none := by
    cases hq : fndQ (rnF costs t k) (nmJ (100 * t + k)) with
    | none => rfl
    | some p =>
      obtain ⟨i, q⟩ := p
      obtain ⟨hi, hk', he⟩ := fnd_some hq
      have hm := (nms_take hi hk').subset (List.mem_cons_self ..)
      rw [he] at hm
      obtain ⟨a, m, h1, h3⟩ := rnF_names hm
      have := nmJ_inj h1
      omega
  unfold putE
  rw [if_neg (by simp only [fJ]; omega), if_neg (by simp only [fJ]; rw [nmJ_name (by omega)]; simp), if_neg (by simp only [fJ]; rw [hf]; simp), if_neg (by omega)]
theorem rnF_ok {costs : List (List Int)} {quan : Int} (hq : 1 ≤ quan ∧ quan ≤ 1000) {t k : Nat} (ht : t ≤ 5) (hk : k ≤ 20) : QOk quan (rnF costs t k) := by
  have hmn := rnF_many costs t k
  have hall : ∀ x ∈ rnF costs t k, ∃ a m, 0 < m ∧ x = ⟨((a + 1 : Nat) : Int), 0, false, jobsF costs a m⟩ := fun x hx => by
    rcases List.mem_append.1 (show x ∈ rgF costs t ++ ptF costs t k from hx) with hx | hx
    · obtain ⟨a, _, h2, rfl⟩ := rgF_mem hx
      exact ⟨a, _, h2, rfl⟩
    · obtain ⟨h1, rfl⟩ := ptF_mem hx
      exact ⟨t, k, h1, rfl⟩
  refine ⟨hq, fun x hx => ?_, fun x hx => ?_, fun x hx => ?_, fun x hx => ?_, by omega⟩
  · obtain ⟨a, m, h1, rfl⟩ := hall x hx
    intro e
    have h5 := jobsF_len costs a m
    have e : jobsF costs a m = [] := e
    rw [e] at h5
    have h5 : 0 = m := h5
    omega
  · obtain ⟨a, m, h1, rfl⟩ := hall x hx
    exact ⟨Int.le_refl _, by show (0 : Int) ≤ 1999; decide, fun _ => by show (0 : Int) ≤ 999; decide⟩
  · obtain ⟨a, m, h1, rfl⟩ := hall x hx
    intro j hj
    obtain ⟨q, _, rfl⟩ := List.mem_map.1 (show j ∈ (List.range m).map (fJ costs a) from hj)
    have h2 := chooseN_lt ((rowF costs a).getD q 0) (n := 1000) (by decide)
    simp only [fJ]; omega
  · obtain ⟨a, m, h1, rfl⟩ := hall x (List.mem_of_mem_tail hx)
    rfl
def nmF (costs : List (List Int)) (n a : Nat) : List Nm := if a < n then (jobsF costs a (kF costs a)).map QJ.name else []
theorem FI.start {costs : List (List Int)} {quan D : Int} {n : Nat} (hq : 1 ≤ quan) (hD : ∀ t ∈ rgF costs n, ∀ j ∈ t.jobs, j.cost ≤ D) : FI quan D n (nmF costs n) (fun _ => 0) (fun _ => 0) (rgF costs n) := by
  have hD1 : ∀ x ∈ rgF costs n, 1 ≤ D := fun x hx => by
    obtain ⟨a, _, h2, rfl⟩ := rgF_mem hx
    have hm : fJ costs a 0 ∈ jobsF costs a (kF costs a) := List.mem_map_of_mem (List.mem_range.2 h2)
    have := hD _ hx _ hm
    simp only [fJ] at this; omega
  refine ⟨fun x hx => ?_, ?_, fun x hx => ?_, fun a ha => ?_, ?_, fun x hx => ?_, hD⟩
  · obtain ⟨a, h1, _, rfl⟩ := rgF_mem hx
    exact ⟨a, h1, rfl⟩
  · clear hD hD1
    induction n with
    | zero => exact .nil
    | succ n ih =>
      show ((rgF costs n ++ ptF costs n (kF costs n)).map QT.num).Nodup
      rw [List.map_append, List.nodup_append]
      refine ⟨ih, ?_, fun a ha b hb => ?_⟩
      · unfold ptF; split <;> simp
      · obtain ⟨x, hx, rfl⟩ := List.mem_map.1 ha
        obtain ⟨y, hy, rfl⟩ := List.mem_map.1 hb
        obtain ⟨a, h1, _, rfl⟩ := rgF_mem hx
        obtain ⟨_, rfl⟩ := ptF_mem hy
        show ((a + 1 : Nat) : Int) ≠ ((n + 1 : Nat) : Int)
        omega
  · obtain ⟨a, _, _, rfl⟩ := rgF_mem hx
    intro j hj
    obtain ⟨q, _, rfl⟩ := List.mem_map.1 (show j ∈ (List.range (kF costs a)).map (fJ costs a) from hj)
    rfl
  · have hnm : nmF costs n a = (jobsF costs a (kF costs a)).map QJ.name := if_pos ha
    by_cases hk : 0 < kF costs a
    · refine .inl ⟨_, rgF_has ha hk, rfl, ?_⟩
      rw [hnm]; rfl
    · refine .inr ⟨fun x hx e => ?_, ?_⟩
      · obtain ⟨b, _, h2, rfl⟩ := rgF_mem hx
        have e : ((b + 1 : Nat) : Int) = ((a + 1 : Nat) : Int) := e
        have : b = a := by omega
        subst this
        exact hk h2
      · rw [hnm, List.length_map, jobsF_len]; omega
  · refine List.pairwise_iff_getElem.2 fun i k hi hk _ => ?_
    have hw : ∀ x ∈ rgF costs n, wQ quan (fun _ => 0) x = 0 := fun x hx => by
      obtain ⟨a, _, _, rfl⟩ := rgF_mem hx
      rfl
    rw [hw _ (List.getElem_mem hi), hw _ (List.getElem_mem hk)]
    omega
  · have := hD1 x hx
    obtain ⟨a, _, _, rfl⟩ := rgF_mem hx
    show (0 : Int) ≤ 0 ∧ (0 : Int) ≤ D - 1
    omega
end Go.Proofs.Ytjaflkgfipaajaa
end
section
set_option linter.unusedVariables false
set_option linter.unusedSimpArgs false
set_option maxRecDepth 20000
set_option maxHeartbeats 2000000
namespace Go.Proofs.Ytjaflkgfipaajaa
open Go Go.Ab
def drpR (ring : List QT) (name : Nm) : List QT := match fndQ ring name with | some p => takR ring p.1 p.2 | none => ring
theorem QOk.drop {quan : Int} {ring : List QT} (h : QOk quan ring) (d : Nm) : QOk quan (drpR ring d) := by
  unfold drpR
  cases hq : fndQ ring d with
  | none => exact h
  | some p =>
    obtain ⟨i, k⟩ := p
    obtain ⟨hi, hk, he⟩ := fnd_some hq
    exact h.take hi hk
theorem QAt.apps {σ τ : Heap} {q rid rv : Nat} {es : List QL} {quan : Int} {ring : List QT} (h : QAt σ q rid rv es quan ring) (ht : Alive τ) : QAt (σ ++ τ) q rid rv es quan ring := h.mono (alive_apps h.al ht) fun i y hy => apps_get hy
end Go.Proofs.Ytjaflkgfipaajaa
end
section
set_option linter.unusedVariables false
set_option linter.unusedSimpArgs false
set_option maxRecDepth 20000
namespace Go.Proofs.Ytjaflkgfipaajaa
open Go Go.Ab
def rowA (l : List Int) : AV := .sl true false 1 (zints l)
def rowsA (l : List (List Int)) : List AV := l.map rowA
theorem rowsA_len (l : List (List Int)) : (rowsA l).length = l.length := by simp [rowsA]
theorem rowsA_bulk (l : List (List Int)) : ∀ r ∈ l, r.length ≤ avS (rowsA l) := fun r hr => by
  have h1 := avS_mem (show rowA r ∈ rowsA l from List.mem_map_of_mem hr)
  have h2 : avB (rowA r) = avS (zints r) := rfl
  have h3 := avS_len (zints r)
  rw [zints_len] at h3
  omega
theorem open_Y {H : Type} {d : DataW H} {a : AV} (h : RdD Try.prog 22 d a) : ∃ l : List (List Int), a = .sl true false 1 (rowsA l) ∧ ∀ r ∈ l, ∀ z ∈ r, IsI64 z := by
  obtain ⟨ds, xs, rfl, hl, hm, hall, _⟩ := h.inv_sl Try.underlying22
  obtain ⟨ys, rfl, hy, hg⟩ := RdD.each rowA (fun r _ => ∀ z ∈ r, IsI64 z) hl hall (fun d x h => by
    obtain ⟨l, rfl, hl⟩ := open_z h
    exact ⟨l, rfl, hl⟩)
  have hc : Try.prog.cellsOf 30 = 1 := by kernel_rfl
  exact ⟨ys, by rw [hc]; rfl, fun z hz => by
    obtain ⟨i, hi, rfl⟩ := List.getElem_of_mem hz
    exact hg i (by omega) hi⟩
end Go.Proofs.Ytjaflkgfipaajaa
end
section
set_option linter.unusedVariables false
set_option linter.unusedSimpArgs false
namespace Go.Ab
open Go
def rpLoad (cx : Cx) (fr : Fr) : Op → Bool
  | .load _ a => match ev cx fr a with
    | .rp .. => true
    | _ => false
  | _ => false
def oneZ {α : Type} (cx : Cx) (K : List Nat) (n : Nat) (all : Array Oper) (s : Heap) (o : Oper) (fr : Fr) (rs : List AV) (c : List Prop → AV → List AV → Option α) : Option α :=
  match dstOk n o.dst with
  | false => none
  | true => match guardA all o K fr with
    | none => none
    | some false => c [] (.tup []) rs
    | some true => match callA cx fr o.op with
      | some (f, args) => match rs with
        | x :: rs => c [∃ args', Calc cx f args' x ∧ Frzs s args args'] x rs
        | [] => none
      | none => match heapOp o.op || stopOp o.op with
        | false => match aOp cx [] o.dst o.op fr s with
          | some (C, v, s') => forceV v fun v => c ((s' = s) :: C) v rs
          | none => none
        | true => match rs with
          | [] => none
          | x :: rs => match rpLoad cx fr o.op with
            | true => match loadA cx fr s o.op x with
              | some D => c D x rs
              | none => none
            | false => match idxA cx fr s o.op x with
              | some (D, v) => forceV v fun v => c D v rs
              | none => c [OpSpec cx n fr s o x s] x rs
theorem oneZ_spec {α : Type} {cx : Cx} {n : Nat} {K : List Nat} {all : Array Oper} {s : Heap} {o : Oper} {fr : Fr} {rs : List AV} {c : List Prop → AV → List AV → Option α} {a : α} (h : oneZ cx K n all s o fr rs c = some a) :
    ∃ C v rs', c C v rs' = some a ∧ (AllP C → StepX cx n all s s K fr o v) := by
  unfold oneZ at h
  split at h
  · cases h
  rename_i hd
  split at h
  · cases h
  · rename_i hg
    exact ⟨_, _, _, h, fun _ => ⟨hd, .inl ⟨hg, rfl, rfl⟩⟩⟩
  rename_i hg
  split at h
  · rename_i f args hc
    split at h
    · rename_i x rs'
      refine ⟨_, _, _, h, fun hC => ?_⟩
      obtain ⟨⟨args', h1, h2⟩, _⟩ := hC
      have : oneD cx K n all s o fr [x] = some ([∃ args', Calc cx f args' x ∧ Frzs s args args'], x, []) := by
        unfold oneD
        rw [hd]
        simp only [hg, hc]
      exact (oneD_spec this ⟨⟨args', h1, h2⟩, trivial⟩).x
    · cases h
  · split at h
    · split at h
      · rename_i C v s' ha
        rw [forceV_eq] at h
        refine ⟨_, _, _, h, fun hC => ?_⟩
        obtain ⟨e, hC⟩ := hC
        subst e
        exact opC_step hd hg ha hC
      · cases h
    · split at h
      · cases h
      · rename_i x rs'
        split at h
        · split at h
          · rename_i D hl
            exact ⟨_, _, _, h, fun hC => specC_step hd hg fun r a w hi hf => loadA_run hi hf hl hC⟩
          · cases h
        · split at h
          · rename_i D v hx
            rw [forceV_eq] at h
            exact ⟨_, _, _, h, fun hC => specC_step hd hg fun r a w hi hf => idxA_run hi hf hx hC⟩
          · exact ⟨_, _, _, h, fun hC => specC_step hd hg hC.1⟩
def appK {α : Type} : List Prop → List Prop → (List Prop → α) → α
  | [], D, c => c D
  | x :: r, D, c => appK r D fun l => c (x :: l)
theorem appK_eq {α : Type} : ∀ (C D : List Prop) (c : List Prop → α), appK C D c = c (C ++ D)
  | [], D, c => rfl
  | x :: r, D, c => by rw [appK, appK_eq r]; rfl
def oneX {α : Type} (cx : Cx) (K : List Nat) (n : Nat) (all : Array Oper) (s : Heap) (o : Oper) (fr : Fr) (rs : List AV) (b : Bool) (c : List Prop → AV → List AV → Option α) : Option α :=
  oneZ cx K n all s o fr rs fun C v rs => match b with
    | true => c [] v rs
    | false => c C v rs
theorem oneX_spec {α : Type} {cx : Cx} {n : Nat} {K : List Nat} {all : Array Oper} {s : Heap} {o : Oper} {fr : Fr} {rs : List AV} {b : Bool} {c : List Prop → AV → List AV → Option α} {a : α} (h : oneX cx K n all s o fr rs b c = some a) :
    ∃ C v rs', c C v rs' = some a ∧ (b = false → AllP C → StepX cx n all s s K fr o v) := by
  obtain ⟨C, v, rs', h1, h2⟩ := oneZ_spec h
  cases b with
  | true => exact ⟨_, _, _, h1, fun h => by cases h⟩
  | false => exact ⟨_, _, _, h1, fun _ => h2⟩
def runZ {α : Type} (cx : Cx) (K : List Nat) (n : Nat) (all : Array Oper) (ops : List Oper) (s : Heap) (J X : List Nat) : List Oper → Nat → Fr → List AV → (List Prop → List AV → Fr → Option α) → Option α
  | [], i, fr, rs, c => c [] [] fr
  | o :: l, i, fr, rs, c => match memN i J with
    | true => match rs with
      | x :: rs => runZ cx K n all ops s J X l (i + 1) (setA o.dst x fr) rs fun D vs fr' => c D (x :: vs) fr'
      | [] => none
    | false => oneX cx K n all s o (restr ops o fr) rs (memN i X) fun C v rs => match isGuard ops i with
      | false => runZ cx K n all ops s J X l (i + 1) (setA o.dst v fr) rs fun D vs fr' => appK C D fun D => c D (v :: vs) fr'
      | true => match v with
        | .bool b => match rs with
          | .bool t :: rs => runZ cx K n all ops s J X l (i + 1) (setA o.dst (.bool t) fr) rs fun D vs fr' => appK C ((b = t) :: D) fun D => c D (.bool t :: vs) fr'
          | _ => none
        | .tup us => runZ cx K n all ops s J X l (i + 1) (setA o.dst (.tup us) fr) rs fun D vs fr' => appK C D fun D => c D (.tup us :: vs) fr'
        | _ => none
theorem runZ_spec {α : Type} {cx : Cx} {n : Nat} {K : List Nat} {all : Array Oper} {ops : List Oper} {s : Heap} {J X : List Nat} {a : α} : ∀ (l : List Oper) (i : Nat) (fr : Fr) (rs : List AV) (c : List Prop → List AV → Fr → Option α), runZ cx K n all ops s J X l i fr rs c = some a →
    ∃ C vals fr', c C vals fr' = some a ∧ vals.length = l.length ∧ fr' = ovl l vals fr ∧ (AllP C → ∀ (j : Nat) (o : Oper) (v : AV), l[j]? = some o → vals[j]? = some v → i + j ∉ J → i + j ∉ X → StepX cx n all s s K (restr ops o (ovl (l.take j) (vals.take j) fr)) o v)
  | [], i, fr, rs, c, h => ⟨_, _, _, h, rfl, rfl, fun _ j o v h => by simp at h⟩
  | o :: l, i, fr, rs, c, h => by
    unfold runZ at h
    split at h
    · rename_i hb
      have hij : i ∈ J := memN_iff.1 hb
      split at h
      · rename_i x rs'
        obtain ⟨D, vs, fr', h1, h2, h3, h4⟩ := runZ_spec l _ _ _ _ h
        refine ⟨_, _, _, h1, by simp [h2], by rw [h3]; rfl, fun hD j oj vj hj hvj hne hnx => ?_⟩
        cases j with
        | zero => exact absurd hij hne
        | succ j =>
          simp only [List.getElem?_cons_succ] at hj hvj
          exact h4 hD j oj vj hj hvj (by rw [show i + 1 + j = i + (j + 1) by omega]; exact hne) (by rw [show i + 1 + j = i + (j + 1) by omega]; exact hnx)
      · cases h
    · obtain ⟨C, v, rs', h1, h2⟩ := oneX_spec h
      have h2 : i ∉ X → AllP C → StepX cx n all s s K (restr ops o fr) o v := fun hnx => h2 (by
        cases hb : memN i X with
        | false => rfl
        | true => exact absurd (memN_iff.1 hb) hnx)
      split at h1
      · obtain ⟨D, vs, fr', k1, k2, k3, k4⟩ := runZ_spec l _ _ _ _ h1
        rw [appK_eq] at k1
        refine ⟨_, _, _, k1, by simp [k2], by rw [k3]; rfl, fun hD j oj vj hj hvj hne hnx => ?_⟩
        obtain ⟨hC, hD⟩ := AllP_append hD
        cases j with
        | zero =>
          simp only [List.getElem?_cons_zero, Option.some.injEq] at hj hvj
          subst hj; subst hvj
          exact h2 hnx hC
        | succ j =>
          simp only [List.getElem?_cons_succ] at hj hvj
          exact k4 hD j oj vj hj hvj (by rw [show i + 1 + j = i + (j + 1) by omega]; exact hne) (by rw [show i + 1 + j = i + (j + 1) by omega]; exact hnx)
      · split at h1
        · rename_i b
          split at h1
          · rename_i t rs''
            obtain ⟨D, vs, fr', k1, k2, k3, k4⟩ := runZ_spec l _ _ _ _ h1
            rw [appK_eq] at k1
            refine ⟨_, _, _, k1, by simp [k2], by rw [k3]; rfl, fun hD j oj vj hj hvj hne hnx => ?_⟩
            obtain ⟨hC, hb, hD2⟩ := AllP_append hD
            subst hb
            cases j with
            | zero =>
              simp only [List.getElem?_cons_zero, Option.some.injEq] at hj hvj
              subst hj; subst hvj
              exact h2 hnx hC
            | succ j =>
              simp only [List.getElem?_cons_succ] at hj hvj
              exact k4 hD2 j oj vj hj hvj (by rw [show i + 1 + j = i + (j + 1) by omega]; exact hne) (by rw [show i + 1 + j = i + (j + 1) by omega]; exact hnx)
          · cases h1
        · rename_i us
          obtain ⟨D, vs, fr', k1, k2, k3, k4⟩ := runZ_spec l _ _ _ _ h1
          rw [appK_eq] at k1
          refine ⟨_, _, _, k1, by simp [k2], by rw [k3]; rfl, fun hD j oj vj hj hvj hne hnx => ?_⟩
          obtain ⟨hC, hD⟩ := AllP_append hD
          cases j with
          | zero =>
            simp only [List.getElem?_cons_zero, Option.some.injEq] at hj hvj
            subst hj; subst hvj
            exact h2 hnx hC
          | succ j =>
            simp only [List.getElem?_cons_succ] at hj hvj
            exact k4 hD j oj vj hj hvj (by rw [show i + 1 + j = i + (j + 1) by omega]; exact hne) (by rw [show i + 1 + j = i + (j + 1) by omega]; exact hnx)
        · cases h1
section
variable {cx : Cx} {n : Nat} {B : Bs} {k : List AI} {Q : Post} {fr : Fr} {σ : Heap}
theorem StepX.d {K : List Nat} {all : Array Oper} {o : Oper} {v : AV} (h : StepX cx n all σ σ K fr o v) : StepD cx n all σ K fr o v := by
  refine ⟨h.1, ?_⟩
  rcases h.2 with ⟨h1, h2, _⟩ | h1
  · exact .inl ⟨h1, h2⟩
  · exact .inr h1
theorem S_drawO {id : Nat} {ops : Array Oper} (m : Nat) (rs : List AV) {C : List Prop} {vals : List AV} {fr' : Fr} (hP : cx.P.follows .mixedOrders = true) (hchk : drawOk ops.toList m = true) (hmN : Nat.ble m ops.size = true)
    (hrun : runZ cx (guardKs ops.toList ops.toList) n ops ops.toList σ [] [] (ops.toList.take m) 0 fr rs (fun C vs f => some (C, vs, f)) = some (C, vals, fr')) (hC : AllP C)
    (hk : S cx n B (.ops ops (ops.toList.drop m) [] :: k) Q fr' σ) : S cx n B (.code (.region id ops true) :: k) Q fr σ := by
  intro r a w hi hf hd hx
  obtain ⟨c1, c2, c3, c4, c5⟩ := drawOk_spec hchk
  obtain ⟨C', vals', fr'', e, k1, k2, k3⟩ := runZ_spec _ _ _ _ _ hrun
  simp only [Option.some.injEq, Prod.mk.injEq] at e
  obtain ⟨rfl, rfl, rfl⟩ := e
  have k3 := k3 hC
  have hmN' := Nat.le_of_ble_eq_true hmN
  have hlen : vals'.length = m := by rw [k1, List.length_take, Array.length_toList]; omega
  obtain ⟨hi1, hx1⟩ := hi.heap_eq (w' := { w with drawn := w.drawn + 1 }) rfl rfl rfl rfl
  have hf1 := hf.mono (hx1.grow hi)
  have nl : ∀ {j : Nat}, ¬ Listed (Array.replicate ops.size false) j := by
    intro j hj
    unfold Listed at hj
    rw [Array.getD_eq_getD_getElem?, Array.getElem?_replicate] at hj
    split at hj <;> simp at hj
  refine wp_region_any hP ?_
  refine wpAny_front (cx := cx) (n := n) (B := B) (fr := fr) (σ := σ) (m := m) (vals := vals') (K := guardKs ops.toList ops.toList) hmN' hlen c1 c2 c3 c4 c5 (fun j o v hj ho hv => ?_) (fun r a w hi hf hd hx => ?_) ops.size _ r a _ (by simp) ?_ (fun j i hj => ?_) (fun j _ => ?_) ⟨hf1.size, fun j d v _ hj => ?_, fun t _ => hf1.get t, hf1.defs⟩ hi1 hd (hx.trans hx1)
  · have := k3 j o v (by rw [List.getElem?_take_of_lt hj]; exact ho) hv (List.not_mem_nil) (List.not_mem_nil)
    rw [List.take_take, Nat.min_eq_left (by omega)] at this
    exact this.d
  · rw [k2] at hk
    exact hk r a w hi hf hd hx
  · unfold unl; simp [List.countP_replicate]
  · exact absurd hj nl
  · exact nl
  · exact absurd hj nl
theorem S_drawOC {id : Nat} {ops : Array Oper} (σ2 : Heap) (jc m : Nat) (rs : List AV) {C : Heap → List Prop} {vals : List AV} {fr' : Fr} (hP : cx.P.follows .mixedOrders = true) (hchk : drawOk ops.toList m = true) (hmN : Nat.ble m ops.size = true) (hjc : Nat.blt jc m = true)
    (hrun : ∀ s, runZ cx (guardKs ops.toList ops.toList) n ops ops.toList s [jc] [] (ops.toList.take m) 0 fr rs (fun C vs f => some (C, vs, f)) = some (C s, vals, fr')) (hC : ∀ s, s = σ ∨ s = σ2 → AllP (C s))
    (hj : ∀ o v, ops.toList[jc]? = some o → vals[jc]? = some v → StepX cx n ops σ σ2 (guardKs ops.toList ops.toList) (restr ops.toList o (ovl (ops.toList.take jc) (vals.take jc) fr)) o v)
    (hk : S cx n B (.ops ops (ops.toList.drop m) [] :: k) Q fr' σ2) : S cx n B (.code (.region id ops true) :: k) Q fr σ := by
  intro r a w hi hf hd hx
  obtain ⟨c1, c2, c3, c4, c5⟩ := drawOk_spec hchk
  have key : ∀ s, s = σ ∨ s = σ2 → vals.length = (ops.toList.take m).length ∧ fr' = ovl (ops.toList.take m) vals fr ∧ ∀ (j : Nat) (o : Oper) (v : AV), (ops.toList.take m)[j]? = some o → vals[j]? = some v → 0 + j ∉ [jc] → StepX cx n ops s s (guardKs ops.toList ops.toList) (restr ops.toList o (ovl ((ops.toList.take m).take j) (vals.take j) fr)) o v := fun s hs => by
    obtain ⟨C', vals', fr'', e, k1, k2, k3⟩ := runZ_spec _ _ _ _ _ (hrun s)
    simp only [Option.some.injEq, Prod.mk.injEq] at e
    obtain ⟨rfl, rfl, rfl⟩ := e
    exact ⟨k1, k2, fun j o v a b c => k3 (hC s hs) j o v a b c List.not_mem_nil⟩
  obtain ⟨k1, k2, _⟩ := key σ (.inl rfl)
  have hmN' := Nat.le_of_ble_eq_true hmN
  have hjlt := blt_lt hjc
  have hlen : vals.length = m := by rw [k1, List.length_take, Array.length_toList]; omega
  obtain ⟨hi1, hx1⟩ := hi.heap_eq (w' := { w with drawn := w.drawn + 1 }) rfl rfl rfl rfl
  have hf1 := hf.mono (hx1.grow hi)
  have nl : ∀ {j : Nat}, ¬ Listed (Array.replicate ops.size false) j := by
    intro j hj
    unfold Listed at hj
    rw [Array.getD_eq_getD_getElem?, Array.getElem?_replicate] at hj
    split at hj <;> simp at hj
  have h0 : hpC σ σ2 jc (Array.replicate ops.size false) = σ := hpC_out (by
    cases hb : (Array.replicate ops.size false).getD jc false with
    | false => rfl
    | true => exact absurd hb nl)
  refine wp_region_any hP ?_
  refine wpAny_frontC (σ' := σ2) (jc := jc) (cx := cx) (n := n) (B := B) (fr := fr) (σ := σ) (m := m) (vals := vals) (K := guardKs ops.toList ops.toList) hjlt hmN' hlen c1 c2 c3 c4 c5 (fun j o v hjm ho hv => ?_) (fun r a w hi hf hd hx => ?_) ops.size _ r a _ (by simp) ?_ (fun j i hj => ?_) (fun j _ => ?_) ⟨hf1.size, fun j d v _ hj => ?_, fun t _ => hf1.get t, hf1.defs⟩ (by rw [h0]; exact hi1) hd (by rw [h0]; exact hx.trans hx1)
  · refine ⟨fun hne b => ?_, fun e => by subst e; exact hj o v ho hv⟩
    have h := fun s hs => (key s hs).2.2 j o v (by rw [List.getElem?_take_of_lt hjm]; exact ho) hv (by rw [Nat.zero_add, List.mem_singleton]; exact hne)
    rw [List.take_take, Nat.min_eq_left (by omega)] at h
    cases b with
    | true => exact h σ2 (.inr rfl)
    | false => exact h σ (.inl rfl)
  · rw [k2] at hk
    exact hk r a w hi hf hd hx
  · unfold unl; simp [List.countP_replicate]
  · exact absurd hj nl
  · exact nl
  · exact absurd hj nl
end
end Go.Ab
end
section
set_option linter.unusedVariables false
set_option linter.unusedSimpArgs false
namespace Go.Ab
open Go
section
variable {cx : Cx} {n : Nat} {B : Bs} {k : List AI} {Q : Post} {fr : Fr} {σ : Heap}
theorem OpSpec.storeX {o : Oper} {t : TypeId} {a x : Operand} {m id ver off : Nat} {cs : List AV} {gT : Option TypeId} {y : AV} {σ' : Heap} (ho : o.op = .store t a x) (hm : szOf cx.P t = some m) (hea : ev cx fr a = .eptr id ver off) (hx : ev cx fr x = y) (hyc : y.cells.length = m) (hy : allOne y.cells = true)
    (hσ : σ[id]? = some (ver, some (.cells cs ⟨false, gT⟩))) (hoff : off + m ≤ cs.length) (hσ' : σ' = σ.set id (ver, some (.cells (setRange cs off y.cells) ⟨false, gT⟩))) : OpSpec cx n fr σ o (.tup []) σ' := by
  subst hσ'
  refine OpSpec.store (C := [y.cells.length = m, allOne y.cells = true, ver = ver, off + m ≤ cs.length]) ?_ ⟨hyc, hy, rfl, hoff, trivial⟩
  rw [ho]
  simp only [storeA, hm, hea, hσ, hx]
structure DelC (σ : Heap) (id ver i n : Nat) (cs : List AV) (sz : Nat) (id' ver' : Nat) (fl : Bool) (τ : Heap) : Prop where
  h : (i + 1 < n ∧ id' = σ.length ∧ ver' = 0 ∧ fl = false ∧ τ = [(0, some (.cells (cs.take (i * sz) ++ cs.drop ((i + 1) * sz)) ⟨false, none⟩))]) ∨ (i + 1 = n ∧ id' = id ∧ ver' = ver ∧ fl = true ∧ τ = [])
theorem DelC.place {σ τ : Heap} {id ver i n sz id' ver' : Nat} {cs : List AV} {fl : Bool} (h : DelC σ id ver i n cs sz id' ver' fl τ) : id' = id ∨ id' = σ.length := by
  rcases h.h with ⟨_, h1, _⟩ | ⟨_, h1, _⟩
  · exact .inr h1
  · exact .inl h1
theorem DelC.box {σ τ : Heap} {id ver i n sz id' ver' : Nat} {cs : List AV} {fl : Bool} (h : DelC σ id ver i n cs sz id' ver' fl τ) (hcs : cs.length = n * sz) (hσ : σ[id]? = some (ver, some (.cells cs ⟨false, none⟩))) :
    ∃ cs', (σ ++ τ)[id']? = some (ver', some (.cells cs' ⟨false, none⟩)) ∧ cs'.take ((n - 1) * sz) = cs.take (i * sz) ++ cs.drop ((i + 1) * sz) := by
  rcases h.h with ⟨hn, rfl, rfl, _, rfl⟩ | ⟨hn, rfl, rfl, _, rfl⟩
  · refine ⟨_, by simp, List.take_of_length_le ?_⟩
    rw [List.length_append, List.length_take, List.length_drop, hcs]
    have h1 : (i + 1) * sz + (n - (i + 1)) * sz = n * sz := by rw [← Nat.add_mul]; congr 1; omega
    have h2 : i * sz + (n - (i + 1)) * sz = (n - 1) * sz := by rw [← Nat.add_mul]; congr 1; omega
    have h3 : min (i * sz) (n * sz) ≤ i * sz := Nat.min_le_left ..
    omega
  · refine ⟨cs, by rw [List.append_nil]; exact hσ, ?_⟩
    subst hn
    rw [Nat.add_sub_cancel, List.drop_of_length_le (by omega), List.append_nil]
end
end Go.Ab
end
section
set_option linter.unusedVariables false
set_option linter.unusedSimpArgs false
set_option maxRecDepth 20000
namespace Go.Proofs.Ytjaflkgfipaajaa
open Go Go.Ab
def texts (l : List (List UInt8)) : List AV := l.map .str
theorem texts_len (l : List (List UInt8)) : (texts l).length = l.length := by simp [texts]
end Go.Proofs.Ytjaflkgfipaajaa
end
section
set_option linter.unusedVariables false
set_option linter.unusedSimpArgs false
set_option maxRecDepth 20000
set_option maxHeartbeats 4000000
namespace Go.Proofs.Ytjaflkgfipaajaa
open Go Go.Ab
structure NE where
  id : Nat
  ver : Nat
  ns : List Nm
def neA (e : NE) : AV := .ms e.id e.ver 0 e.ns.length 1 false
def nbC (n : Nat) (NB : List NE) : List AV := NB.map neA ++ List.replicate (n - NB.length) .nils
theorem nbC_len {n : Nat} {NB : List NE} (h : NB.length ≤ n) : (nbC n NB).length = n := by unfold nbC; rw [List.length_append, List.length_map, List.length_replicate]; omega
theorem nbC_nil {n : Nat} {NB : List NE} (h : NB.length < n) : (nbC n NB)[NB.length]? = some .nils := by
  unfold nbC
  rw [List.getElem?_append_right (by simp), List.length_map, Nat.sub_self, List.getElem?_replicate, if_pos (by omega)]
theorem nbC_at {n : Nat} {NB : List NE} {a : Nat} (h : a < NB.length) : (nbC n NB)[a]? = some (neA NB[a]) := by
  unfold nbC
  rw [List.getElem?_append_left (by simpa using h)]
  simp [h]
theorem nbC_grow {n : Nat} {NB : List NE} (h : NB.length < n) (g : NE) : (nbC n NB).set NB.length (neA g) = nbC n (NB ++ [g]) := by
  unfold nbC
  rw [List.set_append_right _ _ (by simp), List.length_map, Nat.sub_self, List.map_append, List.append_assoc]
  congr 1
  rw [show n - NB.length = (n - (NB ++ [g]).length) + 1 by simp; omega, List.replicate_succ, List.set_cons_zero]
  rfl
theorem nbC_last {n : Nat} {NB : List NE} (g g' : NE) : (nbC n (NB ++ [g])).set NB.length (neA g') = nbC n (NB ++ [g']) := by
  unfold nbC
  rw [List.map_append, List.map_append, List.append_assoc, List.append_assoc, List.set_append_right _ _ (by simp), List.length_map, Nat.sub_self]
  simp
structure J1 (σ : Heap) (rv : Nat) (es : List QL) (quan : Int) (ring : List QT) (n : Nat) (NB : List NE) (aj : List QJ) : Prop where
  q : QAt σ 0 1 rv es quan ring
  nb : σ[2]? = some (0, some (.cells (nbC n NB) ⟨false, none⟩))
  el : ∀ e ∈ NB, σ[e.id]? = some (e.ver, some (.cells (texts e.ns) ⟨false, none⟩))
  al : σ[3]? = some (aj.length, some (.cells (jbC aj) ⟨false, none⟩))
  pw : NB.Pairwise fun a b => a.id ≠ b.id
  d4 : ∀ e ∈ NB, 3 < e.id
  dj : ∀ id, Own 0 1 es id → id ≠ 2 ∧ id ≠ 3 ∧ ∀ e ∈ NB, id ≠ e.id
theorem J1.put {σ σ' : Heap} {rv rv' : Nat} {es es' : List QL} {quan : Int} {ring ring' : List QT} {n : Nat} {NB : List NE} {al : List QJ} (h : J1 σ rv es quan ring n NB al) (hq : QAt σ' 0 1 rv' es' quan ring') (hk : QKeep σ σ' (Own 0 1 es) (Own 0 1 es')) : J1 σ' rv' es' quan ring' n NB al := by
  have l2 := lt_of_get h.nb
  have l3 := lt_of_get h.al
  refine ⟨hq, ?_, fun e he => ?_, ?_, h.pw, h.d4, fun id ho => ?_⟩
  · rw [hk.same _ l2 fun ho => (h.dj _ ho).1 rfl]; exact h.nb
  · rw [hk.same _ (lt_of_get (h.el e he)) fun ho => (h.dj _ ho).2.2 e he rfl]; exact h.el e he
  · rw [hk.same _ l3 fun ho => (h.dj _ ho).2.1 rfl]; exact h.al
  · rcases hk.new id ho with h' | h'
    · exact h.dj id h'
    · exact ⟨by omega, by omega, fun e he => by have := lt_of_get (h.el e he); omega⟩
theorem J1.app {σ : Heap} {rv : Nat} {es : List QL} {quan : Int} {ring : List QT} {n : Nat} {NB : List NE} {al : List QJ} (h : J1 σ rv es quan ring n NB al) (v : Nat) (x : Box) : J1 (σ ++ [(v, some x)]) rv es quan ring n NB al :=
  ⟨h.q.app v x, app_get h.nb, fun e he => app_get (h.el e he), app_get h.al, h.pw, h.d4, h.dj⟩
theorem J1.ghost {σ : Heap} {rv : Nat} {es : List QL} {quan : Int} {ring : List QT} {n : Nat} {NB : List NE} {al : List QJ} (h : J1 σ rv es quan ring n NB al) :
    J1 ((σ ++ [(0, some (Box.cells [] ⟨false, none⟩))]).set 2 (0, some (.cells (nbC n (NB ++ [NE.mk σ.length 0 []])) ⟨false, none⟩))) rv es quan ring n (NB ++ [NE.mk σ.length 0 []]) al := by
  have l2 := lt_of_get h.nb
  have l3 := lt_of_get h.al
  have h1 := h.app 0 (.cells [] ⟨false, none⟩)
  refine ⟨h1.q.keep (Alive.set h1.q.al _ _ _) fun id ho => set_ne (h.dj id ho).1, set_eq h1.nb, fun e he => ?_, (set_ne (by decide)).trans h1.al, ?_, fun e he => ?_, fun id ho => ?_⟩
  · rcases List.mem_append.1 he with he | he
    · have := h.d4 e he
      rw [set_ne (by omega)]; exact h1.el e he
    · rw [List.mem_singleton.1 he, set_ne (by show σ.length ≠ 2; omega)]
      exact app_last
  · refine List.pairwise_append.2 ⟨h.pw, List.pairwise_singleton .., fun a ha b hb => ?_⟩
    rw [List.mem_singleton.1 hb]
    have := lt_of_get (h.el a ha)
    show a.id ≠ σ.length
    omega
  · rcases List.mem_append.1 he with he | he
    · exact h.d4 e he
    · rw [List.mem_singleton.1 he]
      show 3 < σ.length
      omega
  · obtain ⟨a, b, c⟩ := h.dj id ho
    refine ⟨a, b, fun e he => ?_⟩
    rcases List.mem_append.1 he with he | he
    · exact c e he
    · rw [List.mem_singleton.1 he]
      have := h.q.lt id ho
      show id ≠ σ.length
      omega
theorem J1.name {σ : Heap} {rv : Nat} {es : List QL} {quan : Int} {ring : List QT} {n : Nat} {NB : List NE} {g g' : NE} {al : List QJ} (h : J1 σ rv es quan ring n (NB ++ [g]) al) (hid : g'.id = g.id) :
    J1 ((σ.set g.id (g'.ver, some (.cells (texts g'.ns) ⟨false, none⟩))).set 2 (0, some (.cells (nbC n (NB ++ [g'])) ⟨false, none⟩))) rv es quan ring n (NB ++ [g']) al := by
  have hg : g ∈ NB ++ [g] := List.mem_append_right _ (List.mem_singleton.2 rfl)
  have hg4 := h.d4 g hg
  obtain ⟨p1, _, p3⟩ := List.pairwise_append.1 h.pw
  refine ⟨h.q.keep (Alive.set (Alive.set h.q.al _ _ _) _ _ _) fun id ho => ?_, ?_, fun e he => ?_, ?_, ?_, fun e he => ?_, fun id ho => ?_⟩
  · obtain ⟨a, b, c⟩ := h.dj id ho
    rw [set_ne a, set_ne (c g hg)]
  · have : (σ.set g.id (g'.ver, some (.cells (texts g'.ns) ⟨false, none⟩)))[2]? = some (0, some (.cells (nbC n (NB ++ [g])) ⟨false, none⟩)) := by rw [set_ne (by omega)]; exact h.nb
    exact set_eq this
  · rcases List.mem_append.1 he with he | he
    · have := h.d4 e (List.mem_append_left _ he)
      have hne := p3 e he g (List.mem_singleton.2 rfl)
      rw [set_ne (by omega), set_ne hne]
      exact h.el e (List.mem_append_left _ he)
    · rw [List.mem_singleton.1 he, hid, set_ne (by omega)]
      exact set_eq (h.el g hg)
  · rw [set_ne (by decide), set_ne (by omega)]; exact h.al
  · refine List.pairwise_append.2 ⟨p1, List.pairwise_singleton .., fun a ha b hb => ?_⟩
    rw [List.mem_singleton.1 hb, hid]
    exact p3 a ha g (List.mem_singleton.2 rfl)
  · rcases List.mem_append.1 he with he | he
    · exact h.d4 e (List.mem_append_left _ he)
    · rw [List.mem_singleton.1 he, hid]; exact hg4
  · obtain ⟨a, b, c⟩ := h.dj id ho
    refine ⟨a, b, fun e he => ?_⟩
    rcases List.mem_append.1 he with he | he
    · exact c e (List.mem_append_left _ he)
    · rw [List.mem_singleton.1 he, hid]; exact c g hg
theorem J1.all {σ : Heap} {rv : Nat} {es : List QL} {quan : Int} {ring : List QT} {n : Nat} {NB : List NE} {al al' : List QJ} (h : J1 σ rv es quan ring n NB al) : J1 (σ.set 3 (al'.length, some (.cells (jbC al') ⟨false, none⟩))) rv es quan ring n NB al' := by
  refine ⟨h.q.keep (Alive.set h.q.al _ _ _) fun id ho => set_ne (h.dj id ho).2.1, (set_ne (by decide)).trans h.nb, fun e he => ?_, set_eq h.al, h.pw, h.d4, h.dj⟩
  have := h.d4 e he
  rw [set_ne (by omega)]; exact h.el e he
end Go.Proofs.Ytjaflkgfipaajaa
end
section
set_option linter.unusedVariables false
set_option linter.unusedSimpArgs false
namespace Go.Ab
open Go
section
variable {cx : Cx} {n : Nat} {B : Bs} {k : List AI} {Q : Post} {fr : Fr} {σ : Heap}
inductive Wv : AV → AV → Prop
  | refl {a} : Wv a a
  | nils {st fl sz} : Wv .nils (.sl st fl sz [])
  | sl {st fl st' fl' sz xs} (h1 : st' = true → st = true) (h2 : fl' = true → fl = true) : Wv (.sl st fl sz xs) (.sl st' fl' sz xs)
theorem Wv.rel {r : Rl} {w : World} {v : Value} {a a' : AV} (h : Wv a a') (hv : VRel r w v a) : VRel r w v a' := by
  cases h with
  | refl => exact hv
  | nils => cases hv; exact .sl0 (fun _ => rfl)
  | sl h1 h2 =>
    cases hv with
    | sl0 hf => exact .sl0 (fun h => hf (h2 h))
    | sl hn hc0 hf hI hS hsz f hc hv => exact .sl hn hc0 (fun h => hf (h2 h)) hI (fun h => hS (h1 h)) hsz f hc hv
theorem Wv.one {a a' : AV} (h : Wv a a') (ho : a.one = true) : a'.one = true := by
  cases h with
  | refl => exact ho
  | nils => rfl
  | sl _ _ => rfl
inductive Wvs : List AV → List AV → Prop
  | nil : Wvs [] []
  | cons {a b az bs} (h : Wv a b) (hs : Wvs az bs) : Wvs (a :: az) (b :: bs)
theorem Wvs.len {az bs : List AV} (h : Wvs az bs) : az.length = bs.length := by
  induction h with
  | nil => rfl
  | cons _ _ ih => simp [ih]
theorem Wvs.get {az bs : List AV} (h : Wvs az bs) : ∀ (i : Nat) (h1 : i < az.length) (h2 : i < bs.length), Wv az[i] bs[i] := by
  induction h with
  | nil => intro i h1; simp at h1
  | cons h hs ih =>
    intro i h1 h2
    cases i with
    | zero => exact h
    | succ i => exact ih i (by simpa using h1) (by simpa using h2)
end
end Go.Ab
end
section
set_option linter.unusedVariables false
set_option linter.unusedSimpArgs false
namespace Go.Ab
open Go
section
variable {cx : Cx} {n : Nat} {B : Bs} {k : List AI} {Q : Post} {fr : Fr} {σ : Heap}
theorem wpAny_frontR {Stg : Array Bool → List AV → Heap → Prop} {ops : Array Oper} {m : Nat} {K : List Nat} {Q' : Exit → Act → World → Prop} (hmN : m ≤ ops.size) (hlen : ∀ listed vals σ, Stg listed vals σ → vals.length = m)
    (hread : ∀ j o t, j < m → ops.toList[j]? = some o → t ∈ slotsOf ops.toList o → readOk ops.toList m j t = true)
    (huniq : ∀ i j d, i < m → j < m → dstOf ops.toList i = some d → dstOf ops.toList j = some d → i = j)
    (hch : ∀ j, m < j → j < ops.size → edge ops.toList j (j - 1) = true) (hlo : ∀ j i, edge ops.toList j i = true → i < j)
    (hcl : m < ops.size → ∀ i, i < m → ∃ k, i < k ∧ k ≤ m ∧ edge ops.toList k i = true)
    (hdst : ∀ (j : Nat) (o : Oper), j < m → ops.toList[j]? = some o → dstOk n o.dst = true)
    (hstep : ∀ (listed : Array Bool) (vals : List AV) (σ : Heap), Stg listed vals σ → ∀ (j : Nat) o, j < m → ops.toList[j]? = some o → listed.size = ops.size → ¬ Listed listed j → (∀ i, edge ops.toList j i = true → Listed listed i) → Down ops.toList listed →
      (guardA ops o K (restr ops.toList o (ovl (ops.toList.take j) (vals.take j) fr)) = some false ∧ Stg (listed.setIfInBounds j true) (vals.set j (.tup [])) σ) ∨
      (guardA ops o K (restr ops.toList o (ovl (ops.toList.take j) (vals.take j) fr)) = some true ∧ ∀ r a w, Inv cx r σ w → FRel r w n (restr ops.toList o (ovl (ops.toList.take j) (vals.take j) fr)) a → ∀ Q, o.wp cx.P a w (fun a' w' => ∃ v σ' vals', (∀ i, Listed (listed.setIfInBounds j true) i → vals'[i]? = (vals.set j v)[i]?) ∧ Stg (listed.setIfInBounds j true) vals' σ' ∧ ∃ r' v', a' = a.put o.dst v' ∧ VRel r' w' v' v ∧ Inv cx r' σ' w' ∧ Ext r σ w r' σ' w') Q))
    (hend : ∀ (listed : Array Bool) (vals : List AV) (σ : Heap), Stg listed vals σ → (∀ j, j < m → Listed listed j) → ∀ r a w, Inv cx r σ w → FRel r w n (ovl (ops.toList.take m) vals fr) a → Dfs B a → Ext B.r B.σ B.w r σ w → wpList cx.P ops Q' (ops.toList.drop m) a w) :
    ∀ (f : Nat) (listed : Array Bool) (vals : List AV) (σ : Heap) (r : Rl) (a : Act) (w : World), Stg listed vals σ → listed.size = ops.size → unl listed = f → Down ops.toList listed → (∀ j, m ≤ j → ¬ Listed listed j) →
      FL r w n fr ops.toList m vals listed a → Inv cx r σ w → Dfs B a → Ext B.r B.σ B.w r σ w → wpAny cx.P .any ops Q' f listed a w := by
  have ovlN : ∀ (vals : List AV), vals.length = m → ∀ i, i ≤ m → ∀ vs, (ovl (ops.toList.take i) (vals.take i) fr).get n = .mark vs → fr.get n = .mark vs := by
    intro vals hlen i him vs hm
    rcases ovl_get (ops.toList.take i) (vals.take i) fr n (by simp [hlen]; omega) with ⟨i', o', v', k1, k2, k3, k4⟩ | ⟨k1, k2⟩
    · exfalso
      have hi'i : i' < i := by
        rcases Nat.lt_or_ge i' i with h' | h'
        · exact h'
        · rw [List.getElem?_eq_none (by simp; omega)] at k1; cases k1
      rw [List.getElem?_take_of_lt hi'i] at k1 k3
      have hds : dstOk n o'.dst = true := hdst i' o' (by omega) k1
      rw [k2] at hds
      have := blt_lt hds
      omega
    · rw [← k2]; exact hm
  have fin : ∀ (f : Nat) (listed : Array Bool) (vals : List AV) (σ : Heap) (r : Rl) (a : Act) (w : World), Stg listed vals σ → listed.size = ops.size → unl listed = f → (∀ j, j < m → Listed listed j) → (∀ j, m ≤ j → ¬ Listed listed j) →
      FL r w n fr ops.toList m vals listed a → Inv cx r σ w → Dfs B a → Ext B.r B.σ B.w r σ w → wpAny cx.P .any ops Q' f listed a w := by
    intro f listed vals σ r a w hS hs hf hall hno hfl hi hd hx
    have hlen := hlen _ _ _ hS
    have hcount : unl listed + m = ops.size := by
      have hl : listed.toList = List.replicate m true ++ List.replicate (ops.size - m) false := by
        apply List.ext_getElem
        · simp; omega
        · intro j h1 h2
          have hj : j < listed.size := by simpa using h1
          have h3 : listed.getD j false = listed.toList[j] := by simp [Array.getD_eq_getD_getElem?, hj]
          by_cases hjm : j < m
          · rw [List.getElem_append_left (by simpa using hjm), List.getElem_replicate, ← h3]; exact hall j hjm
          · rw [List.getElem_append_right (by simp; omega), List.getElem_replicate, ← h3]
            have := hno j (by omega)
            unfold Listed at this
            simpa using this
      unfold unl
      rw [hl, List.countP_append, List.countP_replicate, List.countP_replicate]
      simp; omega
    refine wpAny_tail hch hlo f m listed a w (by omega) (Nat.le_refl m) hs (fun i hi' => ⟨fun h => ?_, fun h => hall i h⟩) (hend listed vals σ hS hall r a w hi ⟨hfl.size, fun t => ?_, fun vs hm => ?_⟩ hd hx)
    case refine_3 =>
      refine hfl.defs vs (ovlN vals hlen m (Nat.le_refl _) vs ?_)
      rw [show vals.take m = vals from List.take_of_length_le (by omega)]
      exact hm
    · rcases Nat.lt_or_ge i m with h' | h'
      · exact h'
      · exact absurd h (hno i h')
    · rcases ovl_get (ops.toList.take m) vals fr t (by simp [hlen]; omega) with ⟨i, o, v, h1, h2, h3, h4⟩ | ⟨h1, h2⟩
      · rw [h4]
        have him : i < m := by
          rcases Nat.lt_or_ge i m with h' | h'
          · exact h'
          · rw [List.getElem?_eq_none (by simp; omega)] at h1; cases h1
        rw [List.getElem?_take_of_lt him] at h1
        exact hfl.done i t v him (hall i him) (by simp [dstOf, h1, h2]) h3
      · rw [h2]
        refine hfl.rest t (fun j hj _ hdj => ?_)
        obtain ⟨o, ho, hod⟩ := Option.bind_eq_some_iff.1 hdj
        exact h1 j o (by rw [List.getElem?_take_of_lt hj]; exact ho) hod
  intro f
  induction f with
  | zero =>
    intro listed vals σ r a w hS hs hf hdn hno hfl hi hd hx
    refine fin 0 listed vals σ r a w hS hs hf (fun j hj => ?_) hno hfl hi hd hx
    rcases hb : listed.getD j false with _ | _
    · have := unl_set (by omega) hb
      omega
    · exact hb
  | succ f ih =>
    intro listed vals σ r a w hS hs hf hdn hno hfl hi hd hx
    have hlenS := hlen _ _ _ hS
    by_cases hall : ∀ j, j < m → Listed listed j
    · exact fin (f + 1) listed vals σ r a w hS hs hf hall hno hfl hi hd hx
    have hex : ∃ j, j < m ∧ ¬ Listed listed j := by
      apply Classical.byContradiction
      intro h
      exact hall (fun j hj => Classical.byContradiction fun hl => h ⟨j, hj, hl⟩)
    refine ⟨fun h0 => ?_, fun i hir => ?_⟩
    · obtain ⟨j, h1, h2, h3⟩ := exists_least m hex
      have hjr : j ∈ Region.ready .any ops listed := by
        refine mem_ready.2 ⟨?_, ops[j]'(by omega), Array.getElem?_eq_getElem _, fun e he hb => ?_⟩
        · rw [listed_true (by omega)]; simpa [Listed] using h2
        · have h4 : e.on < j := hlo j e.on (edge_iff.2 ⟨ops[j]'(by omega), Array.getElem?_eq_getElem _, e, he, hb, rfl⟩)
          exact Classical.byContradiction fun h5 => h3 e.on h4 h5
      rw [h0] at hjr; cases hjr
    · obtain ⟨h0, o, ho, hedges⟩ := mem_ready.1 hir
      have hilt := (Array.getElem?_eq_some_iff.1 ho).1
      rw [listed_true (by omega)] at h0
      have hed : ∀ j, edge ops.toList i j = true → Listed listed j := by
        intro j hj
        obtain ⟨o', ho', e, he, hb, hon⟩ := edge_iff.1 hj
        rw [ho] at ho'; cases ho'
        rw [← hon]; exact hedges e he hb
      have him : i < m := by
        rcases Nat.lt_or_ge i m with h' | h'
        · exact h'
        · exfalso
          rcases Nat.eq_or_lt_of_le h' with h'' | h''
          · subst h''
            refine hall (fun j hj => ?_)
            have key : ∀ d j, d + j = m → j < m → Listed listed j := by
              intro d
              induction d using Nat.strongRecOn with
              | _ d ihd =>
                intro j hdj hj
                obtain ⟨k, h1, h2, h3⟩ := hcl hilt j hj
                rcases Nat.eq_or_lt_of_le h2 with h4 | h4
                · subst h4; exact hed j h3
                · exact hdn k j (ihd (m - k) (by omega) k (by omega) h4) h3
            exact key (m - j) j (by omega) hj
          · exact hno (i - 1) (by omega) (hed _ (hch i h'' hilt))
      have hol : ops.toList[i]? = some o := by simpa using ho
      have hst := hstep listed vals σ hS i o him hol hs (by simp [Listed, h0]) hed hdn
      have hdstI := hdst i o him hol
      have hnl : ¬ Listed listed i := by simp [Listed, h0]
      have hfr : FRel r w n (restr ops.toList o (ovl (ops.toList.take i) (vals.take i) fr)) a := by
        refine ⟨hfl.size, fun t => ?_, fun vs hm => ?_⟩
        case refine_2 =>
          unfold restr at hm
          rcases restr_get (slotsOf ops.toList o) (ovl (ops.toList.take i) (vals.take i) fr) n with h | ⟨h1, h2⟩
          · rw [h] at hm; cases hm
          · rw [h2] at hm
            exact hfl.defs vs (ovlN vals hlenS i (by omega) vs hm)
        unfold restr
        rcases restr_get (slotsOf ops.toList o) (ovl (ops.toList.take i) (vals.take i) fr) t with h | ⟨h1, h2⟩
        · rw [h]; exact .top
        · rw [h2]
          have hro := hread i o t him hol h1
          have hrd : ∀ i', i' < m → dstOf ops.toList i' = some t → (i' < i → edge ops.toList i i' = true) ∧ (i < i' → edge ops.toList i' i = true) := by
            intro i' hi' hd'
            have := allB_mem hro _ (List.mem_map.2 ⟨i', List.mem_range.2 hi', rfl⟩)
            rw [eqDst_iff.2 hd'] at this
            simp only at this
            constructor
            · intro hlt
              rw [lt_blt hlt] at this
              exact this
            · intro hlt
              rw [show Nat.blt i' i = false by cases hbb : Nat.blt i' i with | false => rfl | true => (have := blt_lt hbb; omega), show Nat.beq i' i = false by cases hbb : Nat.beq i' i with | false => rfl | true => (have := Nat.eq_of_beq_eq_true hbb; omega)] at this
              exact this
          rcases ovl_get (ops.toList.take i) (vals.take i) fr t (by simp [hlenS]; omega) with ⟨i', o', v', k1, k2, k3, k4⟩ | ⟨k1, k2⟩
          · rw [k4]
            have hi'i : i' < i := by
              rcases Nat.lt_or_ge i' i with h' | h'
              · exact h'
              · rw [List.getElem?_eq_none (by simp; omega)] at k1; cases k1
            rw [List.getElem?_take_of_lt hi'i] at k1 k3
            have hd' : dstOf ops.toList i' = some t := by simp only [dstOf, k1, Option.bind_some, k2]
            exact hfl.done i' t v' (by omega) (hed _ ((hrd i' (by omega) hd').1 hi'i)) hd' k3
          · rw [k2]
            refine hfl.rest t (fun j hj hlj hdj => ?_)
            rcases Nat.lt_trichotomy j i with h' | h' | h'
            · obtain ⟨oj, hoj, hod⟩ := Option.bind_eq_some_iff.1 hdj
              exact k1 j oj (by rw [List.getElem?_take_of_lt h']; exact hoj) hod
            · subst h'; exact hnl hlj
            · exact hnl (hdn j i hlj ((hrd j hj hdj).2 h'))
      have next : ∀ (r' : Rl) (w' : World) (v' : Value) (v : AV) (σ' : Heap) (vals' : List AV), (∀ k, Listed (listed.setIfInBounds i true) k → vals'[k]? = (vals.set i v)[k]?) → Stg (listed.setIfInBounds i true) vals' σ' → VRel r' w' v' v → Inv cx r' σ' w' → Ext r σ w r' σ' w' → wpAny cx.P .any ops Q' f (listed.setIfInBounds i true) (a.put o.dst v') w' := by
        intro r' w' v' v σ' vals' hva hS' hv' hi' hx'
        have hun := unl_set (by omega) h0
        refine ih _ vals' σ' r' _ w' hS' (by simpa using hs) (by omega) (fun j l hj he => ?_) (fun j hj hl => ?_) ⟨?_, fun j d u hj hl hdj hu => ?_, fun t ht => ?_, fun vs hm => by rw [Act.put_defers]; exact (hfl.defs vs hm).mono (hx'.grow hi)⟩ hi' (hd.put _ _) (hx.trans hx')
        · rw [listed_set (by omega)] at hj ⊢
          rcases hj with rfl | hj
          · exact .inr (hed l he)
          · exact .inr (hdn j l hj he)
        · rw [listed_set (by omega)] at hl
          rcases hl with rfl | hl
          · omega
          · exact hno j hj hl
        · cases hod : o.dst <;> simp [Act.put, hfl.size]
        · have hg := hx'.grow hi
          rw [hva j hl] at hu
          rw [listed_set (by omega)] at hl
          by_cases hji : j = i
          · subst hji
            rw [List.getElem?_set, if_pos rfl, if_pos (by omega)] at hu; cases hu
            have hod : o.dst = some d := by simpa [dstOf, hol] using hdj
            rw [hod]
            rw [hod] at hdstI
            simp only [Act.put]
            rw [getD_setIfInBounds (by rw [hfl.size]; exact blt_lt hdstI), if_pos rfl]
            exact hv'
          · have hl' := hl.resolve_left hji
            rw [List.getElem?_set, if_neg (Ne.symm hji)] at hu
            have hold := (hfl.done j d u hj hl' hdj hu).mono hg
            cases hod : o.dst with
            | none => exact hold
            | some d' =>
              have hne : d' ≠ d := fun e => hji (huniq j i d hj him hdj (by subst e; simp [dstOf, hol, hod]))
              rw [hod] at hdstI
              simp only [Act.put]
              rw [getD_setIfInBounds (by rw [hfl.size]; exact blt_lt hdstI), if_neg hne]
              exact hold
        · have hg := hx'.grow hi
          have hold := (hfl.rest t (fun j hj hl => ht j hj ((listed_set (by omega)).2 (.inr hl)))).mono hg
          have hti := ht i him ((listed_set (by omega)).2 (.inl rfl))
          cases hod : o.dst with
          | none => exact hold
          | some d' =>
            have hne : d' ≠ t := fun e => hti (by subst e; simp [dstOf, hol, hod])
            rw [hod] at hdstI
            simp only [Act.put]
            rw [getD_setIfInBounds (by rw [hfl.size]; exact blt_lt hdstI), if_neg hne]
            exact hold
      unfold wpOp
      simp only [ho]
      rcases hst with ⟨hg, hS'⟩ | ⟨hg, hgo⟩
      · rw [guardA_wanted (cx := cx) hfr hg]
        simp only [Bool.false_eq_true, if_false]
        exact next r w undef (.tup []) σ _ (fun _ _ => rfl) hS' (.tup rfl (fun i h => absurd h (by simp))) hi (Ext.refl _ _ _)
      · rw [guardA_wanted (cx := cx) hfr hg]
        simp only [if_true]
        refine .inl (Oper.wp_mono (fun a' w' h => ?_) (hgo r a w hi hfr Q'))
        obtain ⟨v, σ', vals', hva, hS', r', v', rfl, h2, h3, h4⟩ := h
        exact next r' w' v' v σ' vals' hva hS' h2 h3 h4
def StepR (cx : Cx) (n : Nat) (all : Array Oper) (σ : Heap) (R : AV → Heap → Prop) (K : List Nat) (fr : Fr) (o : Oper) : Prop :=
  guardA all o K fr = some true ∧ ∀ r a w, Inv cx r σ w → FRel r w n fr a → ∀ Q, o.wp cx.P a w (fun a' w' => ∃ v σ', R v σ' ∧ ∃ r' v', a' = a.put o.dst v' ∧ VRel r' w' v' v ∧ Inv cx r' σ' w' ∧ Ext r σ w r' σ' w') Q
theorem specR_step {σ σ' : Heap} {R : AV → Heap → Prop} {K : List Nat} {all : Array Oper} {o : Oper} {v : AV} (hg : guardA all o K fr = some true) (h : OpSpec cx n fr σ o v σ') (hR : R v σ') : StepR cx n all σ R K fr o := by
  refine ⟨hg, fun r a w hi hf Q => ?_⟩
  obtain ⟨r', w', v', hrun, hv, hi', hx'⟩ := h r a w hi hf
  unfold Oper.wp
  rcases hrun with hrun | ⟨hrun, hu⟩
  · rw [hrun]; exact ⟨v, σ', hR, r', v', rfl, hv, hi', hx'⟩
  · rw [hrun]; subst hu; exact ⟨v, σ', hR, r', _, rfl, hv, hi', hx'⟩
def maskL (D : List Nat) : Nat → List AV → List AV
  | _, [] => []
  | i, x :: r => (match memN i D with | true => .top | false => x) :: maskL D (i + 1) r
theorem maskL_get {D : List Nat} : ∀ {l l' : List AV} {i k : Nat}, maskL D i l = maskL D i l' → i + k ∉ D → l[k]? = l'[k]?
  | [], [], _, _, _, _ => rfl
  | [], y :: r', _, _, h, _ => by cases h
  | x :: r, [], _, _, h, _ => by cases h
  | x :: r, y :: r', i, 0, h, hk => by
    have h := (List.cons.inj h).1
    cases hb : memN i D with
    | true => exact absurd (memN_iff.1 hb) hk
    | false => rw [hb] at h; simp only at h; rw [h]; rfl
  | x :: r, y :: r', i, k + 1, h, hk => maskL_get (l := r) (l' := r') (i := i + 1) (k := k) (List.cons.inj h).2 (by rw [show i + 1 + k = i + (k + 1) by omega]; exact hk)
theorem S_drawRU {id : Nat} {ops : Array Oper} (j1 j2 m : Nat) (D1 D2 E : List Nat) (rs : AV → AV → List AV) (R1 R2 : AV → Heap → Prop) (R : AV → AV → Heap → Prop) (Good : Heap → Prop) {C : Heap → AV → AV → List Prop} {V : AV → AV → List AV} {fr' : AV → AV → Fr} (hP : cx.P.follows .mixedOrders = true) (hchk : drawOk ops.toList m = true) (hmN : Nat.ble m ops.size = true) (hj : Nat.blt j1 j2 = true) (hj2 : Nat.blt j2 m = true) (hds : (ops.toList.take m).all (fun o => dstOk n o.dst) = true)
    (hrun : ∀ s v1 v2, runZ cx (guardKs ops.toList ops.toList) n ops ops.toList s (j1 :: j2 :: E) [] (ops.toList.take m) 0 fr (rs v1 v2) (fun C vs f => some (C, vs, f)) = some (C s v1 v2, V v1 v2, fr' v1 v2)) (hV1 : ∀ u v1 v2, maskL (j1 :: D1) 0 (V v1 v2) = maskL (j1 :: D1) 0 (V u v2)) (hV2 : ∀ u v1 v2, maskL (j2 :: D2) 0 (V v1 v2) = maskL (j2 :: D2) 0 (V v1 u)) (hW1 : ∀ v1 v2, (V v1 v2)[j1]? = some v1) (hW2 : ∀ v1 v2, (V v1 v2)[j2]? = some v2)
    (hD1 : D1.all (fun i => edge ops.toList i j1) = true) (hD2 : D2.all (fun i => edge ops.toList i j2) = true)
    (hE : ∀ j o v1 v2 s v, j ∈ E → ops.toList[j]? = some o → (V v1 v2)[j]? = some v → Good s → StepX cx n ops s s (guardKs ops.toList ops.toList) (restr ops.toList o (ovl (ops.toList.take j) ((V v1 v2).take j) fr)) o v)
    (hg0 : Good σ) (hg1 : ∀ v1 s, R1 v1 s → Good s) (hg2 : ∀ v2 s, R2 v2 s → Good s) (hg3 : ∀ v1 v2 s, R v1 v2 s → Good s) (hC : ∀ s v1 v2, Good s → AllP (C s v1 v2))
    (hs1 : ∀ o, ops.toList[j1]? = some o → StepR cx n ops σ R1 (guardKs ops.toList ops.toList) (restr ops.toList o (ovl (ops.toList.take j1) ((V .top .top).take j1) fr)) o)
    (hs2 : ∀ o, ops.toList[j2]? = some o → StepR cx n ops σ R2 (guardKs ops.toList ops.toList) (restr ops.toList o (ovl (ops.toList.take j2) ((V .top .top).take j2) fr)) o)
    (hs12 : ∀ v1 s, R1 v1 s → ∀ o, ops.toList[j2]? = some o → StepR cx n ops s (R v1) (guardKs ops.toList ops.toList) (restr ops.toList o (ovl (ops.toList.take j2) ((V v1 .top).take j2) fr)) o)
    (hs21 : ∀ v2 s, R2 v2 s → ∀ o, ops.toList[j1]? = some o → StepR cx n ops s (fun v1 t => R v1 v2 t) (guardKs ops.toList ops.toList) (restr ops.toList o (ovl (ops.toList.take j1) ((V .top v2).take j1) fr)) o)
    (hk : ∀ v1 v2 s, R v1 v2 s → S cx n B (.ops ops (ops.toList.drop m) [] :: k) Q (fr' v1 v2) s) : S cx n B (.code (.region id ops true) :: k) Q fr σ := by
  intro r a w hi hf hd hx
  obtain ⟨c1, c2, c3, c4, c5⟩ := drawOk_spec hchk
  have key : ∀ s v1 v2, (V v1 v2).length = (ops.toList.take m).length ∧ fr' v1 v2 = ovl (ops.toList.take m) (V v1 v2) fr ∧ (Good s → ∀ (j : Nat) (o : Oper) (v : AV), (ops.toList.take m)[j]? = some o → (V v1 v2)[j]? = some v → 0 + j ∉ j1 :: j2 :: E → StepX cx n ops s s (guardKs ops.toList ops.toList) (restr ops.toList o (ovl ((ops.toList.take m).take j) ((V v1 v2).take j) fr)) o v) := fun s v1 v2 => by
    obtain ⟨C', vals', fr'', e, k1, k2, k3⟩ := runZ_spec _ _ _ _ _ (hrun s v1 v2)
    simp only [Option.some.injEq, Prod.mk.injEq] at e
    obtain ⟨rfl, rfl, rfl⟩ := e
    exact ⟨k1, k2, fun hs j o v a b c => k3 (hC s v1 v2 hs) j o v a b c List.not_mem_nil⟩
  have hmN' := Nat.le_of_ble_eq_true hmN
  have hjlt := blt_lt hj
  have hjlt2 := blt_lt hj2
  have hlen : ∀ v1 v2, (V v1 v2).length = m := fun v1 v2 => by rw [(key σ v1 v2).1, List.length_take, Array.length_toList]; omega
  obtain ⟨hi1, hx1⟩ := hi.heap_eq (w' := { w with drawn := w.drawn + 1 }) rfl rfl rfl rfl
  have hf1 := hf.mono (hx1.grow hi)
  have nl : ∀ {j : Nat}, ¬ Listed (Array.replicate ops.size false) j := by
    intro j hj
    unfold Listed at hj
    rw [Array.getD_eq_getD_getElem?, Array.getElem?_replicate] at hj
    split at hj <;> simp at hj
  have hgs : ∀ (listed : Array Bool) (i j : Nat), i < listed.size → (listed.setIfInBounds i true).getD j false = if j = i then true else listed.getD j false := by
    intro listed i j hil
    simp only [Array.getD_eq_getD_getElem?, Array.getElem?_setIfInBounds]
    by_cases h : i = j
    · subst h; simp [hil]
    · rw [if_neg h, if_neg (Ne.symm h)]
  obtain ⟨Stg, hStg⟩ : ∃ Stg : Array Bool → List AV → Heap → Prop, Stg = fun listed vals s => (¬ Listed listed j1 ∧ ¬ Listed listed j2 ∧ vals = V .top .top ∧ s = σ) ∨ (Listed listed j1 ∧ ¬ Listed listed j2 ∧ ∃ v1, R1 v1 s ∧ vals = V v1 .top) ∨ (¬ Listed listed j1 ∧ Listed listed j2 ∧ ∃ v2, R2 v2 s ∧ vals = V .top v2) ∨ (Listed listed j1 ∧ Listed listed j2 ∧ ∃ v1 v2, R v1 v2 s ∧ vals = V v1 v2) := ⟨_, rfl⟩
  have hform : ∀ listed vals s, Stg listed vals s → Good s ∧ ∃ v1 v2, vals = V v1 v2 := fun listed vals s h => by
    rw [hStg] at h
    rcases h with ⟨_, _, rfl, rfl⟩ | ⟨_, _, v1, h1, rfl⟩ | ⟨_, _, v2, h1, rfl⟩ | ⟨_, _, v1, v2, h1, rfl⟩
    · exact ⟨hg0, _, _, rfl⟩
    · exact ⟨hg1 _ _ h1, _, _, rfl⟩
    · exact ⟨hg2 _ _ h1, _, _, rfl⟩
    · exact ⟨hg3 _ _ _ h1, _, _, rfl⟩
  have hdst : ∀ (j : Nat) (o : Oper), j < m → ops.toList[j]? = some o → dstOk n o.dst = true := fun j o hjm ho => List.all_eq_true.1 hds o (List.mem_of_getElem? (by rw [List.getElem?_take_of_lt hjm]; exact ho))
  refine wp_region_any hP ?_
  refine wpAny_frontR (Stg := Stg) (cx := cx) (n := n) (B := B) (fr := fr) (m := m) (K := guardKs ops.toList ops.toList) hmN' (fun listed vals s hS => ?_) c1 c2 c3 c4 c5 hdst (fun listed vals s hS j o hjm ho hsz hnl hed hdn => ?_) (fun listed vals s hS hall r a w hi hf hd hx => ?_) ops.size _ (V .top .top) σ r a _ ?_ (by simp) ?_ (fun j i hj => ?_) (fun j _ => ?_) ⟨hf1.size, fun j d v _ hj => ?_, fun t _ => hf1.get t, hf1.defs⟩ hi1 hd (hx.trans hx1)
  · obtain ⟨_, v1, v2, rfl⟩ := hform _ _ _ hS
    exact hlen v1 v2
  · have hset : ∀ i, Listed (listed.setIfInBounds j true) i ↔ i = j ∨ Listed listed i := fun i => by
      unfold Listed
      rw [hgs _ _ _ (by omega)]
      by_cases e : i = j
      · subst e; simp
      · simp [e]
    have hag1 : j = j1 → ∀ v1 v2 u, ∀ i, Listed (listed.setIfInBounds j true) i → (V u v2)[i]? = ((V v1 v2).set j u)[i]? := fun e v1 v2 u i hli => by
      subst e
      rw [List.getElem?_set]
      by_cases hij : j = i
      · subst hij
        rw [if_pos rfl, if_pos (by rw [hlen]; exact hjm)]; exact hW1 u v2
      · rw [if_neg hij]
        have hli := ((hset i).1 hli).resolve_left (Ne.symm hij)
        refine (maskL_get (i := 0) (hV1 u v1 v2) ?_).symm
        rw [Nat.zero_add]
        intro hm
        rcases List.mem_cons.1 hm with h | h
        · exact hij h.symm
        · exact hnl (hdn i j hli (List.all_eq_true.1 hD1 i h))
    have hag2 : j = j2 → ∀ v1 v2 u, ∀ i, Listed (listed.setIfInBounds j true) i → (V v1 u)[i]? = ((V v1 v2).set j u)[i]? := fun e v1 v2 u i hli => by
      subst e
      rw [List.getElem?_set]
      by_cases hij : j = i
      · subst hij
        rw [if_pos rfl, if_pos (by rw [hlen]; exact hjm)]; exact hW2 v1 u
      · rw [if_neg hij]
        have hli := ((hset i).1 hli).resolve_left (Ne.symm hij)
        refine (maskL_get (i := 0) (hV2 u v1 v2) ?_).symm
        rw [Nat.zero_add]
        intro hm
        rcases List.mem_cons.1 hm with h | h
        · exact hij h.symm
        · exact hnl (hdn i j hli (List.all_eq_true.1 hD2 i h))
    by_cases e1 : j = j1
    · have hgA := hag1 e1
      subst e1
      rw [hStg] at hS
      rcases hS with ⟨_, hn2, rfl, rfl⟩ | ⟨h1, _⟩ | ⟨_, h2, v2, hR2, rfl⟩ | ⟨h1, _⟩
      · obtain ⟨hg, hgo⟩ := hs1 o ho
        refine .inr ⟨hg, fun r a w hi hf Q => Oper.wp_mono (fun a' w' h => ?_) (hgo r a w hi hf Q)⟩
        obtain ⟨v, σ', hR, hrest⟩ := h
        refine ⟨v, σ', V v .top, hgA .top .top v, ?_, hrest⟩
        rw [hStg]
        exact .inr (.inl ⟨(hset j).2 (.inl rfl), fun h => ((hset j2).1 h).elim (fun e => by omega) hn2, v, hR, rfl⟩)
      · exact absurd h1 hnl
      · obtain ⟨hg, hgo⟩ := hs21 v2 s hR2 o ho
        refine .inr ⟨hg, fun r a w hi hf Q => Oper.wp_mono (fun a' w' h => ?_) (hgo r a w hi hf Q)⟩
        obtain ⟨v, σ', hR, hrest⟩ := h
        refine ⟨v, σ', V v v2, hgA .top v2 v, ?_, hrest⟩
        rw [hStg]
        exact .inr (.inr (.inr ⟨(hset j).2 (.inl rfl), (hset j2).2 (.inr h2), v, v2, hR, rfl⟩))
      · exact absurd h1 hnl
    · by_cases e2 : j = j2
      · have hgB := hag2 e2
        subst e2
        rw [hStg] at hS
        rcases hS with ⟨hn1, _, rfl, rfl⟩ | ⟨h1, _, v1, hR1, rfl⟩ | ⟨_, h2, _⟩ | ⟨_, h2, _⟩
        · obtain ⟨hg, hgo⟩ := hs2 o ho
          refine .inr ⟨hg, fun r a w hi hf Q => Oper.wp_mono (fun a' w' h => ?_) (hgo r a w hi hf Q)⟩
          obtain ⟨v, σ', hR, hrest⟩ := h
          refine ⟨v, σ', V .top v, hgB .top .top v, ?_, hrest⟩
          rw [hStg]
          exact .inr (.inr (.inl ⟨fun h => ((hset j1).1 h).elim (fun e => e1 e.symm) hn1, (hset j).2 (.inl rfl), v, hR, rfl⟩))
        · obtain ⟨hg, hgo⟩ := hs12 v1 s hR1 o ho
          refine .inr ⟨hg, fun r a w hi hf Q => Oper.wp_mono (fun a' w' h => ?_) (hgo r a w hi hf Q)⟩
          obtain ⟨v, σ', hR, hrest⟩ := h
          refine ⟨v, σ', V v1 v, hgB v1 .top v, ?_, hrest⟩
          rw [hStg]
          exact .inr (.inr (.inr ⟨(hset j1).2 (.inr h1), (hset j).2 (.inl rfl), v1, v, hR, rfl⟩))
        · exact absurd h2 hnl
        · exact absurd h2 hnl
      · obtain ⟨hgd, v1, v2, hv⟩ := hform _ _ _ hS
        obtain ⟨v, hvj⟩ : ∃ v, (V v1 v2)[j]? = some v := ⟨(V v1 v2)[j]'(by rw [hlen]; exact hjm), List.getElem?_eq_getElem _⟩
        have hX : StepX cx n ops s s (guardKs ops.toList ops.toList) (restr ops.toList o (ovl (ops.toList.take j) (vals.take j) fr)) o v := by
          rw [hv]
          by_cases hjE : j ∈ E
          · exact hE j o v1 v2 s v hjE ho hvj hgd
          · have hX := (key s v1 v2).2.2 hgd j o v (by rw [List.getElem?_take_of_lt hjm]; exact ho) hvj (by rw [Nat.zero_add]; simp [e1, e2, hjE])
            rw [List.take_take, Nat.min_eq_left (by omega)] at hX
            exact hX
        have hsame : vals.set j v = vals := by
          rw [hv]
          obtain ⟨hlt, hge⟩ := List.getElem?_eq_some_iff.1 hvj
          rw [← hge, List.set_getElem_self]
        have hkeep : Stg (listed.setIfInBounds j true) (vals.set j v) s := by
          rw [hsame]
          rw [hStg] at hS ⊢
          rcases hS with ⟨h1, h2, h3⟩ | ⟨h1, h2, h3⟩ | ⟨h1, h2, h3⟩ | ⟨h1, h2, h3⟩
          · exact .inl ⟨fun h => ((hset j1).1 h).elim (fun e => e1 e.symm) h1, fun h => ((hset j2).1 h).elim (fun e => e2 e.symm) h2, h3⟩
          · exact .inr (.inl ⟨(hset j1).2 (.inr h1), fun h => ((hset j2).1 h).elim (fun e => e2 e.symm) h2, h3⟩)
          · exact .inr (.inr (.inl ⟨fun h => ((hset j1).1 h).elim (fun e => e1 e.symm) h1, (hset j2).2 (.inr h2), h3⟩))
          · exact .inr (.inr (.inr ⟨(hset j1).2 (.inr h1), (hset j2).2 (.inr h2), h3⟩))
        rcases hX.2 with ⟨hg, rfl, _⟩ | ⟨hg, hgo⟩
        · exact .inl ⟨hg, hkeep⟩
        · refine .inr ⟨hg, fun r a w hi hf Q => Oper.wp_mono (fun a' w' h => ?_) (hgo r a w hi hf Q)⟩
          obtain ⟨r', v', h1, h2, h3, h4⟩ := h
          exact ⟨v, s, _, fun _ _ => rfl, hkeep, r', v', h1, h2, h3, h4⟩
  · rw [hStg] at hS
    rcases hS with ⟨h1, _⟩ | ⟨_, h2, _⟩ | ⟨h1, _⟩ | ⟨_, _, v1, v2, h1, rfl⟩
    · exact absurd (hall j1 (by omega)) h1
    · exact absurd (hall j2 hjlt2) h2
    · exact absurd (hall j1 (by omega)) h1
    · have := hk v1 v2 s h1
      rw [(key σ v1 v2).2.1] at this
      exact this r a w hi hf hd hx
  · rw [hStg]; exact .inl ⟨nl, nl, rfl, rfl⟩
  · unfold unl; simp [List.countP_replicate]
  · exact absurd hj nl
  · exact nl
  · exact absurd hj nl
end
end Go.Ab
end
section
set_option linter.unusedVariables false
set_option linter.unusedSimpArgs false
set_option maxRecDepth 20000
set_option maxHeartbeats 4000000
namespace Go.Proofs.Ytjaflkgfipaajaa
open Go Go.Ab
theorem alloc_lastF {σ : Heap} (h : Alive σ) (b : Box) : allocH σ b = (σ.length, 0, σ ++ [(0, some b)]) := h.alloc b
theorem texts_snocF (l : List Nm) (x : Nm) : texts l ++ [.str x] = texts (l ++ [x]) := by simp [texts]
theorem setRange_1 {cs : List AV} {i : Nat} {x : AV} (h : i < cs.length) : setRange cs i [x] = cs.set i x := by
  apply List.ext_getElem?
  intro k
  rw [setRange_get _ _ _ (by simp; omega), List.getElem?_set]
  by_cases hk : i = k
  · subst hk; simp [h]
  · rw [if_neg (by simp; omega), if_neg hk]
theorem rnF_job {costs : List (List Int)} {t k : Nat} {x : QT} {y : QJ} (hx : x ∈ rnF costs t (k + 1)) (hy : y ∈ x.jobs) : y = fJ costs t k ∨ ∃ x' ∈ rnF costs t k, y ∈ x'.jobs := by
  rcases List.mem_append.1 (show x ∈ rgF costs t ++ ptF costs t (k + 1) from hx) with hx | hx
  · exact .inr ⟨x, List.mem_append_left _ hx, hy⟩
  · obtain ⟨_, rfl⟩ := ptF_mem hx
    have hy : y ∈ jobsF costs t (k + 1) := hy
    rw [jobsF_snoc] at hy
    rcases List.mem_append.1 hy with hy | hy
    · refine .inr ⟨⟨((t + 1 : Nat) : Int), 0, false, jobsF costs t k⟩, List.mem_append_right _ ?_, hy⟩
      unfold ptF
      have : k ≠ 0 := by rintro rfl; cases hy
      rw [if_neg this]; exact List.mem_singleton.2 rfl
    · exact .inl (List.mem_singleton.1 hy)
def funC (n : Nat) (f : Nat → Int) : List AV := (List.range n).map fun a => .int .i64 (f a)
theorem funC_len (n : Nat) (f : Nat → Int) : (funC n f).length = n := by simp [funC]
theorem funC_at {n : Nat} {f : Nat → Int} {a : Nat} (h : a < n) : ((funC n f).drop (offN 0 (mulN ((a : Int)).toNat 1)))[0]? = some (.int .i64 (f a)) := by
  rw [offN_eq, mulN_eq, Int.toNat_natCast, Nat.zero_add, Nat.mul_one, List.getElem?_drop, Nat.add_zero]
  simp [funC, h]
theorem funC_upd {n : Nat} {f : Nat → Int} {a : Nat} (h : a < n) (x : Int) : (funC n f).set a (.int .i64 x) = funC n (upd f a x) := by
  apply List.ext_getElem?
  intro k
  rw [List.getElem?_set]
  by_cases hk : a = k
  · subst hk
    rw [if_pos rfl, if_pos (by rw [funC_len]; exact h)]
    simp [funC, h, upd]
  · rw [if_neg hk]
    unfold funC
    rw [List.getElem?_map, List.getElem?_map]
    cases hq : (List.range n)[k]? with
    | none => rfl
    | some y =>
      obtain ⟨h1, h2⟩ := List.getElem?_eq_some_iff.1 hq
      have : y = k := by rw [← h2]; simp
      subst this
      show some (AV.int .i64 (f y)) = some (.int .i64 (upd f a x y))
      rw [upd_ne (Ne.symm hk)]
structure J2 (σ : Heap) (rv : Nat) (es : List QL) (quan : Int) (ring : List QT) (n : Nat) (NB : List NE) (gb cb : Nat) (got : Nat → Int) (came : Nat → Nat) : Prop where
  q : QAt σ 0 1 rv es quan ring
  nb : σ[2]? = some (0, some (.cells (nbC n NB) ⟨false, none⟩))
  el : ∀ e ∈ NB, σ[e.id]? = some (e.ver, some (.cells (texts e.ns) ⟨false, none⟩))
  g : σ[gb]? = some (0, some (.cells (funC n got) ⟨false, none⟩))
  c : σ[cb]? = some (0, some (.cells (funC n fun a => ((came a : Nat) : Int)) ⟨false, none⟩))
  d : gb ≠ cb ∧ gb ≠ 2 ∧ cb ≠ 2 ∧ ∀ e ∈ NB, e.id ≠ gb ∧ e.id ≠ cb
  dj : ∀ id, Own 0 1 es id → id ≠ 2 ∧ id ≠ gb ∧ id ≠ cb ∧ ∀ e ∈ NB, id ≠ e.id
theorem J2.put {σ σ' : Heap} {rv rv' : Nat} {es es' : List QL} {quan : Int} {ring ring' : List QT} {n : Nat} {NB : List NE} {gb cb : Nat} {got : Nat → Int} {came : Nat → Nat} (h : J2 σ rv es quan ring n NB gb cb got came) (hq : QAt σ' 0 1 rv' es' quan ring') (hk : QKeep σ σ' (Own 0 1 es) (Own 0 1 es')) : J2 σ' rv' es' quan ring' n NB gb cb got came := by
  have l2 := lt_of_get h.nb
  have l3 := lt_of_get h.g
  have l4 := lt_of_get h.c
  refine ⟨hq, ?_, fun e he => ?_, ?_, ?_, h.d, fun id ho => ?_⟩
  · rw [hk.same _ l2 fun ho => (h.dj _ ho).1 rfl]; exact h.nb
  · rw [hk.same _ (lt_of_get (h.el e he)) fun ho => (h.dj _ ho).2.2.2 e he rfl]; exact h.el e he
  · rw [hk.same _ l3 fun ho => (h.dj _ ho).2.1 rfl]; exact h.g
  · rw [hk.same _ l4 fun ho => (h.dj _ ho).2.2.1 rfl]; exact h.c
  · rcases hk.new id ho with h' | h'
    · exact h.dj id h'
    · exact ⟨by omega, by omega, by omega, fun e he => by have := lt_of_get (h.el e he); omega⟩
theorem J2.app {σ : Heap} {rv : Nat} {es : List QL} {quan : Int} {ring : List QT} {n : Nat} {NB : List NE} {gb cb : Nat} {got : Nat → Int} {came : Nat → Nat} (h : J2 σ rv es quan ring n NB gb cb got came) (v : Nat) (x : Box) : J2 (σ ++ [(v, some x)]) rv es quan ring n NB gb cb got came :=
  ⟨h.q.app v x, app_get h.nb, fun e he => app_get (h.el e he), app_get h.g, app_get h.c, h.d, h.dj⟩
theorem J2.setC {σ : Heap} {rv : Nat} {es : List QL} {quan : Int} {ring : List QT} {n : Nat} {NB : List NE} {gb cb : Nat} {got : Nat → Int} {came came' : Nat → Nat} (h : J2 σ rv es quan ring n NB gb cb got came) : J2 (σ.set cb (0, some (.cells (funC n fun a => ((came' a : Nat) : Int)) ⟨false, none⟩))) rv es quan ring n NB gb cb got came' := by
  obtain ⟨d1, d2, d3, d4⟩ := h.d
  exact ⟨h.q.keep (Alive.set h.q.al _ _ _) fun id ho => set_ne (h.dj id ho).2.2.1, (set_ne (Ne.symm d3)).trans h.nb, fun e he => (set_ne (d4 e he).2).trans (h.el e he), (set_ne d1).trans h.g, set_eq h.c, h.d, h.dj⟩
theorem J2.setG {σ : Heap} {rv : Nat} {es : List QL} {quan : Int} {ring : List QT} {n : Nat} {NB : List NE} {gb cb : Nat} {got got' : Nat → Int} {came : Nat → Nat} (h : J2 σ rv es quan ring n NB gb cb got came) : J2 (σ.set gb (0, some (.cells (funC n got') ⟨false, none⟩))) rv es quan ring n NB gb cb got' came := by
  obtain ⟨d1, d2, d3, d4⟩ := h.d
  exact ⟨h.q.keep (Alive.set h.q.al _ _ _) fun id ho => set_ne (h.dj id ho).2.1, (set_ne (Ne.symm d2)).trans h.nb, fun e he => (set_ne (d4 e he).1).trans (h.el e he), set_eq h.g, (set_ne (Ne.symm d1)).trans h.c, h.d, h.dj⟩
theorem QueueFair_ok (quan : Int) (costs : List (List Int)) (hq : -9223372036854775808 ≤ quan ∧ quan ≤ 9223372036854775807) (hb : avB (.sl true false 1 (rowsA costs)) ≤ 1048576) (hcz : ∀ r ∈ costs, ∀ z ∈ r, IsI64 z) :
    Calc cx 3 [.int .i64 quan, .sl true false 1 (rowsA costs)] (.bool true) :=
  pure_intro (fun a w => Try.call3 a w) Try.func3 rfl Try.ntmps3 rfl .bool fun B => by
    have hcl := rowsA_len costs
    have hll : costs.length ≤ 1048576 := by
      have h1 := avS_len (rowsA costs)
      have h2 : avS (rowsA costs) ≤ 1048576 := hb
      omega
    have hrl : ∀ r ∈ costs, r.length ≤ 1048576 := fun r hr => Nat.le_trans (rowsA_bulk costs r hr) hb
    have hB := queueBegun_ok
    by_cases hqq : 1 ≤ quan ∧ quan ≤ 1000
    case neg =>
      have hN := NewE_ok quan (by omega)
      refine pao [.v (.bool true), .b false, .v (.tup [.nilp, .int .i64 3]), .b true, .b true] rfl ?_ ?_
      · (repeat' with_reducible apply AllP_cons) <;> try exact aC
        · exact ⟨[], hB, .nil _⟩
        · exact ⟨_, hN, .cons (.refl .int) (.nil _)⟩
      exact S_retc .bool rfl trivial rfl
    have hN := New_ok quan hqq
    obtain ⟨n, hn⟩ : ∃ n, n = min costs.length 5 := ⟨_, rfl⟩
    have hn5 : n ≤ 5 := by omega
    have hnc : n ≤ costs.length := by omega
    have hnI : (min (((rowsA costs).length : Nat) : Int) 5) = (n : Int) := by rw [hcl]; omega
    refine pao [.v (.bool true), .b false, .f (.tup [.ptr 0 0 0, .int .i64 0]) (fun _ => newQ quan), .b false, .b false, .s] rfl ?_ ?_
    · (repeat' with_reducible apply AllP_cons) <;> try exact aC
      · exact ⟨[], hB, .nil _⟩
    refine S_ghost (id := 0) (gid := 1) (gver := 0) (j := 1) (σ' := newQ quan ++ [(0, some (.cells [] ⟨false, none⟩))]) 1 ⟨false, none⟩ rfl rfl rfl (by decide) ⟨.skip, _, .inr ⟨_, _, _, rfl⟩⟩ ?_
    refine S_heap (newH quan) rfl ?_
    refine pao [.f (.ms 2 0 0 n 1 false) (fun t => t ++ [(0, some (.cells (nbC n []) ⟨false, none⟩))])] rfl ?_ ?_
    · (repeat' with_reducible apply AllP_cons) <;> try exact aC
      · exact OpSpec.makeE (m := n) (z := .nils) rfl rfl rfl rfl (by show AV.int .i64 (min (((rowsA costs).length : Nat) : Int) 5) = _; rw [hnI]) (by show AV.int .i64 (min (((rowsA costs).length : Nat) : Int) 5) = _; rw [hnI]) rfl (newH_at quan).al (by show 24 * n ≤ _; omega) (by omega)
    refine S_ghostF (t := 10) (gid := 3) (gver := 0) (σ' := newH quan ++ [(0, some (.cells (nbC n []) ⟨false, none⟩)), (0, some (.cells [] ⟨false, none⟩))]) 3 ⟨false, none⟩ rfl rfl ⟨_, _, .inl rfl⟩ ?_
    have h0 : J1 (newH quan ++ [(0, some (.cells (nbC n []) ⟨false, none⟩)), (0, some (.cells [] ⟨false, none⟩))]) 0 [] quan (rgF costs 0) n [] [] := by
      refine ⟨(newH_at quan).apps (fun e he => ?_), rfl, (fun e he => by cases he), rfl, .nil, (fun e he => by cases he), fun id ho => ?_⟩
      · simp only [List.mem_cons, List.not_mem_nil, or_false] at he
        rcases he with rfl | rfl <;> exact ⟨_, rfl⟩
      · rcases ho with rfl | rfl | ⟨e, he, _⟩
        · exact ⟨by decide, by decide, fun e he => by cases he⟩
        · exact ⟨by decide, by decide, fun e he => by cases he⟩
        · cases he
    refine S_while (α := ((Heap × Nat × List QL) × (List NE × List QJ × Int)) × Nat) (fun u => [(0, .int .i64 quan), (1, .sl true false 1 (rowsA costs)), (5, .ptr 0 0 0), (7, .int .i64 (n : Nat)), (8, .ms 2 0 0 n 1 false), (9, .int .i64 u.1.2.2.2), (10, .ms 3 u.1.2.2.1.length 0 u.1.2.2.1.length 3 false), (11, .int .i64 (u.2 : Nat))]) (fun u => u.1.1.1)
      (fun u => J1 u.1.1.1 u.1.1.2.1 u.1.1.2.2 quan (rgF costs u.2) n u.1.2.1 u.1.2.2.1 ∧ u.2 ≤ n ∧ u.1.2.1.map NE.ns = (List.range u.2).map (fun a => (jobsF costs a (kF costs a)).map QJ.name) ∧ u.1.2.2.1.length = manyQ (rgF costs u.2) ∧ (0 ≤ u.1.2.2.2 ∧ u.1.2.2.2 ≤ 1000) ∧ ∀ x ∈ rgF costs u.2, ∀ j ∈ x.jobs, j.cost ≤ u.1.2.2.2) (fun u => n - u.2) (((_, 0, []), ([], [], 0)), 0)
      ⟨h0, Nat.zero_le _, rfl, rfl, ⟨Int.le_refl _, by show (0 : Int) ≤ 1000; decide⟩, fun x hx => by cases hx⟩ (.cons rfl (.cons rfl (.cons rfl (.cons ?_ (.cons rfl (.cons rfl (.cons rfl (.cons rfl (.nil _))))))))) rfl ?_
    · show AV.int .i64 (min (((rowsA costs).length : Nat) : Int) 5) = _; rw [hnI]
    rintro ⟨⟨⟨σ, rv, es⟩, NB, al, D⟩, t⟩ ⟨h, ht, hnb, hal, hD, hDx⟩
    simp only at h ht hnb hal hD hDx
    have hNBl : NB.length = t := by have := congrArg List.length hnb; simpa using this
    by_cases hlt : t < n
    · have c1 : decide ((t : Int) < (n : Int)) = true := decide_eq_true (by omega)
      refine pao [.b true] rfl ?_ ?_
      · (repeat' with_reducible apply AllP_cons) <;> try exact aC
      have hgj : (nbC n NB)[t]? = some .nils := by rw [← hNBl]; exact nbC_nil (by omega)
      refine S_ghost (id := 2) (gid := σ.length) (gver := 0) (j := t) (σ' := σ ++ [(0, some (.cells [] ⟨false, none⟩))]) 1 ⟨false, none⟩ h.nb hgj (alloc_lastF h.q.al _) (by have := lt_of_get h.nb; omega) ⟨_, _, .inl rfl⟩ ?_
      have hgr : (nbC n NB).set t (.ms σ.length 0 0 0 1 false) = nbC n (NB ++ [NE.mk σ.length 0 []]) := by rw [← hNBl]; exact nbC_grow (by omega) ⟨σ.length, 0, []⟩
      rw [hgr]
      have h2 := h.ghost
      have hrn0 : rnF costs t 0 = rgF costs t := by unfold rnF ptF; rw [if_pos rfl, List.append_nil]
      rw [← hrn0] at h2 hal hDx
      obtain ⟨row, hrow⟩ : ∃ row, row = rowF costs t := ⟨_, rfl⟩
      have hrc : costs[t]'(by omega) = row := by rw [hrow, rowF]; simp [List.getD, show t < costs.length by omega]
      have hrx : (rowsA costs)[(t : Int).toNat]? = some (rowA row) := by rw [Int.toNat_natCast, ← hrc]; simp [rowsA, show t < costs.length by omega]
      have hrm : row ∈ costs := by rw [← hrc]; exact List.getElem_mem _
      have hrlen := hrl row hrm
      refine S_while (α := ((Heap × Nat × List QL) × (NE × List QJ × Int)) × Nat) (fun u => [(0, .int .i64 quan), (1, .sl true false 1 (rowsA costs)), (5, .ptr 0 0 0), (7, .int .i64 (n : Nat)), (8, .ms 2 0 0 n 1 false), (9, .int .i64 u.1.2.2.2), (10, .ms 3 u.1.2.2.1.length 0 u.1.2.2.1.length 3 false), (11, .int .i64 (t : Nat)), (12, .int .i64 (u.2 : Nat))]) (fun u => u.1.1.1)
        (fun u => J1 u.1.1.1 u.1.1.2.1 u.1.1.2.2 quan (rnF costs t u.2) n (NB ++ [u.1.2.1]) u.1.2.2.1 ∧ u.2 ≤ kF costs t ∧ u.1.2.1.ns = (jobsF costs t u.2).map QJ.name ∧ u.1.2.2.1.length = manyQ (rnF costs t u.2) ∧ (0 ≤ u.1.2.2.2 ∧ u.1.2.2.2 ≤ 1000) ∧ ∀ x ∈ rnF costs t u.2, ∀ j ∈ x.jobs, j.cost ≤ u.1.2.2.2) (fun u => kF costs t - u.2) (((_, rv, es), (NE.mk σ.length 0 [], al, D)), 0)
        ⟨h2, Nat.zero_le _, rfl, hal, hD, hDx⟩ (.cons rfl (.cons rfl (.cons rfl (.cons rfl (.cons rfl (.cons rfl (.cons rfl (.cons rfl (.cons rfl (.nil _)))))))))) rfl ?_
      clear h2 h hal hD hDx hgr hgj h0
      rintro ⟨⟨⟨σ, rv, es⟩, g, al, D⟩, k⟩ ⟨h, hk, hgn, hal, hD, hDx⟩
      simp only at h hk hgn hal hD hDx
      have hkF : kF costs t = min row.length 20 := by rw [hrow]; rfl
      by_cases hlt2 : k < kF costs t
      · have c2 : decide ((k : Int) < (((zints row).length : Nat) : Int)) = true := decide_eq_true (by rw [zints_len]; omega)
        have c3 : decide ((k : Int) < 20) = true := decide_eq_true (by omega)
        have hkr : k < row.length := by omega
        obtain ⟨cc, hcc⟩ : ∃ cc, cc = row.getD k 0 := ⟨_, rfl⟩
        have hci : row[k] = cc := by rw [hcc]; simp [List.getD, hkr]
        have hcg : (zints row)[(k : Int).toNat]? = some (.int .i64 cc) := by rw [Int.toNat_natCast, ← hci]; simp [zints, hkr]
        have hcb : IsI64 cc := hcz row hrm cc (by rw [← hci]; exact List.getElem_mem hkr)
        have k2 := chooseN_lt cc (n := 1000) (by decide)
        have hch2 := choose_ok cc 1000 hcb (by decide) (by decide)
        have hdg := DigitsOf_ok (100 * t + k) (100 * t + k) rfl (by omega)
        have hdl := digs_len3 (n := 100 * t + k) (by omega)
        have hJ : fJ costs t k = ⟨((t + 1 : Nat) : Int), nmJ (100 * t + k), ((1 + chooseN cc 1000 : Nat) : Int)⟩ := by unfold fJ; rw [← hrow, ← hcc]
        obtain ⟨j, hj⟩ : ∃ j, j = fJ costs t k := ⟨_, rfl⟩
        obtain ⟨z0, hz0⟩ : ∃ z0 : Nat × Option Box, z0 = (0, some (.cells [.int .i64 0, .str [], .int .i64 0] ⟨false, some 34⟩)) := ⟨_, rfl⟩
        obtain ⟨zj, hzj⟩ : ∃ zj : Nat × Option Box, zj = (0, some (.cells j.cells ⟨false, some 34⟩)) := ⟨_, rfl⟩
        have h1 : J1 (σ ++ [zj]) rv es quan (rnF costs t k) n (NB ++ [g]) al := by rw [hzj]; exact h.app _ _
        have hw0 : IntKind.i64.wrap ((t : Int) + 1) = ((t + 1 : Nat) : Int) := w64 (by omega) (by omega)
        have hw1 : IntKind.i64.wrap (IntKind.i64.wrap (100 * (t : Int)) + (k : Int)) = ((100 * t + k : Nat) : Int) := by
          rw [show IntKind.i64.wrap (100 * (t : Int)) = ((100 * t : Nat) : Int) from w64 (by omega) (by omega)]
          exact w64 (by omega) (by omega)
        have hw2 : IntKind.i64.wrap (1 + ((chooseN cc 1000 : Nat) : Int)) = ((1 + chooseN cc 1000 : Nat) : Int) := w64 (by omega) (by omega)
        refine pao [.v (rowA row), .v (rowA row), .b true, .b true] rfl ?_ ?_
        · (repeat' with_reducible apply AllP_cons) <;> try exact aC
          · exact OpSpec.loadR rfl rfl rfl rfl rfl
        refine S_drawOC (σ ++ [z0]) 18 19 [.str (digs (100 * t + k)), rowA row, rowA row, .int .i64 cc, .int .i64 cc, .int .i64 (chooseN cc 1000 : Nat), .ptr σ.length 0 0] rfl rfl rfl rfl (fun s => rfl) (fun s hs => ?_) (fun o v ho hv => ?_) ?_
        · (repeat' with_reducible apply AllP_cons) <;> try exact aC
          · refine ⟨_, hdg, .cons ?_ (.nil _)⟩
            show Frz false s (AV.int .i64 (IntKind.i64.wrap (IntKind.i64.wrap (100 * (t : Int)) + (k : Int)))) _
            rw [hw1]; exact .refl .int
          · exact ⟨_, hch2, .cons (.refl .int) (.cons (.refl .int) (.nil _))⟩
        · cases ho; cases hv
          exact specC_step rfl rfl (by rw [hz0]; exact OpSpec.allocE rfl rfl rfl rfl h.q.al)
        have hst : ∀ y : AV, y = jobA j → σ ++ [zj] = (σ ++ [z0]).set σ.length (0, some (.cells (setRange [.int .i64 0, .str [], .int .i64 0] 0 y.cells) ⟨false, some 34⟩)) := fun y hy => by
          rw [List.set_append_right _ _ (Nat.le_refl _), Nat.sub_self, hy, hzj]; rfl
        refine pao [.f (.tup []) (fun _ => σ ++ [zj]), .v (jobA j)] rfl ?_ ?_
        · (repeat' with_reducible apply AllP_cons) <;> try exact aC
          · refine OpSpec.storeP (id := σ.length) (gT := some 34) (cs := [.int .i64 0, .str [], .int .i64 0]) (y := jobA j) rfl rfl rfl ?_ rfl rfl (by rw [app_last, hz0]) (lble rfl) (hst _ rfl)
            show AV.agg [.int .i64 (IntKind.i64.wrap ((t : Int) + 1)), .str (106 :: digs (100 * t + k)), .int .i64 (IntKind.i64.wrap (1 + ((chooseN cc 1000 : Nat) : Int)))] = _
            rw [hw0, hw2, hj, hJ]; rfl
          · exact OpSpec.loadPA rfl rfl rfl rfl (by rw [hzj]; exact app_last) (lble rfl) rfl
        have hok := rnF_ok (costs := costs) (quan := quan) hqq (t := t) (k := k) (by omega) (by omega)
        have hp := rnF_put (costs := costs) (t := t) (k := k) (by omega) (by omega)
        rw [← hj] at hp
        have hP := Put_ok (σ ++ [zj]) 0 1 rv es quan (rnF costs t k) j h1.q hok.mn hok.len (by rw [hj]; have := nmJ_len (k := 100 * t + k) (by omega); show (nmJ (100 * t + k)).length ≤ 1048576; omega)
        rw [hp] at hP
        refine S_call rfl rfl rfl hP (fun v' σ' hv => ?_) (fun v' σ' hv => ?_)
        case _ =>
          obtain ⟨e1, rv', es', h2, hk2⟩ := hv
          cases e1
          have h2 : QAt σ' 0 1 rv' es' quan (addJ (rnF costs t k) j) := h2
          rw [show addJ (rnF costs t k) j = rnF costs t (k + 1) by rw [hj]; exact rnF_add costs t k] at h2
          have h3 := h1.put h2 hk2
          have hgm : g ∈ NB ++ [g] := List.mem_append_right _ (List.mem_singleton.2 rfl)
          have hgl := lt_of_get (h.el g hgm)
          have hg4 := h.d4 g hgm
          have hj2 : σ'[σ.length]? = some zj := by rw [hk2.same σ.length (by simp) (fun ho => by have := h.q.lt _ ho; omega)]; exact app_last
          obtain ⟨g', hg'⟩ : ∃ g' : NE, g' = ⟨g.id, g.ver + 1, g.ns ++ [j.name]⟩ := ⟨_, rfl⟩
          obtain ⟨G, hG⟩ : ∃ G : Nat × Option Box, G = (g'.ver, some (.cells (texts g'.ns) ⟨false, none⟩)) := ⟨_, rfl⟩
          obtain ⟨N2, hN2⟩ : ∃ N2 : Nat × Option Box, N2 = (0, some (.cells (nbC n (NB ++ [g'])) ⟨false, none⟩)) := ⟨_, rfl⟩
          obtain ⟨A3, hA3⟩ : ∃ A3 : Nat × Option Box, A3 = ((al ++ [j]).length, some (.cells (jbC (al ++ [j])) ⟨false, none⟩)) := ⟨_, rfl⟩
          have hnx : ((nbC n (NB ++ [g])).drop (offN 0 (mulN ((t : Int)).toNat 1)))[0]? = some (neA g) := by
            rw [offN_eq, mulN_eq, Int.toNat_natCast, Nat.zero_add, Nat.mul_one, List.getElem?_drop, Nat.add_zero]
            have := nbC_at (n := n) (NB := NB ++ [g]) (a := t) (by simp; omega)
            rw [this]
            congr 2
            simp [← hNBl]
          have h4 := h3.name (g' := g') (by rw [hg'])
          rw [← hG, ← hN2] at h4
          have hjG : (σ'.set g.id G)[σ.length]? = some zj := by rw [set_ne (by omega)]; exact hj2
          have h2G : (σ'.set g.id G)[2]? = some (0, some (.cells (nbC n (NB ++ [g])) ⟨false, none⟩)) := by rw [set_ne (by omega)]; exact h3.nb
          have hj4 : ((σ'.set g.id G).set 2 N2)[σ.length]? = some zj := by rw [set_ne (by have := lt_of_get h.nb; omega)]; exact hjG
          have hgnl : g.ns.length ≤ 20 := by rw [hgn, List.length_map, jobsF_len]; omega
          have hall : al.length ≤ 200 := by rw [hal]; exact hok.mn
          refine pao [.b false] rfl ?_ ?_
          · (repeat' with_reducible apply AllP_cons) <;> try exact aC
          refine S_drawOC (σ'.set g.id G) 9 10 [.top, neA g, .str j.name, neA g'] rfl rfl rfl rfl (fun s => rfl) (fun s hs => ?_) (fun o v ho hv => ?_) ?_
          · have hs2 : s[2]? = some (0, some (.cells (nbC n (NB ++ [g])) ⟨false, none⟩)) := by
              rcases hs with rfl | rfl
              · exact h3.nb
              · exact h2G
            have hsj : s[σ.length]? = some zj := by
              rcases hs with rfl | rfl
              · exact hj2
              · exact hjG
            (repeat' with_reducible apply AllP_cons) <;> try exact aC
            · exact OpSpec.loadE rfl rfl rfl rfl hs2 hnx
            · exact OpSpec.loadP rfl rfl rfl rfl (hsj.trans (by rw [hzj])) rfl
          · cases ho; cases hv
            refine specC_step rfl rfl ?_
            have hne : neA g' = .ms g.id (g.ver + 1) 0 (g.ns.length + 1) 1 false := by rw [hg']; unfold neA; simp
            rw [hne]
            exact OpSpec.appendX (id := g.id) (ver := g.ver) (off := 0) (len := g.ns.length) (y := .str j.name) (cs := texts g.ns) rfl rfl rfl rfl rfl (fun z hz => by rw [List.mem_singleton.1 (show z ∈ [AV.str j.name] from hz)]; rfl) (h3.el g hgm) (by rw [texts_len]; omega) (by show (g.ns.length + 1) * 16 ≤ _; omega) (by omega) (by rw [hG, hg', ← texts_snocF]; rfl)
          refine pao [.v .top, .f (.tup []) (fun s => s.set 2 N2), .v (.int .i64 j.cost), .v (jobA j), .f (.ms 3 (al.length + 1) 0 (al.length + 1) 3 false) (fun s => s.set 3 A3)] rfl ?_ ?_
          · (repeat' with_reducible apply AllP_cons) <;> try exact aC
            · refine OpSpec.storeX (m := 1) (id := 2) (off := offN 0 (mulN ((t : Int)).toNat 1)) (cs := nbC n (NB ++ [g])) (y := neA g') rfl rfl rfl rfl rfl rfl h2G ?_ ?_
              · rw [offN_eq, mulN_eq, Int.toNat_natCast, nbC_len (by simp; omega)]; omega
              · rw [hN2, offN_eq, mulN_eq, Int.toNat_natCast, Nat.zero_add, Nat.mul_one]
                have : setRange (nbC n (NB ++ [g])) t (neA g').cells = nbC n (NB ++ [g']) := by
                  rw [← hNBl, ← nbC_last g g']
                  exact setRange_1 (by rw [nbC_len (by simp; omega)]; omega)
                rw [this]
            · exact OpSpec.loadP rfl rfl rfl rfl (hj4.trans (by rw [hzj])) rfl
            · exact OpSpec.loadPA rfl rfl rfl rfl (hj4.trans (by rw [hzj])) (lble rfl) rfl
            · refine OpSpec.appendX (id := 3) (ver := al.length) (off := 0) (len := al.length) (y := jobA j) (cs := jbC al) rfl rfl rfl rfl rfl (fun z hz => ?_) h4.al ?_ ?_ ?_ ?_
              · have hz : z ∈ j.cells := hz
                exact jbC_one [j] z (by simpa [jbC] using hz)
              · rw [jbC_len]; omega
              · show (al.length + 1) * 32 ≤ _; omega
              · omega
              · rw [hA3, jbC_app, List.length_append]; rfl
          have h5 := h4.all (al' := al ++ [j])
          rw [← hA3] at h5
          have hcj : 1 ≤ j.cost ∧ j.cost ≤ 1000 := by rw [hj, hJ]; simp only; omega
          refine S_round (((_, rv', es'), (g', al ++ [j], max D j.cost)), k + 1) (by show kF costs t - (k + 1) < kF costs t - k; omega) ⟨h5, hlt2, ?_, ?_, ?_, fun x hx y hy => ?_⟩ (.cons rfl (.cons rfl (.cons rfl (.cons rfl (.cons rfl (.cons rfl (.cons ?_ (.cons rfl (.cons ?_ (.nil _)))))))))) rfl
          · show g'.ns = _
            rw [hg', jobsF_snoc, List.map_append, ← hgn, ← hj]; rfl
          · show (al ++ [j]).length = _
            rw [← rnF_add, many_addJ, List.length_append, hal]; rfl
          · show 0 ≤ max D j.cost ∧ max D j.cost ≤ 1000
            omega
          · show y.cost ≤ max D j.cost
            rcases rnF_job hx hy with h' | ⟨x', hx', hy'⟩
            · rw [h', ← hj]; omega
            · have := hDx x' hx' y hy'
              omega
          · show AV.ms 3 (al.length + 1) 0 (al.length + 1) 3 false = .ms 3 (al ++ [j]).length 0 (al ++ [j]).length 3 false
            rw [List.length_append]; rfl
          · show AV.int .i64 (IntKind.i64.wrap ((k : Int) + 1)) = .int .i64 ((k + 1 : Nat) : Int); exact ai64 rfl (by omega)
        case _ =>
          obtain ⟨e1, _⟩ := hv
          cases e1
      · have hkk : k = kF costs t := by omega
        have hi1 : AV.int .i64 (IntKind.i64.wrap ((t : Int) + 1)) = .int .i64 ((t + 1 : Nat) : Int) := ai64 rfl (by omega)
        have hfin : J1 σ rv es quan (rgF costs (t + 1)) n (NB ++ [g]) al ∧ t + 1 ≤ n ∧ (NB ++ [g]).map NE.ns = (List.range (t + 1)).map (fun a => (jobsF costs a (kF costs a)).map QJ.name) ∧ al.length = manyQ (rgF costs (t + 1)) ∧ (0 ≤ D ∧ D ≤ 1000) ∧ ∀ x ∈ rgF costs (t + 1), ∀ j ∈ x.jobs, j.cost ≤ D := by
          rw [hkk] at h hgn hal hDx
          refine ⟨h, hlt, ?_, hal, hD, hDx⟩
          rw [List.range_succ, List.map_append, List.map_append, hnb]
          simp [hgn]
        by_cases hk1 : k < row.length
        · have c2 : decide ((k : Int) < (((zints row).length : Nat) : Int)) = true := decide_eq_true (by rw [zints_len]; omega)
          have c3 : decide ((k : Int) < 20) = false := decide_eq_false (by omega)
          refine pao [.v (rowA row), .v (rowA row), .b true, .b false] rfl ?_ ?_
          · (repeat' with_reducible apply AllP_cons) <;> try exact aC
            · exact OpSpec.loadR rfl rfl rfl rfl rfl
          exact S_round (((σ, rv, es), (NB ++ [g], al, D)), t + 1) (by show n - (t + 1) < n - t; omega) hfin (.cons rfl (.cons rfl (.cons rfl (.cons rfl (.cons rfl (.cons rfl (.cons rfl (.cons hi1 (.nil _))))))))) rfl
        · have c2 : decide ((k : Int) < (((zints row).length : Nat) : Int)) = false := decide_eq_false (by rw [zints_len]; omega)
          refine pao [.v (rowA row), .v (rowA row), .b false, .b false] rfl ?_ ?_
          · (repeat' with_reducible apply AllP_cons) <;> try exact aC
            · exact OpSpec.loadR rfl rfl rfl rfl rfl
          exact S_round (((σ, rv, es), (NB ++ [g], al, D)), t + 1) (by show n - (t + 1) < n - t; omega) hfin (.cons rfl (.cons rfl (.cons rfl (.cons rfl (.cons rfl (.cons rfl (.cons rfl (.cons hi1 (.nil _))))))))) rfl
    · have c1 : decide ((t : Int) < (n : Int)) = false := decide_eq_false (by omega)
      obtain rfl : t = n := by omega
      refine pao [.b false] rfl ?_ ?_
      · (repeat' with_reducible apply AllP_cons) <;> try exact aC
      have hnmF : ∀ a (ha : a < NB.length), NB[a].ns = nmF costs t a := fun a ha => by
        have h1 : (NB.map NE.ns)[a]? = ((List.range t).map (fun a => (jobsF costs a (kF costs a)).map QJ.name))[a]? := by rw [hnb]
        have hat : a < t := by omega
        simp only [List.getElem?_map, List.getElem?_eq_getElem ha, List.getElem?_range hat, Option.map_some, Option.some.injEq] at h1
        rw [h1]
        unfold nmF
        rw [if_pos hat]
      have hFI := FI.start (costs := costs) (quan := quan) (D := D) (n := t) hqq.1 hDx
      have hok0 : QOk quan (rgF costs t) := by
        have := rnF_ok (costs := costs) (quan := quan) hqq (t := t) (k := 0) hn5 (by omega)
        have hrn0 : rnF costs t 0 = rgF costs t := by unfold rnF ptF; rw [if_pos rfl, List.append_nil]
        rw [hrn0] at this; exact this
      obtain ⟨zn, hzn⟩ : ∃ zn : Nat × Option Box, zn = (0, some (.cells (repA t [.int .i64 0]) ⟨false, none⟩)) := ⟨_, rfl⟩
      have hmk : ∀ {s : Heap} {fr : Fr} {o : Oper} {l c : Operand}, Alive s → o.op = .makeSlice 30 l c → ev cx fr l = .int .i64 (t : Nat) → ev cx fr c = .int .i64 (t : Nat) → OpSpec cx 223 fr s o (.ms s.length 0 0 t 1 false) (s ++ [zn]) := fun hs ho hl hc => by
        rw [hzn]
        exact OpSpec.makeE (m := t) (z := .int .i64 0) ho rfl rfl rfl hl hc rfl hs (by show 8 * t ≤ _; omega) (by omega)
      have hz1 : Alive (σ ++ [zn]) := by rw [hzn]; exact h.q.al.app _ _
      have hl1 : (σ ++ [zn]).length = σ.length + 1 := by simp
      refine S_drawRU 1 3 5 [4] [] [4] (fun v1 v2 => [v1, v2, v1]) (fun v s => v = .ms σ.length 0 0 t 1 false ∧ s = σ ++ [zn]) (fun v s => v = .ms σ.length 0 0 t 1 false ∧ s = σ ++ [zn])
        (fun v1 v2 s => (∃ i1 i2, v1 = .ms i1 0 0 t 1 false ∧ v2 = .ms i2 0 0 t 1 false ∧ (i1 = σ.length ∧ i2 = σ.length + 1 ∨ i1 = σ.length + 1 ∧ i2 = σ.length)) ∧ s = σ ++ [zn] ++ [zn]) (fun _ => True) rfl rfl rfl rfl rfl rfl (fun s v1 v2 => rfl) (fun u v1 v2 => rfl) (fun u v1 v2 => rfl) (fun v1 v2 => rfl) (fun v1 v2 => rfl) rfl rfl (fun j o v1 v2 s v hj ho hv _ => ?_) trivial (fun _ _ _ => trivial) (fun _ _ _ => trivial) (fun _ _ _ _ => trivial) (fun s v1 v2 _ => ?_) (fun o ho => ?_) (fun o ho => ?_) (fun v1 s hr o ho => ?_) (fun v2 s hr o ho => ?_) (fun v1 v2 s hr => ?_)
      · obtain rfl := List.mem_singleton.1 hj
        cases ho; cases hv
        exact opC_step rfl rfl rfl trivial
      · (repeat' with_reducible apply AllP_cons) <;> try exact aC
      · cases ho
        exact specR_step rfl (hmk h.q.al rfl rfl rfl) ⟨rfl, rfl⟩
      · cases ho
        exact specR_step rfl (hmk h.q.al rfl rfl rfl) ⟨rfl, rfl⟩
      · obtain ⟨rfl, rfl⟩ := hr
        cases ho
        exact specR_step rfl (hmk hz1 rfl rfl rfl) ⟨⟨_, _, rfl, rfl, .inl ⟨rfl, hl1⟩⟩, rfl⟩
      · obtain ⟨rfl, rfl⟩ := hr
        cases ho
        exact specR_step rfl (hmk hz1 rfl rfl rfl) ⟨⟨_, _, rfl, rfl, .inr ⟨hl1, rfl⟩⟩, rfl⟩
      obtain ⟨⟨gb, cb, rfl, rfl, hgc⟩, rfl⟩ := hr
      have hr0 : repA t [AV.int .i64 0] = funC t fun _ => 0 := by
        show List.replicate t (AV.int .i64 0) = _
        apply List.ext_getElem (by simp [funC])
        intro k h1 h2
        simp [funC]
      have h2 : J2 (σ ++ [zn] ++ [zn]) rv es quan (rgF costs t) t NB gb cb (fun _ => 0) (fun _ => 0) := by
        have hA : J1 (σ ++ [zn] ++ [zn]) rv es quan (rgF costs t) t NB al := by rw [hzn]; exact (h.app _ _).app _ _
        have l2 := lt_of_get h.nb
        have hb1 : (σ ++ [zn] ++ [zn])[σ.length]? = some zn := app_get app_last
        have hb2 : (σ ++ [zn] ++ [zn])[σ.length + 1]? = some zn := by rw [← hl1]; exact app_last
        have hel : ∀ e ∈ NB, e.id < σ.length := fun e he => lt_of_get (h.el e he)
        have hown : ∀ id, Own 0 1 es id → id < σ.length := h.q.lt
        have hz : zn = (0, some (.cells (funC t fun a => (((fun _ => 0 : Nat → Nat) a : Nat) : Int)) ⟨false, none⟩)) := by rw [hzn, hr0]; rfl
        have hz' : zn = (0, some (.cells (funC t fun _ => 0) ⟨false, none⟩)) := by rw [hzn, hr0]
        refine ⟨hA.q, hA.nb, hA.el, ?_, ?_, ⟨by omega, by omega, by omega, fun e he => ?_⟩, fun id ho => ?_⟩
        · rcases hgc with ⟨rfl, _⟩ | ⟨rfl, _⟩
          · rw [hb1]; exact congrArg some hz'
          · rw [hb2]; exact congrArg some hz'
        · rcases hgc with ⟨_, rfl⟩ | ⟨_, rfl⟩
          · rw [hb2]; exact congrArg some hz
          · rw [hb1]; exact congrArg some hz
        · have := hel e he
          omega
        · obtain ⟨a, b, c⟩ := h.dj id ho
          have := hown id ho
          exact ⟨a, by omega, by omega, c⟩
      refine pao [] rfl ?_ ?_
      · (repeat' with_reducible apply AllP_cons) <;> try exact aC
      refine S_while (α := ((Heap × Nat × List QL × List QT) × ((Nat → Int) × (Nat → Nat))) × Nat) (fun u => [(0, .int .i64 quan), (5, .ptr 0 0 0), (7, .int .i64 (t : Nat)), (8, .ms 2 0 0 t 1 false), (9, .int .i64 D), (14, .ms gb 0 0 t 1 false), (15, .ms cb 0 0 t 1 false), (105, .int .i64 (al.length : Nat)), (106, .int .i64 (u.2 : Nat))]) (fun u => u.1.1.1)
        (fun u => J2 u.1.1.1 u.1.1.2.1 u.1.1.2.2.1 quan u.1.1.2.2.2 t NB gb cb u.1.2.1 u.1.2.2 ∧ QOk quan u.1.1.2.2.2 ∧ FI quan D t (nmF costs t) u.1.2.1 u.1.2.2 u.1.1.2.2.2 ∧ u.2 + manyQ u.1.1.2.2.2 = al.length ∧ ∀ a, 0 ≤ u.1.2.1 a ∧ u.1.2.1 a ≤ 1000 * u.2 ∧ u.1.2.2 a ≤ u.2) (fun u => al.length - u.2) (((σ ++ [zn] ++ [zn], rv, es, rgF costs t), (fun _ => 0, fun _ => 0)), 0)
        ⟨h2, hok0, hFI, by show 0 + manyQ (rgF costs t) = al.length; omega, fun a => ⟨Int.le_refl _, Int.le_refl _, Nat.le_refl _⟩⟩ (.cons rfl (.cons rfl (.cons rfl (.cons rfl (.cons rfl (.cons rfl (.cons rfl (.cons rfl (.cons rfl (.nil _)))))))))) rfl ?_
      have hall : al.length ≤ 200 := by rw [hal]; exact hok0.mn
      clear h2 h hal hDx hok0 hFI hz1 hl1 hgc h0
      rintro ⟨⟨⟨σ, rv, es, ring⟩, got, came⟩, i⟩ ⟨h, hok, hFI, hmany, hbd⟩
      simp only at h hok hFI hmany hbd
      have hX := Next_ok σ 0 1 rv es quan ring h.q hok
      obtain ⟨z0, hz0⟩ : ∃ z0 : Nat × Option Box, z0 = (0, some (.cells [.int .i64 0, .str [], .int .i64 0] ⟨false, some 34⟩)) := ⟨_, rfl⟩
      by_cases hlt : i < al.length
      · have d1 : decide ((i : Int) < (al.length : Int)) = true := decide_eq_true (by omega)
        have hne : ring ≠ [] := by rintro rfl; have : manyQ [] = 0 := rfl; omega
        obtain ⟨j, r', a, hn, ha, hten, hnm, hc1, hc2, hFI'⟩ := hFI.next (mQ ring + 1) ring hok (Nat.lt_succ_self _) hne
        have hn : nxtQ quan ring = (some j, r') := hn
        rw [hn] at hX
        obtain ⟨hcl', hce⟩ := List.getElem?_eq_some_iff.1 hnm
        have hanb : a < NB.length := by omega
        have hns : NB[a].ns = nmF costs t a := hnmF a hanb
        obtain ⟨zj, hzj⟩ : ∃ zj : Nat × Option Box, zj = (0, some (.cells j.cells ⟨false, some 34⟩)) := ⟨_, rfl⟩
        refine pao [.b true] rfl ?_ ?_
        · (repeat' with_reducible apply AllP_cons) <;> try exact aC
        refine S_call rfl rfl rfl hX (fun v' σ' hv => ?_) (fun v' σ' hv => ?_)
        case _ =>
          obtain ⟨e1, rv', es', hq1, hk1⟩ := hv
          cases e1
          have h3 : J2 (σ' ++ [zj]) rv' es' quan r' t NB gb cb got came := by rw [hzj]; exact (h.put hq1 hk1).app _ _
          have hlj : (σ' ++ [zj])[σ'.length]? = some zj := app_last
          have hw1 : IntKind.i64.wrap (j.ten - 1) = (a : Int) := by rw [hten]; exact w64 (by omega) (by omega)
          refine pao [.f (.ptr σ'.length 0 0) (fun s => s ++ [z0]), .f (.tup []) (fun _ => σ' ++ [zj]), .v (.int .i64 j.ten)] rfl ?_ ?_
          · (repeat' with_reducible apply AllP_cons) <;> try exact aC
            · rw [hz0]; exact OpSpec.allocE rfl rfl rfl rfl hq1.al
            · exact OpSpec.storeP (id := σ'.length) (gT := some 34) (cs := [.int .i64 0, .str [], .int .i64 0]) (y := jobA j) rfl rfl rfl rfl rfl rfl (by rw [app_last, hz0]) (lble rfl) (by rw [List.set_append_right _ _ (Nat.le_refl _), Nat.sub_self, hzj]; rfl)
            · exact OpSpec.loadP rfl rfl rfl rfl (by rw [app_last, hzj]) rfl
          refine S_weak (fr' := [(0, .int .i64 quan), (5, .ptr 0 0 0), (7, .int .i64 (t : Nat)), (8, .ms 2 0 0 t 1 false), (9, .int .i64 D), (14, .ms gb 0 0 t 1 false), (15, .ms cb 0 0 t 1 false), (16, .ptr σ'.length 0 0), (17, .bool true), (18, .int .i64 (a : Nat)), (105, .int .i64 (al.length : Nat)), (106, .int .i64 (i : Nat))]) (.cons rfl (.cons rfl (.cons rfl (.cons rfl (.cons rfl (.cons rfl (.cons rfl (.cons rfl (.cons rfl (.cons ?_ (.cons rfl (.cons rfl (.nil _))))))))))))) ?_
          · show AV.int .i64 (IntKind.i64.wrap (j.ten - 1)) = _
            rw [hw1]
          have hgo := hbd a
          have hbx2 : ((nbC t NB).drop (offN 0 (mulN ((a : Int)).toNat 1)))[0]? = some (neA NB[a]) := by
            rw [offN_eq, mulN_eq, Int.toNat_natCast, Nat.zero_add, Nat.mul_one, List.getElem?_drop, Nat.add_zero]
            exact nbC_at hanb
          have hcx : ((funC t fun a => ((came a : Nat) : Int)).drop (offN 0 (mulN ((a : Int)).toNat 1)))[0]? = some (.int .i64 ((came a : Nat) : Int)) := funC_at (f := fun a => ((came a : Nat) : Int)) ha
          have hgx : ((funC t got).drop (offN 0 (mulN ((a : Int)).toNat 1)))[0]? = some (.int .i64 (got a)) := funC_at ha
          have hel := h3.el NB[a] (List.getElem_mem hanb)
          have hnx : ((texts NB[a].ns).drop (offN 0 (mulN (((came a : Nat) : Int)).toNat 1)))[0]? = some (.str j.name) := by
            rw [offN_eq, mulN_eq, Int.toNat_natCast, Nat.zero_add, Nat.mul_one, List.getElem?_drop, Nat.add_zero, hns]
            simp [texts, hnm]
          have hcln : came a < NB[a].ns.length := by rw [hns]; exact hcl'
          have e1 : decide ((a : Int) < 0) = false := decide_eq_false (by omega)
          have e2 : decide ((a : Int) ≥ (t : Int)) = false := decide_eq_false (by omega)
          have e3 : decide (((came a : Nat) : Int) ≥ ((NB[a].ns.length : Nat) : Int)) = false := decide_eq_false (by omega)
          have e4 : (0 : Int) ≤ (a : Int) := by omega
          have e5 : (a : Int) < (t : Int) := by omega
          have e6 : ((came a : Nat) : Int) < ((NB[a].ns.length : Nat) : Int) := by omega
          refine S_drawO 38 [.bool false, .bool false, .bool false, .top, .int .i64 (came a : Nat), .top, neA NB[a], .bool false, .top, neA NB[a], .top, .int .i64 (came a : Nat), .top, .str j.name, .str j.name] rfl rfl rfl rfl ?_ ?_
          · (repeat' with_reducible apply AllP_cons) <;> try exact aC
            all_goals first | exact OpSpec.loadE rfl rfl rfl rfl h3.c hcx | exact OpSpec.loadE rfl rfl rfl rfl h3.nb hbx2 | exact OpSpec.loadE rfl rfl rfl rfl hel hnx | exact OpSpec.loadP rfl rfl rfl rfl (by rw [app_last, hzj]) rfl
          obtain ⟨came', hcame'⟩ : ∃ came', came' = upd came a (came a + 1) := ⟨_, rfl⟩
          obtain ⟨got', hgot'⟩ : ∃ got', got' = upd got a (got a + j.cost) := ⟨_, rfl⟩
          obtain ⟨C', hC'⟩ : ∃ C' : Nat × Option Box, C' = (0, some (.cells (funC t fun a => ((came' a : Nat) : Int)) ⟨false, none⟩)) := ⟨_, rfl⟩
          obtain ⟨G', hG'⟩ : ∃ G' : Nat × Option Box, G' = (0, some (.cells (funC t got') ⟨false, none⟩)) := ⟨_, rfl⟩
          have h4 := h3.setC (came' := came')
          rw [← hC'] at h4
          obtain ⟨q1, q2, q3, q4⟩ := h3.d
          have hwc : IntKind.i64.wrap (((came a : Nat) : Int) + 1) = ((came a + 1 : Nat) : Int) := w64 rfl (by omega)
          have hfc : (funC t fun a => ((came a : Nat) : Int)).set a (.int .i64 ((came a + 1 : Nat) : Int)) = funC t fun a => ((came' a : Nat) : Int) := by
            rw [funC_upd ha]
            congr 1
            funext b
            rw [hcame']
            unfold upd
            split <;> rfl
          refine pao [.b false, .v .top, .v (.int .i64 (came a : Nat)), .v .top, .f (.tup []) (fun s => s.set cb C')] rfl ?_ ?_
          · (repeat' with_reducible apply AllP_cons) <;> try exact aC
            · show (j.name != j.name) = false
              simp
            · exact OpSpec.loadE rfl rfl rfl rfl h3.c hcx
            · refine OpSpec.storeX (m := 1) (id := cb) (off := offN 0 (mulN ((a : Int)).toNat 1)) (cs := funC t fun a => ((came a : Nat) : Int)) (y := .int .i64 ((came a + 1 : Nat) : Int)) rfl rfl rfl ?_ rfl rfl h3.c ?_ ?_
              · show AV.int .i64 (IntKind.i64.wrap (((came a : Nat) : Int) + 1)) = _
                rw [hwc]
              · rw [offN_eq, mulN_eq, Int.toNat_natCast, funC_len]; omega
              · rw [hC', offN_eq, mulN_eq, Int.toNat_natCast, Nat.zero_add, Nat.mul_one, ← hfc]
                rw [show setRange (funC t fun a => ((came a : Nat) : Int)) a (AV.int .i64 ((came a + 1 : Nat) : Int)).cells = (funC t fun a => ((came a : Nat) : Int)).set a (.int .i64 ((came a + 1 : Nat) : Int)) from setRange_1 (by rw [funC_len]; exact ha)]
          have hlj4 : ((σ' ++ [zj]).set cb C')[σ'.length]? = some zj := by rw [set_ne (by have := lt_of_get (h.put hq1 hk1).c; omega)]; exact hlj
          refine S_heap ((σ' ++ [zj]).set cb C') rfl ?_
          generalize (σ' ++ [zj]).set cb C' = σ4 at *
          refine S_drawO 7 [.top, .int .i64 (got a), .int .i64 j.cost] rfl rfl rfl rfl ?_ ?_
          · (repeat' with_reducible apply AllP_cons) <;> try exact aC
            all_goals first | exact OpSpec.loadE rfl rfl rfl rfl h4.g hgx | exact OpSpec.loadP rfl rfl rfl rfl (by rw [hlj4, hzj]) rfl
          have h5 := h4.setG (got' := got')
          rw [← hG'] at h5
          have hwg : IntKind.i64.wrap (got a + j.cost) = got a + j.cost := by
            rw [show got a + j.cost = (((got a + j.cost).toNat : Nat) : Int) by omega]
            exact w64 rfl (by omega)
          have hfg : (funC t got).set a (.int .i64 (got a + j.cost)) = funC t got' := by rw [funC_upd ha, hgot']
          refine pao [.v .top, .f (.tup []) (fun s => s.set gb G')] rfl ?_ ?_
          · (repeat' with_reducible apply AllP_cons) <;> try exact aC
            · refine OpSpec.storeX (m := 1) (id := gb) (off := offN 0 (mulN ((a : Int)).toNat 1)) (cs := funC t got) (y := .int .i64 (got a + j.cost)) rfl rfl rfl ?_ rfl rfl h4.g ?_ ?_
              · show AV.int .i64 (IntKind.i64.wrap (got a + j.cost)) = _
                rw [hwg]
              · rw [offN_eq, mulN_eq, Int.toNat_natCast, funC_len]; omega
              · rw [hG', offN_eq, mulN_eq, Int.toNat_natCast, Nat.zero_add, Nat.mul_one, ← hfg]
                rw [show setRange (funC t got) a (AV.int .i64 (got a + j.cost)).cells = (funC t got).set a (.int .i64 (got a + j.cost)) from setRange_1 (by rw [funC_len]; exact ha)]
          refine S_heap (σ4.set gb G') rfl ?_
          generalize σ4.set gb G' = σ5 at *
          rw [← hcame', ← hgot'] at hFI'
          have hok' : QOk quan r' := by
            rcases nxt_spec (quan := quan) (mQ ring + 1) ring hok (Nat.lt_succ_self _) with ⟨hr, _⟩ | ⟨j', r'', hn', _, hok'⟩
            · exact absurd hr hne
            · have : (some j', r'') = (some j, r') := hn'.symm.trans hn
              cases this; exact hok'
          have hbd' : ∀ b, 0 ≤ got' b ∧ got' b ≤ 1000 * ((i + 1 : Nat) : Int) ∧ came' b ≤ i + 1 := fun b => by
            have hb := hbd b
            rw [hgot', hcame']
            unfold upd
            split
            · rename_i e; subst e; omega
            · omega
          have hmany' : i + 1 + manyQ r' = al.length := by
            rcases nxt_spec (quan := quan) (mQ ring + 1) ring hok (Nat.lt_succ_self _) with ⟨hr, _⟩ | ⟨j', r'', hn', hpp, _⟩
            · exact absurd hr hne
            · have : (some j', r'') = (some j, r') := hn'.symm.trans hn
              cases this
              have := hpp.length_eq
              rw [List.length_cons, nmsQ_len, nmsQ_len] at this
              omega
          have hi1 : AV.int .i64 (IntKind.i64.wrap ((i : Int) + 1)) = .int .i64 ((i + 1 : Nat) : Int) := ai64 rfl (by omega)
          refine S_while (α := Nat) (fun x => [(0, .int .i64 quan), (5, .ptr 0 0 0), (7, .int .i64 (t : Nat)), (8, .ms 2 0 0 t 1 false), (9, .int .i64 D), (14, .ms gb 0 0 t 1 false), (15, .ms cb 0 0 t 1 false), (19, .int .i64 (x : Nat)), (105, .int .i64 (al.length : Nat)), (106, .int .i64 (i : Nat))]) (fun _ => σ5) (fun x => x ≤ t) (fun x => t - x) 0
            (Nat.zero_le _) (.cons rfl (.cons rfl (.cons rfl (.cons rfl (.cons rfl (.cons rfl (.cons rfl (.cons rfl (.cons rfl (.cons rfl (.nil _))))))))))) rfl ?_
          intro x hx
          by_cases hxt : x < t
          · have c1 : decide ((x : Int) < (t : Int)) = true := decide_eq_true (by omega)
            have hx1 : AV.int .i64 (IntKind.i64.wrap ((x : Int) + 1)) = .int .i64 ((x + 1 : Nat) : Int) := ai64 rfl (by omega)
            refine pao [.b true] rfl ?_ ?_
            · (repeat' with_reducible apply AllP_cons) <;> try exact aC
            refine S_while (α := Nat) (fun y => [(0, .int .i64 quan), (5, .ptr 0 0 0), (7, .int .i64 (t : Nat)), (8, .ms 2 0 0 t 1 false), (9, .int .i64 D), (14, .ms gb 0 0 t 1 false), (15, .ms cb 0 0 t 1 false), (19, .int .i64 (x : Nat)), (20, .int .i64 (y : Nat)), (105, .int .i64 (al.length : Nat)), (106, .int .i64 (i : Nat))]) (fun _ => σ5) (fun y => y ≤ t) (fun y => t - y) 0
              (Nat.zero_le _) (.cons rfl (.cons rfl (.cons rfl (.cons rfl (.cons rfl (.cons rfl (.cons rfl (.cons rfl (.cons rfl (.cons rfl (.cons rfl (.nil _)))))))))))) rfl ?_
            intro y hy
            by_cases hyt : y < t
            · have c2 : decide ((y : Int) < (t : Int)) = true := decide_eq_true (by omega)
              refine pao [.b true] rfl ?_ ?_
              · (repeat' with_reducible apply AllP_cons) <;> try exact aC
              have hxn : x < NB.length := by omega
              have hyn : y < NB.length := by omega
              have lc : ∀ z, z < t → ((funC t fun a => ((came' a : Nat) : Int)).drop (offN 0 (mulN ((z : Int)).toNat 1)))[0]? = some (.int .i64 ((came' z : Nat) : Int)) := fun z hz => funC_at (f := fun a => ((came' a : Nat) : Int)) hz
              have lg : ∀ z, z < t → ((funC t got').drop (offN 0 (mulN ((z : Int)).toNat 1)))[0]? = some (.int .i64 (got' z)) := fun z hz => funC_at hz
              have ln : ∀ z (hz : z < NB.length), ((nbC t NB).drop (offN 0 (mulN ((z : Int)).toNat 1)))[0]? = some (neA NB[z]) := fun z hz => by
                rw [offN_eq, mulN_eq, Int.toNat_natCast, Nat.zero_add, Nat.mul_one, List.getElem?_drop, Nat.add_zero]
                exact nbC_at hz
              have lcx := lc x hxt
              have lcy := lc y hyt
              have lgx := lg x hxt
              have lgy := lg y hyt
              have lnx := ln x hxn
              have lny := ln y hyn
              have m1 : (0 : Int) ≤ (x : Int) := by omega
              have m2 : (x : Int) < (t : Int) := by omega
              have m3 : (0 : Int) ≤ (y : Int) := by omega
              have m4 : (y : Int) < (t : Int) := by omega
              have hy1 : AV.int .i64 (IntKind.i64.wrap ((y : Int) + 1)) = .int .i64 ((y + 1 : Nat) : Int) := ai64 rfl (by omega)
              by_cases b1 : came' x < NB[x].ns.length
              · have f1 : decide (((came' x : Nat) : Int) < ((NB[x].ns.length : Nat) : Int)) = true := decide_eq_true (by omega)
                by_cases b2 : came' y < NB[y].ns.length
                · have f2 : decide (((came' y : Nat) : Int) < ((NB[y].ns.length : Nat) : Int)) = true := decide_eq_true (by omega)
                  have hfair := hFI'.fair hok' hxt hyt (by rw [← hnmF x hxn]; exact b1) (by rw [← hnmF y hyn]; exact b2)
                  have bx := hbd' x
                  have by_ := hbd' y
                  have hw5 : IntKind.i64.wrap (got' x - got' y) = got' x - got' y := IntWalk.i64_in _ ⟨by omega, by omega⟩
                  have hw6 : IntKind.i64.wrap (quan + D) = quan + D := IntWalk.i64_in _ ⟨by omega, by omega⟩
                  refine S_drawO 37 [.top, .int .i64 (came' x : Nat), .top, neA NB[x], .bool true, .top, .int .i64 (came' y : Nat), .top, neA NB[y], .bool true, .top, .int .i64 (got' x), .top, .int .i64 (got' y)] rfl rfl rfl rfl ?_ ?_
                  · (repeat' with_reducible apply AllP_cons) <;> try exact aC
                    all_goals first | exact OpSpec.loadE rfl rfl rfl rfl h5.c lcx | exact OpSpec.loadE rfl rfl rfl rfl h5.c lcy | exact OpSpec.loadE rfl rfl rfl rfl h5.nb lnx | exact OpSpec.loadE rfl rfl rfl rfl h5.nb lny | exact OpSpec.loadE rfl rfl rfl rfl h5.g lgx | exact OpSpec.loadE rfl rfl rfl rfl h5.g lgy
                  refine pao [.b false] rfl ?_ ?_
                  · refine ⟨?_, trivial⟩
                    show decide (IntKind.i64.wrap (got' x - got' y) > IntKind.i64.wrap (quan + D)) = false
                    rw [hw5, hw6]
                    exact decide_eq_false (by omega)
                  exact S_round (y + 1) (by show t - (y + 1) < t - y; omega) hyt (.cons rfl (.cons rfl (.cons rfl (.cons rfl (.cons rfl (.cons rfl (.cons rfl (.cons rfl (.cons hy1 (.cons rfl (.cons rfl (.nil _)))))))))))) rfl
                · have f2 : decide (((came' y : Nat) : Int) < ((NB[y].ns.length : Nat) : Int)) = false := decide_eq_false (by omega)
                  refine S_drawO 37 [.top, .int .i64 (came' x : Nat), .top, neA NB[x], .bool true, .top, .int .i64 (came' y : Nat), .top, neA NB[y], .bool false] rfl rfl rfl rfl ?_ ?_
                  · (repeat' with_reducible apply AllP_cons) <;> try exact aC
                    all_goals first | exact OpSpec.loadE rfl rfl rfl rfl h5.c lcx | exact OpSpec.loadE rfl rfl rfl rfl h5.c lcy | exact OpSpec.loadE rfl rfl rfl rfl h5.nb lnx | exact OpSpec.loadE rfl rfl rfl rfl h5.nb lny
                  refine pao [.b false] rfl ?_ ?_
                  · (repeat' with_reducible apply AllP_cons) <;> try exact aC
                  exact S_round (y + 1) (by show t - (y + 1) < t - y; omega) hyt (.cons rfl (.cons rfl (.cons rfl (.cons rfl (.cons rfl (.cons rfl (.cons rfl (.cons rfl (.cons hy1 (.cons rfl (.cons rfl (.nil _)))))))))))) rfl
              · have f1 : decide (((came' x : Nat) : Int) < ((NB[x].ns.length : Nat) : Int)) = false := decide_eq_false (by omega)
                refine S_drawO 37 [.top, .int .i64 (came' x : Nat), .top, neA NB[x], .bool false, .bool false] rfl rfl rfl rfl ?_ ?_
                · (repeat' with_reducible apply AllP_cons) <;> try exact aC
                  all_goals first | exact OpSpec.loadE rfl rfl rfl rfl h5.c lcx | exact OpSpec.loadE rfl rfl rfl rfl h5.nb lnx
                refine pao [.b false] rfl ?_ ?_
                · (repeat' with_reducible apply AllP_cons) <;> try exact aC
                exact S_round (y + 1) (by show t - (y + 1) < t - y; omega) hyt (.cons rfl (.cons rfl (.cons rfl (.cons rfl (.cons rfl (.cons rfl (.cons rfl (.cons rfl (.cons hy1 (.cons rfl (.cons rfl (.nil _)))))))))))) rfl
            · have c2 : decide ((y : Int) < (t : Int)) = false := decide_eq_false (by omega)
              refine pao [.b false] rfl ?_ ?_
              · (repeat' with_reducible apply AllP_cons) <;> try exact aC
              exact S_round (x + 1) (by show t - (x + 1) < t - x; omega) hxt (.cons rfl (.cons rfl (.cons rfl (.cons rfl (.cons rfl (.cons rfl (.cons rfl (.cons hx1 (.cons rfl (.cons rfl (.nil _))))))))))) rfl
          · have c1 : decide ((x : Int) < (t : Int)) = false := decide_eq_false (by omega)
            refine pao [.b false] rfl ?_ ?_
            · (repeat' with_reducible apply AllP_cons) <;> try exact aC
            exact S_round (((σ5, rv', es', r'), (got', came')), i + 1) (by show al.length - (i + 1) < al.length - i; omega) ⟨h5, hok', hFI', hmany', hbd'⟩ (.cons rfl (.cons rfl (.cons rfl (.cons rfl (.cons rfl (.cons rfl (.cons rfl (.cons rfl (.cons hi1 (.nil _)))))))))) rfl
        case _ =>
          obtain ⟨e1, _⟩ := hv
          cases e1
      · have d1 : decide ((i : Int) < (al.length : Int)) = false := decide_eq_false (by omega)
        have hr : ring = [] := by
          cases ring with
          | nil => rfl
          | cons x r =>
            have := List.length_pos_iff.2 (hok.ne x (List.mem_cons_self ..))
            have hm : manyQ (x :: r) = x.jobs.length + manyQ r := rfl
            omega
        subst hr
        rw [show nxtQ quan [] = (none, []) from rfl] at hX
        refine pao [.b false] rfl ?_ ?_
        · (repeat' with_reducible apply AllP_cons) <;> try exact aC
        refine S_call rfl rfl rfl hX (fun v' σ' hv => ?_) (fun v' σ' hv => ?_)
        case _ =>
          obtain ⟨e1, rv', es', hq1, hk1⟩ := hv
          cases e1
          refine pao [.f (.ptr σ'.length 0 0) (fun s => s ++ [z0]), .f (.tup []) (fun _ => σ' ++ [z0])] rfl ?_ ?_
          · (repeat' with_reducible apply AllP_cons) <;> try exact aC
            · rw [hz0]; exact OpSpec.allocE rfl rfl rfl rfl hq1.al
            · exact OpSpec.storeP (id := σ'.length) (gT := some 34) (cs := [.int .i64 0, .str [], .int .i64 0]) (y := jobA job0) rfl rfl rfl rfl rfl rfl (by rw [app_last, hz0]) (lble rfl) (by rw [List.set_append_right _ _ (Nat.le_refl _), Nat.sub_self, hz0]; rfl)
          exact S_retc .bool rfl trivial rfl
        case _ =>
          obtain ⟨e1, _⟩ := hv
          cases e1
end Go.Proofs.Ytjaflkgfipaajaa
end
