/-
  Texts of our own, in one file.
-/
import Derived.Test.YtfpdfpdlekngfaaDoorGrpD
import Derived.WideShapes
section
set_option linter.unusedVariables false
set_option linter.unusedSimpArgs false
set_option maxRecDepth 20000
set_option maxHeartbeats 4000000
namespace Go.Proofs.YtfpdfpdlekngfaaDoor
open Go Go.Ab
theorem kdelA (id ver m n sz : Nat) : AV.ms id ver (0 + (Option.getD none (0 : Int)).toNat * sz) ((Option.getD (some (m : Int)) (n : Int)).toNat - (Option.getD none (0 : Int)).toNat) sz true = .ms id ver 0 m sz true := by simp
theorem kdelB (id ver m n sz : Nat) (h : m < 1000000000) : AV.ms id ver (0 + (Option.getD (some (IntKind.i64.wrap ((m : Int) + 1))) (0 : Int)).toNat * sz) ((Option.getD none (n : Int)).toNat - (Option.getD (some (IntKind.i64.wrap ((m : Int) + 1))) (0 : Int)).toNat) sz false = .ms id ver ((m + 1) * sz) (n - (m + 1)) sz false := by
  rw [show IntKind.i64.wrap ((m : Int) + 1) = ((m + 1 : Nat) : Int) from w64 rfl (by omega)]
  simp
theorem texts_erase (T : List Nm) (i : Nat) : (texts T).take (i * 1) ++ (texts T).drop ((i + 1) * 1) = texts (T.eraseIdx i) := by
  unfold texts
  rw [Nat.mul_one, Nat.mul_one, List.eraseIdx_eq_take_drop_succ, List.map_append, List.map_take, List.map_drop]
theorem intC_erase (T : List Int) (i : Nat) : (intC T).take (i * 1) ++ (intC T).drop ((i + 1) * 1) = intC (T.eraseIdx i) := by
  unfold intC
  rw [Nat.mul_one, Nat.mul_one, List.eraseIdx_eq_take_drop_succ, List.map_append, List.map_take, List.map_drop]
theorem KAt.toT {σ : Heap} {K : KL} {room : Int} {T T' : List Nm} {P : List Int} (h : KAt σ K room T P) {τ : Heap} {id' ver' : Nat} (hτ : Alive τ) (hp : id' = K.tid ∨ id' = σ.length) {K' : KL} (hK : K' = ⟨K.r, id', K.pid, ver', K.pv⟩) {x : Nat × Option Box} (hx : (σ ++ τ)[id']? = some x) :
    KAt (((σ ++ τ).set K.r (0, some (kpB K' room T' P))).set id' (ver', some (.cells (texts T') ⟨false, none⟩))) K' room T' P := by
  subst hK
  have l1 := lt_of_get h.rb
  have l2 := lt_of_get h.tb
  have l3 := lt_of_get h.pb
  have a1 := h.rt
  have a2 := h.rp
  have a3 := h.tp
  have n1 : K.r ≠ id' := by rcases hp with rfl | rfl <;> omega
  have n3 : K.pid ≠ id' := by rcases hp with rfl | rfl <;> omega
  refine ⟨Alive.set (Alive.set (alive_apps h.al hτ) _ _ _) _ _ _, ?_, ?_, ?_, n1, h.rp, Ne.symm n3⟩
  · show ((((σ ++ τ).set K.r _).set id' _)[K.r]?) = _
    rw [set_ne n1, set_eq (apps_get h.rb)]
  · show ((((σ ++ τ).set K.r _).set id' _)[id']?) = _
    exact set_eq (y := x) (by rw [set_ne (Ne.symm n1)]; exact hx)
  · show ((((σ ++ τ).set K.r _).set id' _)[K.pid]?) = _
    rw [set_ne n3, set_ne (Ne.symm a2)]; exact apps_get h.pb
theorem KAt.toP {σ : Heap} {K : KL} {room : Int} {T : List Nm} {P P' : List Int} (h : KAt σ K room T P) {τ : Heap} {id' ver' : Nat} (hτ : Alive τ) (hp : id' = K.pid ∨ id' = σ.length) {K' : KL} (hK : K' = ⟨K.r, K.tid, id', K.tv, ver'⟩) {x : Nat × Option Box} (hx : (σ ++ τ)[id']? = some x) :
    KAt (((σ ++ τ).set K.r (0, some (kpB K' room T P'))).set id' (ver', some (.cells (intC P') ⟨false, none⟩))) K' room T P' := by
  subst hK
  have l1 := lt_of_get h.rb
  have l2 := lt_of_get h.tb
  have l3 := lt_of_get h.pb
  have a1 := h.rt
  have a2 := h.rp
  have a3 := h.tp
  have n1 : K.r ≠ id' := by rcases hp with rfl | rfl <;> omega
  have n3 : K.tid ≠ id' := by rcases hp with rfl | rfl <;> omega
  refine ⟨Alive.set (Alive.set (alive_apps h.al hτ) _ _ _) _ _ _, ?_, ?_, ?_, h.rt, n1, n3⟩
  · show ((((σ ++ τ).set K.r _).set id' _)[K.r]?) = _
    rw [set_ne n1, set_eq (apps_get h.rb)]
  · show ((((σ ++ τ).set K.r _).set id' _)[K.tid]?) = _
    rw [set_ne n3, set_ne (Ne.symm a1)]; exact apps_get h.tb
  · show ((((σ ++ τ).set K.r _).set id' _)[id']?) = _
    exact set_eq (y := x) (by rw [set_ne (Ne.symm n1)]; exact hx)
theorem keepKS {σ τ : Heap} {K K' : KL} {id' r : Nat} {x y : Nat × Option Box} (hr : OwnK K r) (hp : OwnK K id' ∨ id' = σ.length) (hL : ∀ id, OwnK K' id → OwnK K id ∨ id = id') : QKeep σ (((σ ++ τ).set r x).set id' y) (OwnK K) (OwnK K') := by
  refine ⟨by simp, fun id hid hno => ?_, fun id ho => ?_⟩
  · have n1 : id ≠ id' := by
      rintro rfl
      rcases hp with h | h
      · exact hno h
      · omega
    have n2 : id ≠ r := by rintro rfl; exact hno hr
    rw [set_ne n1, set_ne n2, List.getElem?_append_left hid]
  · rcases hL id ho with h | rfl
    · exact .inl h
    · rcases hp with h | h
      · exact .inl h
      · exact .inr (by omega)
theorem take_ok (σ : Heap) (K : KL) (room : Int) (T : List Nm) (P : List Int) (h : KAt σ K room T P) {i : Nat} (hi : i < T.length) (hip : i < P.length) (hl : T.length ≤ 1000000) (hlp : P.length ≤ 1000000) :
    CallOk cx 42 [.ptr K.r 0 0, .int .i64 (i : Nat)] σ (fun o u => o = .ret (.tup [.str T[i], .int .i64 P[i]]) ∧ ∃ K', KAt u K' room (T.eraseIdx i) (P.eraseIdx i) ∧ K'.r = K.r ∧ QKeep σ u (OwnK K) (OwnK K')) :=
  callOk_intro (fun a w => Tryd.call42 a w) Tryd.func42 rfl Tryd.ntmps42 rfl fun B => by
    have hld := txC_f hi
    have hpd := intC_at hip
    have c1 : decide ((i : Int) < (T.length : Int)) = true := decide_eq_true (by omega)
    have c2 : decide ((i : Int) < (P.length : Int)) = true := decide_eq_true (by omega)
    refine pao [] rfl ?_ ?_
    · (repeat' with_reducible apply AllP_cons) <;> try exact aC
    refine S_drawO 15 [.ms K.tid K.tv 0 T.length 1 false, .top, .str T[i], .ms K.pid K.pv 0 P.length 1 false, .top, .int .i64 P[i]] rfl rfl rfl rfl ?_ ?_
    · (repeat' with_reducible apply AllP_cons) <;> try exact aC
      · exact OpSpec.loadP rfl rfl rfl rfl h.rb rfl
      · exact OpSpec.loadE rfl rfl rfl rfl h.tb hld
      · exact OpSpec.loadP rfl rfl rfl rfl h.rb rfl
      · exact OpSpec.loadE rfl rfl rfl rfl h.pb hpd
    refine pao [] rfl ?_ ?_
    · (repeat' with_reducible apply AllP_cons) <;> try exact aC
    obtain ⟨id', ver', fl', τ, hdc⟩ := DelC.ex σ K.tid K.tv (texts T) 1 hi
    obtain ⟨cs', hcs1, hcs2⟩ := hdc.box (by rw [texts_len]; omega) h.tb
    rw [texts_erase] at hcs2
    refine S_drawOC (σ ++ τ) 15 16 [.ms K.tid K.tv 0 T.length 1 false, .ms K.tid K.tv 0 T.length 1 false, .ms id' ver' 0 (T.length - 1) 1 fl'] rfl rfl rfl rfl (fun t => rfl) (fun u hu => ?_) (fun o v ho hv => ?_) ?_
    · have hlr : u[K.r]? = some (0, some (kpB K room T P)) := by
        rcases hu with rfl | rfl
        · exact h.rb
        · exact apps_get h.rb
      (repeat' with_reducible apply AllP_cons) <;> try exact aC
      · exact OpSpec.loadP rfl rfl rfl rfl hlr rfl
      · exact OpSpec.loadP rfl rfl rfl rfl hlr rfl
    · cases ho; cases hv
      exact specC_step rfl rfl (OpSpec.delS (cs := texts T) (f2 := false) hdc rfl rfl rfl rfl rfl (kdelA (n := T.length) ..) rfl (kdelB _ _ _ _ _ (by omega)) h.al h.tb (by rw [texts_len]; omega) (texts_one _) (by show T.length * 16 ≤ _; omega) (by omega))
    refine S_unfull (t := 37) rfl ⟨.skip, _, .inr ⟨_, _, _, rfl⟩⟩ ?_
    obtain ⟨T', hT'⟩ : ∃ T', T' = T.eraseIdx i := ⟨_, rfl⟩
    have hTl : T'.length = T.length - 1 := by rw [hT', List.length_eraseIdx_of_lt hi]
    obtain ⟨K2, hK2⟩ : ∃ K2 : KL, K2 = ⟨K.r, id', K.pid, ver', K.pv⟩ := ⟨_, rfl⟩
    obtain ⟨R2, hR2⟩ : ∃ R2 : Nat × Option Box, R2 = (0, some (kpB K2 room T' P)) := ⟨_, rfl⟩
    have h3 := h.toT (T' := T') hdc.alive hdc.place hK2 hcs1
    have hk3 : QKeep σ (((σ ++ τ).set K.r R2).set id' (ver', some (.cells (texts T') ⟨false, none⟩))) (OwnK K) (OwnK K2) := keepKS (ownK.2 (.inl rfl)) (by
      rcases hdc.place with h' | h'
      · exact .inl (ownK.2 (.inr (.inl h')))
      · exact .inr h') fun id ho => by
      rw [hK2] at ho
      rcases ownK.1 ho with h' | h' | h'
      · exact .inl (ownK.2 (.inl h'))
      · exact .inr h'
      · exact .inl (ownK.2 (.inr (.inr h')))
    rw [← hR2] at h3
    refine pao [.f (.tup []) (fun u => u.set K.r R2), .s] rfl ?_ ?_
    · (repeat' with_reducible apply AllP_cons) <;> try exact aC
      refine OpSpec.storeP (id := K.r) (gT := some 48) (cs := kpC K room T P) (y := .ms id' ver' 0 (T.length - 1) 1 false) rfl rfl rfl rfl rfl rfl (apps_get h.rb) (lble rfl) ?_
      rw [hR2, hK2, ← hTl]; rfl
    have n1 : K.r ≠ id' := by
      have := lt_of_get h.rb
      rcases hdc.place with h' | h'
      · rw [h']; exact h.rt
      · omega
    have hcx : ((σ ++ τ).set K.r R2)[id']? = some (ver', some (.cells cs' ⟨false, none⟩)) := by rw [set_ne (Ne.symm n1)]; exact hcs1
    refine S_cut ((T.length - 1) * 1) hcx ⟨_, _, .inl rfl⟩ ?_
    rw [hcs2, ← hT']
    obtain ⟨σ3, hσ3⟩ : ∃ σ3, σ3 = ((σ ++ τ).set K.r R2).set id' (ver', some (.cells (texts T') ⟨false, none⟩)) := ⟨_, rfl⟩
    rw [← hσ3] at h3 hk3 ⊢
    have hr2 : K2.r = K.r := by rw [hK2]
    have hp2 : K2.pid = K.pid ∧ K2.pv = K.pv := by rw [hK2]; exact ⟨rfl, rfl⟩
    have hrb3 := h3.rb
    rw [hr2] at hrb3
    have hpb3 := h3.pb
    rw [hp2.1, hp2.2] at hpb3
    obtain ⟨idp, verp, flp, τp, hdp⟩ := DelC.ex σ3 K.pid K.pv (intC P) 1 hip
    obtain ⟨csp, hcp1, hcp2⟩ := hdp.box (by rw [intC_len]; omega) hpb3
    rw [intC_erase] at hcp2
    refine pao [] rfl ?_ ?_
    · (repeat' with_reducible apply AllP_cons) <;> try exact aC
    refine S_drawOC (σ3 ++ τp) 15 16 [.ms K.pid K.pv 0 P.length 1 false, .ms K.pid K.pv 0 P.length 1 false, .ms idp verp 0 (P.length - 1) 1 flp] rfl rfl rfl rfl (fun t => rfl) (fun u hu => ?_) (fun o v ho hv => ?_) ?_
    · have hlr : u[K.r]? = some (0, some (kpB K2 room T' P)) := by
        rcases hu with rfl | rfl
        · exact hrb3
        · exact apps_get hrb3
      (repeat' with_reducible apply AllP_cons) <;> try exact aC
      all_goals exact OpSpec.loadP rfl rfl rfl rfl hlr (by rw [hK2]; rfl)
    · cases ho; cases hv
      exact specC_step rfl rfl (OpSpec.delS (cs := intC P) (f2 := false) hdp rfl rfl rfl rfl rfl (kdelA (n := P.length) ..) rfl (kdelB _ _ _ _ _ (by omega)) h3.al hpb3 (by rw [intC_len]; omega) (intC_one _) (by show P.length * 8 ≤ _; omega) (by omega))
    refine S_unfull (t := 55) rfl ⟨.skip, _, .inr ⟨_, _, _, rfl⟩⟩ ?_
    obtain ⟨P', hP'⟩ : ∃ P', P' = P.eraseIdx i := ⟨_, rfl⟩
    have hPl : P'.length = P.length - 1 := by rw [hP', List.length_eraseIdx_of_lt hip]
    obtain ⟨K3, hK3⟩ : ∃ K3 : KL, K3 = ⟨K2.r, K2.tid, idp, K2.tv, verp⟩ := ⟨_, rfl⟩
    obtain ⟨R3, hR3⟩ : ∃ R3 : Nat × Option Box, R3 = (0, some (kpB K3 room T' P')) := ⟨_, rfl⟩
    have hplp : idp = K2.pid ∨ idp = σ3.length := by rw [hp2.1]; exact hdp.place
    have h4 := h3.toP (P' := P') hdp.alive hplp hK3 hcp1
    have hk4 : QKeep σ3 (((σ3 ++ τp).set K2.r R3).set idp (verp, some (.cells (intC P') ⟨false, none⟩))) (OwnK K2) (OwnK K3) := keepKS (ownK.2 (.inl rfl)) (by
      rcases hplp with h' | h'
      · exact .inl (ownK.2 (.inr (.inr h')))
      · exact .inr h') fun id ho => by
      rw [hK3] at ho
      rcases ownK.1 ho with h' | h' | h'
      · exact .inl (ownK.2 (.inl h'))
      · exact .inl (ownK.2 (.inr (.inl h')))
      · exact .inr h'
    rw [← hR3, hr2] at h4
    rw [hr2] at hk4
    refine pao [.f (.tup []) (fun u => u.set K.r R3), .s] rfl ?_ ?_
    · (repeat' with_reducible apply AllP_cons) <;> try exact aC
      refine OpSpec.storeP (id := K.r) (gT := some 48) (cs := kpC K2 room T' P) (y := .ms idp verp 0 (P.length - 1) 1 false) rfl rfl rfl rfl rfl rfl (apps_get hrb3) (lble rfl) ?_
      rw [hR3, hK3, ← hPl]; rfl
    have n2 : K.r ≠ idp := by
      have := lt_of_get hrb3
      rcases hplp with h' | h'
      · rw [h', ← hr2]; exact h3.rp
      · omega
    have hcx4 : ((σ3 ++ τp).set K.r R3)[idp]? = some (verp, some (.cells csp ⟨false, none⟩)) := by rw [set_ne (Ne.symm n2)]; exact hcp1
    refine S_cut ((P.length - 1) * 1) hcx4 ⟨.skip, _, .inr ⟨_, _, _, rfl⟩⟩ ?_
    rw [hcp2, ← hP']
    refine pao [] rfl ?_ ?_
    · (repeat' with_reducible apply AllP_cons) <;> try exact aC
    exact S_ret ⟨_, _, rfl, trivial, rfl, K3, h4, by rw [hK3]; exact hr2, hk3.trans hk4⟩
end Go.Proofs.YtfpdfpdlekngfaaDoor
end
section
set_option linter.unusedVariables false
set_option linter.unusedSimpArgs false
set_option maxRecDepth 20000
set_option maxHeartbeats 4000000
namespace Go.Proofs.YtfpdfpdlekngfaaDoor
open Go Go.Ab
def bumpK (K : KL) : KL := ⟨K.r, K.tid, K.pid, K.tv + 1, K.pv + 1⟩
theorem texts_snocK (l : List Nm) (x : Nm) : texts l ++ [.str x] = texts (l ++ [x]) := by simp [texts]
theorem KAt.push {σ : Heap} {K : KL} {room : Int} {T : List Nm} {P : List Int} (h : KAt σ K room T P) (s : Nm) (n : Int) (X : Nat × Option Box) (hX : ∃ b, X.2 = some b) :
    KAt ((((σ.set K.tid (K.tv + 1, some (.cells (texts (T ++ [s])) ⟨false, none⟩))).set K.pid (K.pv + 1, some (.cells (intC (P ++ [n])) ⟨false, none⟩))).set K.r X).set K.r (0, some (kpB (bumpK K) room (T ++ [s]) (P ++ [n])))) (bumpK K) room (T ++ [s]) (P ++ [n]) := by
  refine ⟨Alive.set (Alive.set' (Alive.set (Alive.set h.al _ _ _) _ _ _) hX _) _ _ _, ?_, ?_, ?_, h.rt, h.rp, h.tp⟩
  · show (List.set _ K.r _)[K.r]? = _
    rw [List.set_set]
    exact set_eq (y := (0, some (kpB K room T P))) (by rw [set_ne h.rp, set_ne h.rt]; exact h.rb)
  · show (List.set _ K.r _)[K.tid]? = _
    rw [set_ne h.rt.symm, set_ne h.rt.symm, set_ne h.tp, set_eq h.tb]; rfl
  · show (List.set _ K.r _)[K.pid]? = _
    rw [set_ne h.rp.symm, set_ne h.rp.symm, set_eq (y := (K.pv, some (.cells (intC P) ⟨false, none⟩))) (by rw [set_ne h.tp.symm]; exact h.pb)]; rfl
theorem keepK4 {σ : Heap} {K : KL} {a b c d : Nat × Option Box} : QKeep σ ((((σ.set K.tid a).set K.pid b).set K.r c).set K.r d) (OwnK K) (OwnK (bumpK K)) :=
  ((((QKeep.refl.setO (ownK.2 (.inr (.inl rfl))) a).setO (ownK.2 (.inr (.inr rfl))) b).setO (ownK.2 (.inl rfl)) c).setO (ownK.2 (.inl rfl)) d).own fun id ho => .inl (by
    rcases ownK.1 ho with h | h | h
    · exact ownK.2 (.inl h)
    · exact ownK.2 (.inr (.inl h))
    · exact ownK.2 (.inr (.inr h)))
theorem Use_ok (σ : Heap) (K : KL) (room : Int) (es : List CI) (h : KAt σ K room (txOf es) (pnOf es)) {i : Nat} (hi : i < es.length) (hl : es.length ≤ 900000) :
    CallOk cx 23 [.ptr K.r 0 0, .int .i64 (i : Nat)] σ (fun o u => o = .ret (.tup []) ∧ ∃ K', KAt u K' room (txOf (useC es i)) (pnOf (useC es i)) ∧ K'.r = K.r ∧ QKeep σ u (OwnK K) (OwnK K')) :=
  callOk_intro (fun a w => Tryd.call23 a w) Tryd.func23 rfl Tryd.ntmps23 rfl fun B => by
    have htl := txOf_len es
    have hpl := pnOf_len es
    have hT := take_ok σ K room (txOf es) (pnOf es) h (i := i) (by omega) (by omega) (by omega) (by omega)
    rw [txOf_at hi, pnOf_at hi] at hT
    refine pao [] rfl ?_ ?_
    · (repeat' with_reducible apply AllP_cons) <;> try exact aC
    refine S_call rfl rfl rfl hT (fun v u hR => ?_) (fun v s hR => by obtain ⟨hR, _⟩ := hR; cases hR)
    obtain ⟨hR, K1, h1, hr1, hk1⟩ := hR
    cases hR
    obtain ⟨T1, hT1⟩ : ∃ T1, T1 = (txOf es).eraseIdx i := ⟨_, rfl⟩
    obtain ⟨P1, hP1⟩ : ∃ P1, P1 = (pnOf es).eraseIdx i := ⟨_, rfl⟩
    rw [← hT1, ← hP1] at h1
    have hue : useC es i = es.eraseIdx i ++ [es[i]] := useC_eq hi
    have hTe : T1 ++ [es[i].text] = txOf (useC es i) := by
      rw [hue, hT1]; unfold txOf
      rw [List.map_append, List.eraseIdx_eq_take_drop_succ, List.eraseIdx_eq_take_drop_succ, List.map_append, List.map_take, List.map_drop]; rfl
    have hPe : P1 ++ [es[i].pins] = pnOf (useC es i) := by
      rw [hue, hP1]; unfold pnOf
      rw [List.map_append, List.eraseIdx_eq_take_drop_succ, List.eraseIdx_eq_take_drop_succ, List.map_append, List.map_take, List.map_drop]; rfl
    have hT1l : T1.length ≤ 900000 := by rw [hT1, List.length_eraseIdx_of_lt (by omega)]; omega
    have hP1l : P1.length ≤ 900000 := by rw [hP1, List.length_eraseIdx_of_lt (by omega)]; omega
    obtain ⟨A1, hA1⟩ : ∃ A1 : Nat × Option Box, A1 = (K1.tv + 1, some (.cells (texts (T1 ++ [es[i].text])) ⟨false, none⟩)) := ⟨_, rfl⟩
    obtain ⟨A2, hA2⟩ : ∃ A2 : Nat × Option Box, A2 = (K1.pv + 1, some (.cells (intC (P1 ++ [es[i].pins])) ⟨false, none⟩)) := ⟨_, rfl⟩
    obtain ⟨A3, hA3⟩ : ∃ A3 : Nat × Option Box, A3 = (0, some (.cells [.int .i64 room, .ms K1.tid (K1.tv + 1) 0 (T1.length + 1) 1 false, .ms K1.pid K1.pv 0 P1.length 1 false] ⟨false, some 48⟩)) := ⟨_, rfl⟩
    obtain ⟨A4, hA4⟩ : ∃ A4 : Nat × Option Box, A4 = (0, some (kpB (bumpK K1) room (T1 ++ [es[i].text]) (P1 ++ [es[i].pins]))) := ⟨_, rfl⟩
    have hfin := h1.push es[i].text es[i].pins A3 (by rw [hA3]; exact ⟨_, rfl⟩)
    rw [← hA1, ← hA2, ← hA4, hr1] at hfin
    have hkf : QKeep u ((((u.set K1.tid A1).set K1.pid A2).set K1.r A3).set K1.r A4) (OwnK K1) (OwnK (bumpK K1)) := keepK4
    rw [hr1] at hkf
    have nrt : K.r ≠ K1.tid := by rw [← hr1]; exact h1.rt
    have nrp : K.r ≠ K1.pid := by rw [← hr1]; exact h1.rp
    have hr0 : u[K.r]? = some (0, some (kpB K1 room T1 P1)) := by rw [← hr1]; exact h1.rb
    have hra : (u.set K1.tid A1)[K.r]? = some (0, some (kpB K1 room T1 P1)) := by rw [set_ne nrt]; exact hr0
    have hrb : ((u.set K1.tid A1).set K1.pid A2)[K.r]? = some (0, some (kpB K1 room T1 P1)) := by rw [set_ne nrp]; exact hra
    have hrc : (((u.set K1.tid A1).set K1.pid A2).set K.r A3)[K.r]? = some (0, some (.cells [.int .i64 room, .ms K1.tid (K1.tv + 1) 0 (T1.length + 1) 1 false, .ms K1.pid K1.pv 0 P1.length 1 false] ⟨false, some 48⟩)) := by rw [set_eq hrb, hA3]
    have hpb : (u.set K1.tid A1)[K1.pid]? = some (K1.pv, some (.cells (intC P1) ⟨false, none⟩)) := by rw [set_ne h1.tp.symm]; exact h1.pb
    refine pao [] rfl ?_ ?_
    · (repeat' with_reducible apply AllP_cons) <;> try exact aC
    refine S_drawOL [(8, u.set K1.tid A1), (15, (u.set K1.tid A1).set K1.pid A2), (18, ((u.set K1.tid A1).set K1.pid A2).set K.r A3), (21, (((u.set K1.tid A1).set K1.pid A2).set K.r A3).set K.r A4)] _ 22 [.ms K1.tid K1.tv 0 T1.length 1 false, .ms K1.tid (K1.tv + 1) 0 (T1.length + 1) 1 false, .ms K1.pid K1.pv 0 P1.length 1 false, .ms K1.pid (K1.pv + 1) 0 (P1.length + 1) 1 false, .tup [], .tup []] _ _ rfl rfl rfl rfl rfl rfl ⟨⟨_, rfl, ?_⟩, ⟨_, rfl, ?_⟩, ⟨_, rfl, ?_⟩, ⟨_, rfl, ?_⟩, ⟨_, rfl, ?_⟩, trivial⟩ ⟨fun o v ho hv => ?_, fun o v ho hv => ?_, fun o v ho hv => ?_, fun o v ho hv => ?_, trivial⟩ rfl ?_
    · (repeat' with_reducible apply AllP_cons) <;> try exact aC
      all_goals exact OpSpec.loadP rfl rfl rfl rfl hr0 rfl
    · (repeat' with_reducible apply AllP_cons) <;> try exact aC
      all_goals exact OpSpec.loadP rfl rfl rfl rfl hra rfl
    · (repeat' with_reducible apply AllP_cons) <;> try exact aC
      all_goals exact OpSpec.loadP rfl rfl rfl rfl hrb rfl
    · (repeat' with_reducible apply AllP_cons) <;> try exact aC
      all_goals exact OpSpec.loadP rfl rfl rfl rfl hrc rfl
    · (repeat' with_reducible apply AllP_cons) <;> try exact aC
    · cases ho; cases hv
      exact specC_step rfl rfl (OpSpec.appendX (id := K1.tid) (ver := K1.tv) (off := 0) (len := T1.length) (y := .str es[i].text) (cs := texts T1) rfl rfl rfl rfl rfl (fun z hz => by rw [List.mem_singleton.1 (show z ∈ [AV.str es[i].text] from hz)]; rfl) h1.tb (by rw [texts_len]; omega) (by show (T1.length + 1) * 16 ≤ _; omega) (by omega) (by rw [hA1, ← texts_snocK]; rfl))
    · cases ho; cases hv
      exact specC_step rfl rfl (OpSpec.appendX (id := K1.pid) (ver := K1.pv) (off := 0) (len := P1.length) (y := .int .i64 es[i].pins) (cs := intC P1) rfl rfl rfl rfl rfl (fun z hz => by rw [List.mem_singleton.1 (show z ∈ [AV.int .i64 es[i].pins] from hz)]; rfl) hpb (by rw [intC_len]; omega) (by show (P1.length + 1) * 8 ≤ _; omega) (by omega) (by rw [hA2, intC_app]; rfl))
    · cases ho; cases hv
      exact specC_step rfl rfl (OpSpec.storeP (id := K.r) (gT := some 48) (cs := kpC K1 room T1 P1) (y := .ms K1.tid (K1.tv + 1) 0 (T1.length + 1) 1 false) rfl rfl rfl rfl rfl rfl hrb (lble rfl) (by rw [hA3]; rfl))
    · cases ho; cases hv
      refine specC_step rfl rfl (OpSpec.storeP (id := K.r) (gT := some 48) (cs := [.int .i64 room, .ms K1.tid (K1.tv + 1) 0 (T1.length + 1) 1 false, .ms K1.pid K1.pv 0 P1.length 1 false]) (y := .ms K1.pid (K1.pv + 1) 0 (P1.length + 1) 1 false) rfl rfl rfl rfl rfl rfl hrc (lble rfl) ?_)
      rw [hA4]
      unfold kpB kpC
      simp only [List.length_append, List.length_cons, List.length_nil]
      rfl
    refine pao [] rfl ?_ ?_
    · (repeat' with_reducible apply AllP_cons) <;> try exact aC
    refine S_nil ⟨_, _, rfl, trivial, rfl, bumpK K1, ?_, hr1, hk1.trans hkf⟩
    rw [← hTe, ← hPe]; exact hfin
end Go.Proofs.YtfpdfpdlekngfaaDoor
end
section
set_option linter.unusedVariables false
set_option linter.unusedSimpArgs false
set_option maxRecDepth 20000
set_option maxHeartbeats 4000000
namespace Go.Proofs.YtfpdfpdlekngfaaDoor
open Go Go.Ab
theorem mem_tx {es : List CI} (hb : BdC es) : ∀ x ∈ txOf es, x.length ≤ 1048576 := fun x hx => by
  obtain ⟨e, he, rfl⟩ := List.mem_map.1 hx
  exact hb.tx e he
theorem KPut_big (σ : Heap) (K : KL) (room : Int) (es : List CI) (s : Nm) (h : KAt σ K room (txOf es) (pnOf es)) (hs : s.length > 100000) (hs2 : s.length ≤ 1048576) :
    CallOk cx 21 [.ptr K.r 0 0, .str s] σ (fun o u => o = .ret (.int .i64 2) ∧ u = σ) :=
  callOk_intro (fun a w => Tryd.call21 a w) Tryd.func21 rfl Tryd.ntmps21 rfl fun B => by
    have c1 : decide ((s.length : Int) > 100000) = true := decide_eq_true (by omega)
    refine pao [.b true] rfl ?_ ?_
    · (repeat' with_reducible apply AllP_cons) <;> try exact aC
    exact S_ret ⟨_, _, rfl, trivial, rfl, rfl⟩
theorem KPut_use (σ : Heap) (K : KL) (room : Int) (es : List CI) (s : Nm) (h : KAt σ K room (txOf es) (pnOf es)) (hb : BdC es) (hs : s.length ≤ 100000) {i : Nat} (hi : i < es.length) (hat : atD es (sha s) = some i) :
    CallOk cx 21 [.ptr K.r 0 0, .str s] σ (fun o u => o = .ret (.int .i64 0) ∧ ∃ K', KAt u K' room (txOf (useC es i)) (pnOf (useC es i)) ∧ K'.r = K.r ∧ QKeep σ u (OwnK K) (OwnK K')) :=
  callOk_intro (fun a w => Tryd.call21 a w) Tryd.func21 rfl Tryd.ntmps21 rfl fun B => by
    have hln := hb.ln
    have c1 : decide ((s.length : Int) > 100000) = false := decide_eq_false (by omega)
    have hS := SumR_ok s (by omega)
    have hA := KAt_ok σ K room (txOf es) (pnOf es) (sha s) h (by rw [txOf_len]; omega) (mem_tx hb)
    rw [atK_of, hat] at hA
    have hA : CallOk cx 20 [.ptr K.r 0 0, .str (sha s)] σ (fun o u => o = .ret (.int .i64 (i : Int)) ∧ u = σ) := hA
    have hU := Use_ok σ K room es h hi hln
    have c2 : decide ((i : Int) ≥ 0) = true := decide_eq_true (by omega)
    refine pao [.b false, .v (.str (sha s)), .k (.int .i64 (i : Int)), .b true] rfl ?_ ?_
    · (repeat' with_reducible apply AllP_cons) <;> try exact aC
      · exact ⟨_, hS, .cons (.refl .str) (.nil _)⟩
    refine S_call rfl rfl rfl hU (fun v u hR => ?_) (fun v s hR => by obtain ⟨hR, _⟩ := hR; cases hR)
    obtain ⟨hR, h2⟩ := hR
    cases hR
    refine pao [] rfl ?_ ?_
    · (repeat' with_reducible apply AllP_cons) <;> try exact aC
    exact S_ret ⟨_, _, rfl, trivial, rfl, h2⟩
theorem usedK_bd {es : List CI} (hb : BdC es) (p : Bool) : usedK es p ≤ 1000000000000 := by
  have := usedK_le hb es.length p
  rwa [List.take_length] at this
theorem KPut_full (σ : Heap) (K : KL) (room : Int) (es : List CI) (s : Nm) (h : KAt σ K room (txOf es) (pnOf es)) (hb : BdC es) (hs : s.length ≤ 100000) (hat : atD es (sha s) = none) (hf : ((pinL es : Nat) : Int) + (s.length : Nat) > room) :
    CallOk cx 21 [.ptr K.r 0 0, .str s] σ (fun o u => o = .ret (.int .i64 2) ∧ u = σ) :=
  callOk_intro (fun a w => Tryd.call21 a w) Tryd.func21 rfl Tryd.ntmps21 rfl fun B => by
    have hln := hb.ln
    have c1 : decide ((s.length : Int) > 100000) = false := decide_eq_false (by omega)
    have hS := SumR_ok s (by omega)
    have hA := KAt_ok σ K room (txOf es) (pnOf es) (sha s) h (by rw [txOf_len]; omega) (mem_tx hb)
    rw [atK_of, hat] at hA
    have hA : CallOk cx 20 [.ptr K.r 0 0, .str (sha s)] σ (fun o u => o = .ret (.int .i64 (-1)) ∧ u = σ) := hA
    have hU := Used_ok σ K room es true h hb
    have hub := usedK_bd hb true
    have hw : IntKind.i64.wrap (((usedK es true : Nat) : Int) + (s.length : Int)) = ((usedK es true : Nat) : Int) + (s.length : Int) := IntWalk.i64_in _ ⟨by omega, by omega⟩
    have c2 : decide (IntKind.i64.wrap (((usedK es true : Nat) : Int) + (s.length : Int)) > room) = true := by rw [hw]; exact decide_eq_true hf
    refine pao [.b false, .v (.str (sha s)), .k (.int .i64 (-1)), .b false] rfl ?_ ?_
    · (repeat' with_reducible apply AllP_cons) <;> try exact aC
      · exact ⟨_, hS, .cons (.refl .str) (.nil _)⟩
    refine S_drawOC σ 1 9 [.int .i64 (usedK es true : Nat), .int .i64 room] rfl rfl rfl rfl (fun t => rfl) (fun u' hu => ?_) (fun o v ho hv => ?_) ?_
    · have : u' = σ := by rcases hu with rfl | rfl <;> rfl
      subst this
      (repeat' with_reducible apply AllP_cons) <;> try exact aC
      all_goals exact OpSpec.loadP rfl rfl rfl rfl h.rb rfl
    · cases ho; cases hv
      exact chgW_step rfl rfl hU
    refine pao [.b true] rfl ?_ ?_
    · (repeat' with_reducible apply AllP_cons) <;> try exact aC
    exact S_ret ⟨_, _, rfl, trivial, rfl, rfl⟩
theorem erase_mid {α : Type} (a : List α) (x : α) (b : List α) : (a ++ x :: b).eraseIdx a.length = a ++ b := by
  rw [List.eraseIdx_append_of_length_le (Nat.le_refl _), Nat.sub_self]; rfl
theorem KPut_new (σ : Heap) (K : KL) (room : Int) (es : List CI) (s : Nm) (used : Int) (h : KAt σ K room (txOf es) (pnOf es)) (hb : BdC es) (hus : used = (lenC es : Nat)) (hs : s.length ≤ 100000) (hat : atD es (sha s) = none) (hf : ¬ ((pinL es : Nat) : Int) + (s.length : Nat) > room) (jid : Nat) :
    CallOk cx 21 [.ptr K.r 0 0, .str s] σ (fun o u => o = .ret (.int .i64 0) ∧ ∃ K', KAt u K' room (txOf ((dropS room s.length used es).2 ++ [⟨s, 0, jid⟩])) (pnOf ((dropS room s.length used es).2 ++ [⟨s, 0, jid⟩])) ∧ K'.r = K.r ∧ QKeep σ u (OwnK K) (OwnK K')) :=
  callOk_intro (fun a w => Tryd.call21 a w) Tryd.func21 rfl Tryd.ntmps21 rfl fun B => by
    have hln := hb.ln
    have c1 : decide ((s.length : Int) > 100000) = false := decide_eq_false (by omega)
    have hS := SumR_ok s (by omega)
    have hA := KAt_ok σ K room (txOf es) (pnOf es) (sha s) h (by rw [txOf_len]; omega) (mem_tx hb)
    rw [atK_of, hat] at hA
    have hA : CallOk cx 20 [.ptr K.r 0 0, .str (sha s)] σ (fun o u => o = .ret (.int .i64 (-1)) ∧ u = σ) := hA
    have hU := Used_ok σ K room es true h hb
    have hub := usedK_bd hb true
    have hw : IntKind.i64.wrap (((usedK es true : Nat) : Int) + (s.length : Int)) = ((usedK es true : Nat) : Int) + (s.length : Int) := IntWalk.i64_in _ ⟨by omega, by omega⟩
    have c2 : decide (IntKind.i64.wrap (((usedK es true : Nat) : Int) + (s.length : Int)) > room) = false := by rw [hw]; exact decide_eq_false hf
    refine pao [.b false, .v (.str (sha s)), .k (.int .i64 (-1)), .b false] rfl ?_ ?_
    · (repeat' with_reducible apply AllP_cons) <;> try exact aC
      · exact ⟨_, hS, .cons (.refl .str) (.nil _)⟩
    refine S_drawOC σ 1 9 [.int .i64 (usedK es true : Nat), .int .i64 room] rfl rfl rfl rfl (fun t => rfl) (fun u' hu => ?_) (fun o v ho hv => ?_) ?_
    · have : u' = σ := by rcases hu with rfl | rfl <;> rfl
      subst this
      (repeat' with_reducible apply AllP_cons) <;> try exact aC
      all_goals exact OpSpec.loadP rfl rfl rfl rfl h.rb rfl
    · cases ho; cases hv
      exact chgW_step rfl rfl hU
    refine pao [.b false] rfl ?_ ?_
    · (repeat' with_reducible apply AllP_cons) <;> try exact aC
    refine S_while (α := (Heap × KL) × List CI × List CI × Nat) (fun x => [(0, .ptr K.r 0 0), (1, .str s), (6, .int .i64 (x.2.2.2 : Nat))]) (fun x => x.1.1)
      (fun x => x.2.2.2 = x.2.1.length ∧ KAt x.1.1 x.1.2 room (txOf (x.2.1 ++ x.2.2.1)) (pnOf (x.2.1 ++ x.2.2.1)) ∧ x.1.2.r = K.r ∧ QKeep σ x.1.1 (OwnK K) (OwnK x.1.2) ∧ (x.2.1 ++ x.2.2.1).Sublist es ∧ (∀ e ∈ x.2.1, e.pins > 0) ∧
        dropS room s.length used es = ((dropS room s.length (lenC (x.2.1 ++ x.2.2.1) : Nat) x.2.2.1).1, x.2.1 ++ (dropS room s.length (lenC (x.2.1 ++ x.2.2.1) : Nat) x.2.2.1).2) ∧ pinL (x.2.1 ++ x.2.2.1) = pinL es) (fun x => x.2.2.1.length) ((σ, K), [], es, 0)
      ⟨rfl, h, rfl, QKeep.refl, List.Sublist.refl _, (fun e he => by cases he), (by show dropS room s.length used es = _; rw [hus]; rfl), rfl⟩ (.cons rfl (.cons rfl (.cons rfl (.nil _)))) rfl ?_
    rintro ⟨⟨u, K1⟩, kept, rest, ix⟩ ⟨hix, h1, hr1, hk1, hsub, hpin, hds, hpl⟩
    simp only at hix h1 hr1 hk1 hsub hpin hds hpl
    have hb1 := hb.sub hsub
    have hub1 := usedK_bd hb1 false
    have huf : usedK (kept ++ rest) false = lenC (kept ++ rest) := rfl
    have hU1 := Used_ok u K1 room (kept ++ rest) false h1 hb1
    rw [hr1, huf] at hU1
    rw [huf] at hub1
    have hrb1 := h1.rb
    rw [hr1] at hrb1
    have hw1 : IntKind.i64.wrap (((lenC (kept ++ rest) : Nat) : Int) + (s.length : Int)) = ((lenC (kept ++ rest) : Nat) : Int) + (s.length : Int) := IntWalk.i64_in _ ⟨by omega, by omega⟩
    refine pao [] rfl ?_ ?_
    · (repeat' with_reducible apply AllP_cons) <;> try exact aC
    refine S_drawOC u 1 9 [.int .i64 (lenC (kept ++ rest) : Nat), .int .i64 room] rfl rfl rfl rfl (fun t => rfl) (fun u' hu => ?_) (fun o v ho hv => ?_) ?_
    · have : u' = u := by rcases hu with rfl | rfl <;> rfl
      subst this
      (repeat' with_reducible apply AllP_cons) <;> try exact aC
      all_goals exact OpSpec.loadP rfl rfl rfl rfl hrb1 rfl
    · cases ho; cases hv
      exact chgW_step rfl rfl hU1
    by_cases hfit : ((lenC (kept ++ rest) : Nat) : Int) + (s.length : Int) > room
    · have d1 : decide (IntKind.i64.wrap (((lenC (kept ++ rest) : Nat) : Int) + (s.length : Int)) > room) = true := by rw [hw1]; exact decide_eq_true hfit
      cases rest with
      | nil =>
        exfalso
        have : pinL kept = lenC kept := by
          unfold pinL
          rw [List.filter_eq_self.2 fun e he => decide_eq_true (hpin e he)]
        rw [List.append_nil] at hpl hfit
        rw [← hpl, this] at hf
        exact hf hfit
      | cons e r =>
        have hkl : ix < (kept ++ e :: r).length := by rw [hix]; simp
        have hll := hsub.length_le
        have hpe := intC_at (l := pnOf (kept ++ e :: r)) (i := ix) (by rw [pnOf_len]; exact hkl)
        rw [pnOf_at hkl] at hpe
        have hge : (kept ++ e :: r)[ix] = e := by simp [hix]
        rw [hge] at hpe
        have c3 : decide ((ix : Int) < (((pnOf (kept ++ e :: r)).length : Nat) : Int)) = true := decide_eq_true (by rw [pnOf_len]; omega)
        by_cases hp : e.pins > 0
        · have c4 : decide (e.pins > 0) = true := decide_eq_true hp
          have hk1' : AV.int .i64 (IntKind.i64.wrap ((ix : Int) + 1)) = .int .i64 ((ix + 1 : Nat) : Int) := ai64 rfl (by rw [List.length_append] at hll; omega)
          refine pao [.b true, .v (.ms K1.pid K1.pv 0 (pnOf (kept ++ e :: r)).length 1 false), .v .top, .v (.int .i64 e.pins), .b true] rfl ?_ ?_
          · (repeat' with_reducible apply AllP_cons) <;> try exact aC
            · exact OpSpec.loadP rfl rfl rfl rfl hrb1 rfl
            · show (ix : Int) < (((pnOf (kept ++ e :: r)).length : Nat) : Int)
              rw [pnOf_len]; omega
            · exact OpSpec.loadE rfl rfl rfl rfl h1.pb hpe
          have hap : kept ++ [e] ++ r = kept ++ e :: r := by simp
          refine S_round ((u, K1), kept ++ [e], r, ix + 1) (by show r.length < (e :: r).length; simp) ⟨by show ix + 1 = (kept ++ [e]).length; rw [hix]; simp, ?_, hr1, hk1, ?_, ?_, ?_, ?_⟩ (.cons rfl (.cons rfl (.cons hk1' (.nil _)))) rfl
          · show KAt u K1 room (txOf (kept ++ [e] ++ r)) (pnOf (kept ++ [e] ++ r))
            rw [hap]; exact h1
          · show (kept ++ [e] ++ r).Sublist es
            rw [hap]; exact hsub
          · intro x hx
            rcases List.mem_append.1 hx with hx | hx
            · exact hpin x hx
            · rw [List.mem_singleton.1 hx]; exact hp
          · show _ = ((dropS room s.length (lenC (kept ++ [e] ++ r) : Nat) r).1, kept ++ [e] ++ (dropS room s.length (lenC (kept ++ [e] ++ r) : Nat) r).2)
            rw [hap, hds, dropS, if_pos (.inl hp)]; simp
          · show pinL (kept ++ [e] ++ r) = _
            rw [hap]; exact hpl
        · have c4 : decide (e.pins > 0) = false := decide_eq_false hp
          have hTk := take_ok u K1 room (txOf (kept ++ e :: r)) (pnOf (kept ++ e :: r)) h1 (i := ix) (by rw [txOf_len]; exact hkl) (by rw [pnOf_len]; exact hkl) (by rw [txOf_len]; omega) (by rw [pnOf_len]; omega)
          rw [hr1] at hTk
          refine pao [.b true, .v (.ms K1.pid K1.pv 0 (pnOf (kept ++ e :: r)).length 1 false), .v .top, .v (.int .i64 e.pins), .b false] rfl ?_ ?_
          · (repeat' with_reducible apply AllP_cons) <;> try exact aC
            · exact OpSpec.loadP rfl rfl rfl rfl hrb1 rfl
            · show (ix : Int) < (((pnOf (kept ++ e :: r)).length : Nat) : Int)
              rw [pnOf_len]; omega
            · exact OpSpec.loadE rfl rfl rfl rfl h1.pb hpe
          refine S_call rfl rfl rfl hTk (fun v u2 hR => ?_) (fun v s hR => by obtain ⟨hR, _⟩ := hR; cases hR)
          obtain ⟨hR, K2, h2, hr2, hk2⟩ := hR
          cases hR
          have et : (txOf (kept ++ e :: r)).eraseIdx ix = txOf (kept ++ r) := by
            unfold txOf
            rw [List.map_append, List.map_cons, hix, show kept.length = (kept.map CI.text).length by simp, erase_mid, ← List.map_append]
          have ep : (pnOf (kept ++ e :: r)).eraseIdx ix = pnOf (kept ++ r) := by
            unfold pnOf
            rw [List.map_append, List.map_cons, hix, show kept.length = (kept.map CI.pins).length by simp, erase_mid, ← List.map_append]
          rw [et, ep] at h2
          refine pao [] rfl ?_ ?_
          · (repeat' with_reducible apply AllP_cons) <;> try exact aC
          have hlc : lenC (kept ++ e :: r) = lenC (kept ++ r) + e.text.length := by rw [lenC_app, lenC_cons, lenC_app]; omega
          refine S_round ((u2, K2), kept, r, ix) (by show r.length < (e :: r).length; simp) ⟨hix, h2, hr2, hk1.trans hk2, ?_, hpin, ?_, ?_⟩ (.cons rfl (.cons rfl (.cons rfl (.nil _)))) rfl
          · exact (List.Sublist.append_left (List.sublist_cons_self ..) _).trans hsub
          · have hnk : ¬ keepI room s.length ((lenC (kept ++ e :: r) : Nat) : Int) e := fun hk => by
              rcases hk with h' | h'
              · exact hp h'
              · omega
            show _ = ((dropS room s.length (lenC (kept ++ r) : Nat) r).1, kept ++ (dropS room s.length (lenC (kept ++ r) : Nat) r).2)
            rw [hds, dropS, if_neg hnk, show ((lenC (kept ++ e :: r) : Nat) : Int) - (e.text.length : Int) = ((lenC (kept ++ r) : Nat) : Int) by omega]
          · show pinL (kept ++ r) = _
            rw [← hpl]
            unfold pinL
            rw [List.filter_append, List.filter_append, List.filter_cons, if_neg (by simpa using hp)]
    · have d1 : decide (IntKind.i64.wrap (((lenC (kept ++ rest) : Nat) : Int) + (s.length : Int)) > room) = false := by rw [hw1]; exact decide_eq_false hfit
      have hdn : dropS room s.length (lenC (kept ++ rest) : Nat) rest = (((lenC (kept ++ rest) : Nat) : Int), rest) := dropS_no fun e _ => .inr (by omega)
      rw [hdn] at hds
      rw [hds]
      obtain ⟨T1, hT1⟩ : ∃ T1, T1 = txOf (kept ++ rest) := ⟨_, rfl⟩
      obtain ⟨P1, hP1⟩ : ∃ P1, P1 = pnOf (kept ++ rest) := ⟨_, rfl⟩
      rw [← hT1, ← hP1] at h1 hrb1
      have hTe : T1 ++ [s] = txOf (kept ++ rest ++ [⟨s, 0, jid⟩]) := by rw [hT1]; unfold txOf; simp
      have hPe : P1 ++ [0] = pnOf (kept ++ rest ++ [⟨s, 0, jid⟩]) := by rw [hP1]; unfold pnOf; simp
      have hll := hsub.length_le
      have hT1l : T1.length ≤ 900000 := by rw [hT1, txOf_len]; omega
      have hP1l : P1.length ≤ 900000 := by rw [hP1, pnOf_len]; omega
      obtain ⟨A1, hA1⟩ : ∃ A1 : Nat × Option Box, A1 = (K1.tv + 1, some (.cells (texts (T1 ++ [s])) ⟨false, none⟩)) := ⟨_, rfl⟩
      obtain ⟨A2, hA2⟩ : ∃ A2 : Nat × Option Box, A2 = (K1.pv + 1, some (.cells (intC (P1 ++ [0])) ⟨false, none⟩)) := ⟨_, rfl⟩
      obtain ⟨A3, hA3⟩ : ∃ A3 : Nat × Option Box, A3 = (0, some (.cells [.int .i64 room, .ms K1.tid (K1.tv + 1) 0 (T1.length + 1) 1 false, .ms K1.pid K1.pv 0 P1.length 1 false] ⟨false, some 48⟩)) := ⟨_, rfl⟩
      obtain ⟨A4, hA4⟩ : ∃ A4 : Nat × Option Box, A4 = (0, some (kpB (bumpK K1) room (T1 ++ [s]) (P1 ++ [0]))) := ⟨_, rfl⟩
      have hfin := h1.push s 0 A3 (by rw [hA3]; exact ⟨_, rfl⟩)
      rw [← hA1, ← hA2, ← hA4, hr1] at hfin
      have hkf : QKeep u ((((u.set K1.tid A1).set K1.pid A2).set K1.r A3).set K1.r A4) (OwnK K1) (OwnK (bumpK K1)) := keepK4
      rw [hr1] at hkf
      have nrt : K.r ≠ K1.tid := by rw [← hr1]; exact h1.rt
      have nrp : K.r ≠ K1.pid := by rw [← hr1]; exact h1.rp
      have hra : (u.set K1.tid A1)[K.r]? = some (0, some (kpB K1 room T1 P1)) := by rw [set_ne nrt]; exact hrb1
      have hrb : ((u.set K1.tid A1).set K1.pid A2)[K.r]? = some (0, some (kpB K1 room T1 P1)) := by rw [set_ne nrp]; exact hra
      have hrc : (((u.set K1.tid A1).set K1.pid A2).set K.r A3)[K.r]? = some (0, some (.cells [.int .i64 room, .ms K1.tid (K1.tv + 1) 0 (T1.length + 1) 1 false, .ms K1.pid K1.pv 0 P1.length 1 false] ⟨false, some 48⟩)) := by rw [set_eq hrb, hA3]
      have hpb : (u.set K1.tid A1)[K1.pid]? = some (K1.pv, some (.cells (intC P1) ⟨false, none⟩)) := by rw [set_ne h1.tp.symm]; exact h1.pb
      refine pao [.b false] rfl ?_ ?_
      · (repeat' with_reducible apply AllP_cons) <;> try exact aC
      refine S_drawOL [(8, u.set K1.tid A1), (14, (u.set K1.tid A1).set K1.pid A2), (17, ((u.set K1.tid A1).set K1.pid A2).set K.r A3), (20, (((u.set K1.tid A1).set K1.pid A2).set K.r A3).set K.r A4)] _ 21 [.ms K1.tid K1.tv 0 T1.length 1 false, .ms K1.tid (K1.tv + 1) 0 (T1.length + 1) 1 false, .ms K1.pid K1.pv 0 P1.length 1 false, .ms K1.pid (K1.pv + 1) 0 (P1.length + 1) 1 false, .tup [], .tup []] _ _ rfl rfl rfl rfl rfl rfl ⟨⟨_, rfl, ?_⟩, ⟨_, rfl, ?_⟩, ⟨_, rfl, ?_⟩, ⟨_, rfl, ?_⟩, ⟨_, rfl, ?_⟩, trivial⟩ ⟨fun o v ho hv => ?_, fun o v ho hv => ?_, fun o v ho hv => ?_, fun o v ho hv => ?_, trivial⟩ rfl ?_
      · (repeat' with_reducible apply AllP_cons) <;> try exact aC
        all_goals exact OpSpec.loadP rfl rfl rfl rfl hrb1 rfl
      · (repeat' with_reducible apply AllP_cons) <;> try exact aC
        all_goals exact OpSpec.loadP rfl rfl rfl rfl hra rfl
      · (repeat' with_reducible apply AllP_cons) <;> try exact aC
        all_goals exact OpSpec.loadP rfl rfl rfl rfl hrb rfl
      · (repeat' with_reducible apply AllP_cons) <;> try exact aC
        all_goals exact OpSpec.loadP rfl rfl rfl rfl hrc rfl
      · (repeat' with_reducible apply AllP_cons) <;> try exact aC
      · cases ho; cases hv
        exact specC_step rfl rfl (OpSpec.appendX (id := K1.tid) (ver := K1.tv) (off := 0) (len := T1.length) (y := .str s) (cs := texts T1) rfl rfl rfl rfl rfl (fun z hz => by rw [List.mem_singleton.1 (show z ∈ [AV.str s] from hz)]; rfl) h1.tb (by rw [texts_len]; omega) (by show (T1.length + 1) * 16 ≤ _; omega) (by omega) (by rw [hA1, ← texts_snocK]; rfl))
      · cases ho; cases hv
        exact specC_step rfl rfl (OpSpec.appendX (id := K1.pid) (ver := K1.pv) (off := 0) (len := P1.length) (y := .int .i64 0) (cs := intC P1) rfl rfl rfl rfl rfl (fun z hz => by rw [List.mem_singleton.1 (show z ∈ [AV.int .i64 0] from hz)]; rfl) hpb (by rw [intC_len]; omega) (by show (P1.length + 1) * 8 ≤ _; omega) (by omega) (by rw [hA2, intC_app]; rfl))
      · cases ho; cases hv
        exact specC_step rfl rfl (OpSpec.storeP (id := K.r) (gT := some 48) (cs := kpC K1 room T1 P1) (y := .ms K1.tid (K1.tv + 1) 0 (T1.length + 1) 1 false) rfl rfl rfl rfl rfl rfl hrb (lble rfl) (by rw [hA3]; rfl))
      · cases ho; cases hv
        refine specC_step rfl rfl (OpSpec.storeP (id := K.r) (gT := some 48) (cs := [.int .i64 room, .ms K1.tid (K1.tv + 1) 0 (T1.length + 1) 1 false, .ms K1.pid K1.pv 0 P1.length 1 false]) (y := .ms K1.pid (K1.pv + 1) 0 (P1.length + 1) 1 false) rfl rfl rfl rfl rfl rfl hrc (lble rfl) ?_)
        rw [hA4]
        unfold kpB kpC
        simp only [List.length_append, List.length_cons, List.length_nil]
        rfl
      refine pao [] rfl ?_ ?_
      · (repeat' with_reducible apply AllP_cons) <;> try exact aC
      refine S_ret ⟨_, _, rfl, trivial, rfl, bumpK K1, ?_, hr1, hk1.trans hkf⟩
      show KAt _ _ room (txOf (kept ++ rest ++ [⟨s, 0, jid⟩])) (pnOf (kept ++ rest ++ [⟨s, 0, jid⟩]))
      rw [← hTe, ← hPe]; exact hfin
end Go.Proofs.YtfpdfpdlekngfaaDoor
end
section
set_option linter.unusedVariables false
set_option linter.unusedSimpArgs false
set_option maxRecDepth 20000
namespace Go.Proofs.YtfpdfpdlekngfaaDoor
open Go Go.Ab
theorem SameTexts_ok {st st' fl fl' : Bool} (a b : List (List UInt8)) (hl : a.length ≤ 9223372036854775806) (hb : b.length ≤ 9223372036854775807) : Calc cx 53 [.sl st fl 1 (texts a), .sl st' fl' 1 (texts b)] (.bool (a == b)) :=
  pure_intro (fun a w => Tryd.call53 a w) Tryd.func53 rfl Tryd.ntmps53 rfl .bool fun B => by
    refine ab 1000 rfl trivial ?_
    refine S_bne rfl (fun h => ?_) (fun h => ?_)
    · refine ab 1000 rfl trivial ?_
      refine S_retc .bool rfl trivial ?_
      have hne : a ≠ b := by
        intro e; subst e; exact h rfl
      rw [show (a == b) = false by simpa using hne]; rfl
    · have hlen : a.length = b.length := by simp [texts] at h; omega
      refine ab 1000 rfl trivial ?_
      refine S_while (α := Nat) (fun i => [(0, .sl st fl 1 (texts a)), (1, .sl st' fl' 1 (texts b)), (5, .int .i64 i)]) (fun _ => []) (fun i => i ≤ a.length ∧ a.take i = b.take i) (fun i => a.length - i) 0
        ⟨by simp, by simp⟩ (.cons rfl (.cons rfl (.cons rfl (.nil _)))) rfl ?_
      rintro i ⟨hi, hN⟩
      refine ab 1000 rfl trivial ?_
      refine S_dec rfl (fun h => ?_) (fun h => ?_)
      · have hil : i < a.length := by simp [texts] at h; omega
        have hil' : i < b.length := by omega
        refine ab 1000 rfl trivial ?_
        refine S_draw 9 [] [.str a[i], .str b[i]] rfl rfl rfl rfl ⟨rfl, rfl, rfl, by omega, by simp [texts, List.getElem?_eq_getElem hil], rfl, rfl, rfl, rfl, by omega, by simp [texts, List.getElem?_eq_getElem hil'], rfl, rfl, trivial⟩ ?_
        refine ab 1000 rfl trivial ?_
        refine S_cond rfl (fun h => ?_) (fun h => ?_)
        · have hne : a[i] ≠ b[i] := by simpa using h
          refine ab 1000 rfl trivial ?_
          refine S_retc .bool rfl trivial ?_
          have hne : a ≠ b := by
            intro e; subst e; exact hne rfl
          rw [show (a == b) = false by simpa using hne]; rfl
        · have he : a[i] = b[i] := by simpa using h
          refine ab 1000 rfl trivial ?_
          refine S_round (i + 1) (by show a.length - (i + 1) < a.length - i; omega) ⟨hil, ?_⟩ (.cons rfl (.cons rfl (.cons (ai64 rfl (by omega)) (.nil _)))) rfl
          rw [List.take_succ_eq_append_getElem hil, List.take_succ_eq_append_getElem hil', hN, he]
      · have hil : i = a.length := by simp [texts] at h; omega
        refine ab 1000 rfl trivial ?_
        refine S_retc .bool rfl trivial ?_
        have he : a = b := by
          rw [← List.take_of_length_le (l := a) (i := i) (by omega), ← List.take_of_length_le (l := b) (i := i) (by omega)]; exact hN
        rw [show (a == b) = true by simpa using he]; rfl
end Go.Proofs.YtfpdfpdlekngfaaDoor
end
section
set_option linter.unusedVariables false
set_option linter.unusedSimpArgs false
set_option maxRecDepth 20000
namespace Go.Proofs.YtfpdfpdlekngfaaDoor
open Go Go.Ab
theorem textsAre_ok {st fl st' fl' : Bool} (p q : List (List UInt8)) (e w : Nat) (hp : p.length ≤ 9223372036854775806) (hq : q.length ≤ 9223372036854775806) : Calc cx 44 [.sl st fl 1 (texts p), .int .i64 e, .int .i64 w, .sl st' fl' 1 (texts q)] (.bool (e == w && p == (if w = 0 then q else []))) :=
  pure_intro (fun a w => Tryd.call44 a w) Tryd.func44 rfl Tryd.ntmps44 rfl .bool fun B => by
    have lend : ∀ σ : Heap, Frz false σ (.sl st fl 1 (texts p)) (.sl st fl 1 (texts p)) := fun σ => .refl (.sl (fun h => by cases h) (texts_any p))
    have lend' : ∀ σ : Heap, Frz false σ (.sl st' fl' 1 (texts q)) (.sl st' fl' 1 (texts q)) := fun σ => .refl (.sl (fun h => by cases h) (texts_any q))
    refine ab 1000 rfl trivial ?_
    have fin : ∀ (B : Bool), ((e : Int) == (w : Int)) = (e == w) := by
      intro _
      by_cases h : e = w
      · subst h; simp
      · have : (e : Int) ≠ w := by omega
        rw [beq_eq_false_iff_ne.2 this, beq_eq_false_iff_ne.2 h]
    refine S_bne rfl (fun h => ?_) (fun h => ?_)
    · have hw : w ≠ 0 := by omega
      rw [if_neg hw]
      refine ab 1000 rfl trivial ?_
      refine S_guard rfl rfl rfl rfl (fun hg => ?_) (fun hg => ?_)
      · refine ab 1000 rfl trivial ?_
        refine S_pure rfl rfl rfl (SameTexts_ok (st := st) (st' := false) (fl := fl) (fl' := false) p [] hp (by decide)) (.cons (lend _) (.cons .nils (.nil _))) ?_
        refine ab 1000 rfl trivial ?_
        refine S_retc .bool rfl trivial ?_
        rw [← fin true, hg]; rfl
      · refine ab 1000 rfl trivial ?_
        refine S_retc .bool rfl trivial ?_
        rw [← fin true, hg]; rfl
    · have hw : w = 0 := by omega
      rw [if_pos hw]
      refine ab 1000 rfl trivial ?_
      refine S_guard rfl rfl rfl rfl (fun hg => ?_) (fun hg => ?_)
      · refine ab 1000 rfl trivial ?_
        refine S_pure rfl rfl rfl (SameTexts_ok (st := st) (st' := st') (fl := fl) (fl' := fl') p q hp (by omega)) (.cons (lend _) (.cons (lend' _) (.nil _))) ?_
        refine ab 1000 rfl trivial ?_
        refine S_retc .bool rfl trivial ?_
        rw [← fin true, hg]; rfl
      · refine ab 1000 rfl trivial ?_
        refine S_retc .bool rfl trivial ?_
        rw [← fin true, hg]; rfl
end Go.Proofs.YtfpdfpdlekngfaaDoor
end
section
set_option linter.unusedVariables false
set_option linter.unusedSimpArgs false
set_option maxRecDepth 20000
namespace Go.Proofs.YtfpdfpdlekngfaaDoor
open Go Go.Ab
def hexOf (c : Nat) : Int := if 48 ≤ c ∧ c ≤ 57 then c - 48 else if 97 ≤ c ∧ c ≤ 102 then c - 87 else -1
theorem hexD (m : Nat) (h : m < 16) : (("0123456789abcdef".toUTF8.data.toList).getD m 0).toNat = if m < 10 then m + 48 else m + 87 := by
  have : ∀ m : Fin 16, (("0123456789abcdef".toUTF8.data.toList).getD m.1 0).toNat = if m.1 < 10 then m.1 + 48 else m.1 + 87 := by decide +kernel
  exact this ⟨m, h⟩
theorem HexOf_ok (c : Nat) (hc : c < 256) : Calc cx 41 [.int .u8 c] (.int .i64 (hexOf c)) :=
  pure_intro (fun a w => Tryd.call41 a w) Tryd.func41 rfl Tryd.ntmps41 rfl .int fun B => by
    refine ab 1000 rfl trivial ?_
    refine S_while (α := Nat) (fun i => [(0, .int .u8 c), (3, .int .i64 i)]) (fun i => []) (fun i => i ≤ 16 ∧ ∀ m, m < i → ¬ (if m < 10 then m + 48 else m + 87) = c) (fun i => 16 - i) 0
      ⟨Nat.zero_le _, fun m h => by omega⟩ (.cons rfl (.cons rfl (.nil _))) rfl ?_
    rintro i ⟨hi, hN⟩
    refine ab 1000 rfl trivial ?_
    refine S_dec rfl (fun h => ?_) (fun h => ?_)
    · have hil : i < 16 := by omega
      refine ab 1000 rfl trivial ?_
      refine S_pure rfl rfl rfl (HexDigit_ok i hil) (.cons (.refl .int) (.nil _)) ?_
      have hD := hexD i hil
      generalize (("0123456789abcdef".toUTF8.data.toList).getD i 0) = b at *
      refine ab 1000 rfl ⟨by simp, by decide, trivial⟩ ?_
      refine S_beq rfl (fun hb => ?_) (fun hb => ?_)
      · have hb : b.toNat = c := by
          have h' : (b.toNat : Int) = c := hb
          omega
        refine ab 1000 rfl trivial ?_
        refine S_retc .int rfl trivial ?_
        show AV.int .i64 (i : Int) = _
        congr 1
        unfold hexOf
        rw [hD] at hb
        split at hb
        · rw [if_pos (by omega)]; omega
        · rw [if_neg (by omega), if_pos (by omega)]; omega
      · have hb : ¬ b.toNat = c := by
          intro e
          exact hb (show (b.toNat : Int) = c by omega)
        refine ab 1000 rfl trivial ?_
        refine S_round (i + 1) (by show 16 - (i + 1) < 16 - i; omega) ⟨hil, fun m hm => ?_⟩ (.cons rfl (.cons (ai64 rfl (by omega)) (.nil _))) rfl
        rcases Nat.lt_or_ge m i with h | h
        · exact hN m h
        · obtain rfl : m = i := by omega
          rw [← hD]; exact hb
    · have hil : i = 16 := by omega
      refine ab 1000 rfl trivial ?_
      refine S_retc .int rfl trivial ?_
      show AV.int .i64 (-1) = _
      congr 1
      unfold hexOf
      subst hil
      split
      · rename_i h
        have := hN (c - 48) (by omega)
        rw [if_pos (by omega)] at this; omega
      · split
        · rename_i h
          have := hN (c - 87) (by omega)
          rw [if_neg (by omega)] at this; omega
        · rfl
theorem hexOf_neg (c : UInt8) : hexOf c.toNat < 0 ↔ hexB c = false := by
  unfold hexOf hexB
  split
  · simp; omega
  · split
    · simp; omega
    · simp; omega
theorem IsDigest_ok (s : List UInt8) (hs : s.length ≤ 9223372036854775807) : Calc cx 19 [.str s] (.bool (isDig s)) :=
  pure_intro (fun a w => Tryd.call19 a w) Tryd.func19 rfl Tryd.ntmps19 rfl .bool fun B => by
    refine ab 1000 rfl trivial ?_
    refine S_while (α := Nat) (fun i => [(0, .str s), (3, .int .i64 i)]) (fun i => []) (fun i => i ≤ s.length ∧ (s.take i).all hexB = true) (fun i => s.length - i) 0
      ⟨Nat.zero_le _, rfl⟩ (.cons rfl (.cons rfl (.nil _))) rfl ?_
    rintro i ⟨hi, hN⟩
    refine ab 1000 rfl trivial ?_
    refine S_dec rfl (fun h => ?_) (fun h => ?_)
    · have hil : i < s.length := by omega
      refine ab 1000 rfl ⟨by omega, by omega, trivial⟩ ?_
      have hgd : s.getD i 0 = s[i] := by simp [List.getD, hil]
      have hc := s[i].toNat_lt
      have hH := HexOf_ok s[i].toNat (by omega)
      refine S_pure rfl rfl rfl hH (.cons ?_ (.nil _)) ?_
      · show Frz false [] (.int .u8 ((s.getD i 0).toNat : Nat)) _
        rw [hgd]; exact .refl .int
      refine ab 1000 rfl trivial ?_
      have hneg := hexOf_neg s[i]
      refine S_dec rfl (fun hb => ?_) (fun hb => ?_)
      · refine ab 1000 rfl trivial ?_
        refine S_retc .bool rfl trivial ?_
        rw [isDig, all_false hil (hneg.1 hb)]; rfl
      · have hb : hexB s[i] = true := by
          cases hx : hexB s[i] with
          | true => rfl
          | false => exact absurd (hneg.2 hx) hb
        refine ab 1000 rfl trivial ?_
        exact S_round (i + 1) (by show s.length - (i + 1) < s.length - i; omega) ⟨hil, take_all hil hN hb⟩ (.cons rfl (.cons (ai64 rfl (by omega)) (.nil _))) rfl
    · have hil : i = s.length := by omega
      refine ab 1000 rfl trivial ?_
      refine S_retc .bool rfl trivial ?_
      rw [hil, List.take_length] at hN
      rw [isDig, hN]
      show AV.bool ((s.length : Int) == 64) = _
      by_cases h : s.length = 64
      · simp [h]
      · have h1 : (s.length : Int) ≠ 64 := by omega
        rw [beq_eq_false_iff_ne.2 h, beq_eq_false_iff_ne.2 h1]; rfl
end Go.Proofs.YtfpdfpdlekngfaaDoor
end
section
set_option linter.unusedVariables false
set_option linter.unusedSimpArgs false
set_option maxRecDepth 20000
set_option maxHeartbeats 4000000
namespace Go.Proofs.YtfpdfpdlekngfaaDoor
open Go Go.Ab
def gonD (es : List CI) (d : Nm) : Bool := (atD es d).isNone
theorem codeF_dig {es : List CI} {d : Nm} (h : isDig d = true) (ha : atD es d = none) : codeD es d = 5 ∧ codeF es d = 0 := by
  have : codeD es d = 5 := by unfold codeD; rw [if_neg (by rw [h]; simp), ha]; rfl
  exact ⟨this, by unfold codeF; rw [if_pos this]⟩
theorem codeF_no {es : List CI} {d : Nm} (h : isDig d = false) : codeD es d = 1 ∧ codeF es d = 1 := by
  have : codeD es d = 1 := by unfold codeD; rw [if_pos h]
  exact ⟨this, by unfold codeF; rw [this]; rfl⟩
theorem Missing_big (σ : Heap) (L : CL) (l : List Nm) (aid av : Nat) (hl : l.length > 2000) (hlb : l.length ≤ 100000000) :
    CallOk cx 43 [.ptr L.q 0 0, .ms aid av 0 l.length 1 false] σ (fun o u => o = .ret (.tup [.nils, .int .i64 2]) ∧ u = σ) :=
  callOk_intro (fun a w => Tryd.call43 a w) Tryd.func43 rfl Tryd.ntmps43 rfl fun B => by
    have c1 : decide ((l.length : Int) > 2000) = true := decide_eq_true (by omega)
    refine pao [.b true] rfl ?_ ?_
    · (repeat' with_reducible apply AllP_cons) <;> try exact aC
    exact S_ret ⟨_, _, rfl, trivial, rfl, rfl⟩
theorem Missing_ok (σ : Heap) (L : CL) (room used : Int) (es : List CI) (ks : List (Nm × Nat)) (l : List Nm) (aid av : Nat) (h : CAt σ L room used es ks) (hab : σ[aid]? = some (av, some (.cells (texts l) ⟨false, none⟩))) (hl : l.length ≤ 2000) (hs : ∀ d ∈ l, d.length ≤ 1048576) :
    CallOk cx 43 [.ptr L.q 0 0, .ms aid av 0 l.length 1 false] σ (fun o u => ((l.all isDig = false ∧ o = .ret (.tup [.nils, .int .i64 1])) ∨ (l.all isDig = true ∧ ∃ w wv, o = .ret (.tup [.ms w wv 0 (l.filter (gonD es)).length 1 false, .int .i64 0]) ∧ u[w]? = some (wv, some (.cells (texts (l.filter (gonD es))) ⟨false, none⟩)))) ∧
      CAt u L room used es ks ∧ σ.length ≤ u.length ∧ ∀ id, id < σ.length → u[id]? = σ[id]?) :=
  callOk_intro (fun a w => Tryd.call43 a w) Tryd.func43 rfl Tryd.ntmps43 rfl fun B => by
    have c1 : decide ((l.length : Int) > 2000) = false := decide_eq_false (by omega)
    refine pao [.b false] rfl ?_ ?_
    · (repeat' with_reducible apply AllP_cons) <;> try exact aC
    refine S_ghostF (t := 6) (gid := σ.length) (gver := 0) (σ' := σ ++ [(0, some (.cells [] ⟨false, none⟩))]) 1 ⟨false, none⟩ rfl (h.al.alloc _) ⟨_, _, .inl rfl⟩ ?_
    refine S_while (α := Heap × Nat × List Nm) (fun x => [(0, .ptr L.q 0 0), (6, .ms σ.length x.2.2.length 0 x.2.2.length 1 false), (14, .ms aid av 0 l.length 1 false), (15, .int .i64 (l.length : Nat)), (16, .int .i64 (x.2.1 : Nat))]) (fun x => x.1)
      (fun x => CAt x.1 L room used es ks ∧ σ.length < x.1.length ∧ (∀ id, id < σ.length → x.1[id]? = σ[id]?) ∧ x.1[σ.length]? = some (x.2.2.length, some (.cells (texts x.2.2) ⟨false, none⟩)) ∧ x.2.1 ≤ l.length ∧ x.2.2 = (l.take x.2.1).filter (gonD es) ∧ (l.take x.2.1).all isDig = true) (fun x => l.length - x.2.1) (σ ++ [(0, some (.cells [] ⟨false, none⟩))], 0, [])
      ⟨h.app _ _, by simp, fun id hid => List.getElem?_append_left hid, app_last, Nat.zero_le _, rfl, rfl⟩ (.cons rfl (.cons rfl (.cons rfl (.cons rfl (.cons rfl (.nil _)))))) rfl ?_
    rintro ⟨u, i, out⟩ ⟨h1, hlen, hsm, hob, hi, hout, hall⟩
    simp only at h1 hlen hsm hob hi hout hall
    have hol : out.length ≤ 2000 := by
      rw [hout]
      exact Nat.le_trans (List.length_filter_le ..) (Nat.le_trans (List.length_take_le' ..) hl)
    by_cases hlt : i < l.length
    · have d1 : decide ((i : Int) < (l.length : Int)) = true := decide_eq_true (by omega)
      have hi1 : AV.int .i64 (IntKind.i64.wrap ((i : Int) + 1)) = .int .i64 ((i + 1 : Nat) : Int) := ai64 rfl (by omega)
      obtain ⟨d, hd⟩ : ∃ d, d = l[i] := ⟨_, rfl⟩
      have hdm : d ∈ l := by rw [hd]; exact List.getElem_mem hlt
      have hdl := hs d hdm
      have hab1 : u[aid]? = some (av, some (.cells (texts l) ⟨false, none⟩)) := by rw [hsm _ (lt_of_get hab)]; exact hab
      have hld := txC_f hlt
      rw [← hd] at hld
      have htk : l.take (i + 1) = l.take i ++ [d] := by rw [hd]; exact List.take_succ_eq_append_getElem hlt
      obtain ⟨z0, hz0⟩ : ∃ z0 : Nat × Option Box, z0 = (0, some (.cells (fndA false 0 0) ⟨false, some 33⟩)) := ⟨_, rfl⟩
      cases hdg : isDig d with
      | false =>
        obtain ⟨k1, k2⟩ := codeF_no (es := es) hdg
        have hF := Find_no u L room used es ks d h1 (by omega) (by rw [k1]; decide)
        rw [k2] at hF
        refine pao [.b true, .v .top, .v (.str d)] rfl ?_ ?_
        · (repeat' with_reducible apply AllP_cons) <;> try exact aC
          · exact OpSpec.loadE rfl rfl rfl rfl hab1 hld
        refine S_call rfl rfl rfl hF (fun v u2 hR => ?_) (fun v s hR => by obtain ⟨hR, _⟩ := hR; cases hR)
        obtain ⟨hR, x, rfl⟩ := hR
        cases hR
        have h2 := h1.app 0 x
        have hlu : (u ++ [((0, some x) : Nat × Option Box)]).length = u.length + 1 := by simp
        refine pao [.f (.ptr (u.length + 1) 0 0) (fun s => s ++ [z0]), .f (.tup []) (fun s => s), .b true] rfl ?_ ?_
        · (repeat' with_reducible apply AllP_cons) <;> try exact aC
          · rw [hz0, ← hlu]; exact OpSpec.allocE rfl rfl rfl rfl h2.al
          · refine OpSpec.storeP (id := u.length + 1) (gT := some 33) (cs := fndA false 0 0) (y := .agg (fndA false 0 0)) rfl rfl rfl rfl rfl rfl (by rw [← hlu, app_last, hz0]) (lble rfl) ?_
            rw [← hlu, List.set_append_right _ _ (Nat.le_refl _), Nat.sub_self, hz0]; rfl
        have hna : l.all isDig = false := by
          rw [List.all_eq_false]
          exact ⟨d, hdm, by rw [hdg]; simp⟩
        refine S_ret ⟨_, _, rfl, trivial, .inl ⟨hna, rfl⟩, by rw [hz0]; exact h2.app _ _, ?_, fun id hid => ?_⟩
        · show σ.length ≤ ((u ++ [(0, some x)]) ++ [z0]).length
          simp; omega
        · show ((u ++ [(0, some x)]) ++ [z0])[id]? = _
          rw [List.getElem?_append_left (by simp; omega), List.getElem?_append_left (by omega)]; exact hsm id hid
      | true =>
        have hall1 : (l.take (i + 1)).all isDig = true := by rw [htk, List.all_append, hall]; simp [hdg]
        cases ha : atD es d with
        | none =>
          obtain ⟨k1, k2⟩ := codeF_dig hdg ha
          have hF := Find_no u L room used es ks d h1 (by omega) (by rw [k1]; decide)
          rw [k2] at hF
          refine pao [.b true, .v .top, .v (.str d)] rfl ?_ ?_
          · (repeat' with_reducible apply AllP_cons) <;> try exact aC
            · exact OpSpec.loadE rfl rfl rfl rfl hab1 hld
          refine S_call rfl rfl rfl hF (fun v u2 hR => ?_) (fun v s hR => by obtain ⟨hR, _⟩ := hR; cases hR)
          obtain ⟨hR, x, rfl⟩ := hR
          cases hR
          have h2 := h1.app 0 x
          have hlu : (u ++ [((0, some x) : Nat × Option Box)]).length = u.length + 1 := by simp
          have hzl : ((u ++ [((0, some x) : Nat × Option Box)]) ++ [z0])[u.length + 1]? = some (0, some (.cells (fndA false 0 0) ⟨false, some 33⟩)) := by rw [← hlu, app_last, hz0]
          have hob2 : ((u ++ [((0, some x) : Nat × Option Box)]) ++ [z0])[σ.length]? = some (out.length, some (.cells (texts out) ⟨false, none⟩)) := app_get (app_get hob)
          obtain ⟨O, hO⟩ : ∃ O : Nat × Option Box, O = (out.length + 1, some (.cells (texts (out ++ [d])) ⟨false, none⟩)) := ⟨_, rfl⟩
          have hol1 : (out ++ [d]).length = out.length + 1 := by simp
          have hno : ¬ OwnC L es σ.length := fun ho => by have := h.lt _ ho; omega
          refine pao [.f (.ptr (u.length + 1) 0 0) (fun s => s ++ [z0]), .f (.tup []) (fun s => s), .b false, .v (.bool false), .b true, .f (.ms σ.length (out.length + 1) 0 (out.length + 1) 1 false) (fun s => s.set σ.length O)] rfl ?_ ?_
          · (repeat' with_reducible apply AllP_cons) <;> try exact aC
            · rw [hz0, ← hlu]; exact OpSpec.allocE rfl rfl rfl rfl h2.al
            · refine OpSpec.storeP (id := u.length + 1) (gT := some 33) (cs := fndA false 0 0) (y := .agg (fndA false 0 0)) rfl rfl rfl rfl rfl rfl hzl (lble rfl) ?_
              rw [← hlu, List.set_append_right _ _ (Nat.le_refl _), Nat.sub_self, hz0]; rfl
            · exact OpSpec.loadP rfl rfl rfl rfl hzl rfl
            · exact OpSpec.appendX (id := σ.length) (ver := out.length) (off := 0) (len := out.length) (y := .str d) (cs := texts out) rfl rfl rfl rfl rfl (fun z hz => by rw [List.mem_singleton.1 (show z ∈ [AV.str d] from hz)]; rfl) hob2 (by rw [texts_len]; omega) (by show (out.length + 1) * 16 ≤ _; omega) (by omega) (by rw [hO, ← texts_snocK]; rfl)
          refine S_round (((u ++ [(0, some x)]) ++ [z0]).set σ.length O, i + 1, out ++ [d]) (by show l.length - (i + 1) < l.length - i; omega) ⟨?_, ?_, fun id hid => ?_, ?_, hlt, ?_, hall1⟩ (.cons rfl (.cons (by rw [hol1]; rfl) (.cons rfl (.cons rfl (.cons hi1 (.nil _)))))) rfl
          · have h3 : CAt ((u ++ [(0, some x)]) ++ [z0]) L room used es ks := by rw [hz0]; exact h2.app _ _
            exact h3.mono (Alive.set' h3.al (by rw [hO]; exact ⟨_, rfl⟩) _) fun id ho => set_ne fun e => hno (e ▸ ho)
          · show σ.length < (((u ++ [(0, some x)]) ++ [z0]).set σ.length O).length
            simp; omega
          · show (((u ++ [(0, some x)]) ++ [z0]).set σ.length O)[id]? = _
            rw [set_ne (by omega), List.getElem?_append_left (by simp; omega), List.getElem?_append_left (by omega)]; exact hsm id hid
          · show (((u ++ [(0, some x)]) ++ [z0]).set σ.length O)[σ.length]? = _
            rw [set_eq hob2, hO, hol1]
          · show out ++ [d] = (l.take (i + 1)).filter (gonD es)
            rw [htk, List.filter_append, ← hout, List.filter_cons_of_pos (by unfold gonD; rw [ha]; rfl)]; rfl
        | some k =>
          obtain ⟨hk, _⟩ := atD_some ha
          have hF := Find_ok u L room used es ks d h1 (by omega) hk ha
          refine pao [.b true, .v .top, .v (.str d)] rfl ?_ ?_
          · (repeat' with_reducible apply AllP_cons) <;> try exact aC
            · exact OpSpec.loadE rfl rfl rfl rfl hab1 hld
          refine S_call rfl rfl rfl hF (fun v u2 hR => ?_) (fun v s hR => by obtain ⟨hR, _⟩ := hR; cases hR)
          obtain ⟨hR, x, rfl⟩ := hR
          cases hR
          have h2 := h1.app 0 x
          have hlu : (u ++ [((0, some x) : Nat × Option Box)]).length = u.length + 1 := by simp
          obtain ⟨z1, hz1⟩ : ∃ z1 : Nat × Option Box, z1 = (0, some (.cells (fndA true es[k].text.length es[k].pins) ⟨false, some 33⟩)) := ⟨_, rfl⟩
          have hzl : ((u ++ [((0, some x) : Nat × Option Box)]) ++ [z0])[u.length + 1]? = some (0, some (.cells (fndA false 0 0) ⟨false, some 33⟩)) := by rw [← hlu, app_last, hz0]
          have hzl1 : ((u ++ [((0, some x) : Nat × Option Box)]) ++ [z1])[u.length + 1]? = some (0, some (.cells (fndA true es[k].text.length es[k].pins) ⟨false, some 33⟩)) := by rw [← hlu, app_last, hz1]
          refine pao [.f (.ptr (u.length + 1) 0 0) (fun s => s ++ [z0]), .f (.tup []) (fun _ => (u ++ [(0, some x)]) ++ [z1]), .b false, .v (.bool true), .b false] rfl ?_ ?_
          · (repeat' with_reducible apply AllP_cons) <;> try exact aC
            · rw [hz0, ← hlu]; exact OpSpec.allocE rfl rfl rfl rfl h2.al
            · refine OpSpec.storeP (id := u.length + 1) (gT := some 33) (cs := fndA false 0 0) (y := .agg (fndA true es[k].text.length es[k].pins)) rfl rfl rfl rfl rfl rfl hzl (lble rfl) ?_
              rw [← hlu, List.set_append_right _ _ (Nat.le_refl _), Nat.sub_self, hz1]; rfl
            · exact OpSpec.loadP rfl rfl rfl rfl hzl1 rfl
          refine S_round ((u ++ [(0, some x)]) ++ [z1], i + 1, out) (by show l.length - (i + 1) < l.length - i; omega) ⟨by rw [hz1]; exact h2.app _ _, ?_, fun id hid => ?_, app_get (app_get hob), hlt, ?_, hall1⟩ (.cons rfl (.cons rfl (.cons rfl (.cons rfl (.cons hi1 (.nil _)))))) rfl
          · show σ.length < ((u ++ [(0, some x)]) ++ [z1]).length
            simp; omega
          · show ((u ++ [(0, some x)]) ++ [z1])[id]? = _
            rw [List.getElem?_append_left (by simp; omega), List.getElem?_append_left (by omega)]; exact hsm id hid
          · show out = (l.take (i + 1)).filter (gonD es)
            rw [htk, List.filter_append, ← hout, List.filter_cons_of_neg (by unfold gonD; rw [ha]; simp)]; simp
    · have d1 : decide ((i : Int) < (l.length : Int)) = false := decide_eq_false (by omega)
      rw [List.take_of_length_le (by omega)] at hout hall
      refine pao [.b false] rfl ?_ ?_
      · (repeat' with_reducible apply AllP_cons) <;> try exact aC
      exact S_ret ⟨_, _, rfl, trivial, .inr ⟨hall, _, _, by rw [← hout]; rfl, by rw [← hout]; exact hob⟩, h1, Nat.le_of_lt hlen, hsm⟩
end Go.Proofs.YtfpdfpdlekngfaaDoor
end
section
set_option linter.unusedVariables false
set_option linter.unusedSimpArgs false
namespace Go.Ab
open Go Go.WideShapes
def laidB (P : Program) : List Field → Nat → Option Nat
  | [], o => some o
  | f :: r, o => match Nat.beq f.offset o with
    | true => laidB P r (o + P.cellsOf f.type)
    | false => none
mutual
def plainB (P : Program) : Nat → TypeId → Bool
  | 0, _ => false
  | n + 1, t => match P.underlying t with
    | some .bool => Nat.beq (P.cellsOf t) 1
    | some (.int _) => Nat.beq (P.cellsOf t) 1
    | some .string => Nat.beq (P.cellsOf t) 1
    | some (.slice e) => match Nat.beq (P.cellsOf t) 1, Nat.beq (P.cellsOf e) 0 with
      | true, false => plainB P n e
      | _, _ => false
    | some (.struct fs) => match laidB P fs.toList 0 with
      | some m => match Nat.beq (P.cellsOf t) m with
        | true => plainAll P n fs.toList
        | false => false
      | none => false
    | _ => false
def plainAll (P : Program) : Nat → List Field → Bool
  | 0, _ => false
  | n + 1, fs => match fs with
    | [] => true
    | f :: r => match plainB P n f.type with
      | true => plainAll P n r
      | false => false
end
inductive RdD (P : Program) {H : Type} : TypeId → DataW H → AV → Prop
  | bool {t b} (ht : P.underlying t = some .bool) : RdD P t (.lit (.bool b)) (.bool b)
  | int {t k n} (ht : P.underlying t = some (.int k)) (hw : (Lit.int k n).wf = true) : RdD P t (.lit (.int k n)) (.int k n)
  | str {t s} (ht : P.underlying t = some .string) (hs : s.length ≤ maxLen) : RdD P t (.lit (.string s)) (.str s)
  | nils {t e} (ht : P.underlying t = some (.slice e)) : RdD P t .nil (.sl true false (P.cellsOf e) [])
  | sl {t e} {ds rest : List (DataW H)} {xs : List AV} (ht : P.underlying t = some (.slice e)) (hl : xs.length = ds.length) (hm : xs.length ≤ maxLen) (h : ∀ i (h1 : i < ds.length) (h2 : i < xs.length), RdD P e ds[i] xs[i]) : RdD P t (.slice ds rest) (.sl true false (P.cellsOf e) xs)
  | st {t} {fs : Array Field} {ds : List (DataW H)} {xs : List AV} (ht : P.underlying t = some (.struct fs)) (hd : ds.length = fs.size) (hx : xs.length = fs.size) (h : ∀ i (h1 : i < ds.length) (h2 : i < xs.length) (h3 : i < fs.size), RdD P fs[i].type ds[i] xs[i]) : RdD P t (.agg ds) (.agg (xs.flatMap AV.cells))
def CellsV (w : World) (cs : List Value) (az : List AV) : Prop := cs.length = az.length ∧ ∀ i (h1 : i < cs.length) (h2 : i < az.length), VRel (Rl.old w) w cs[i] az[i]
theorem CellsV.one {w : World} {v : Value} {a : AV} (h : VRel (Rl.old w) w v a) : CellsV w [v] [a] := by
  refine ⟨rfl, fun i h1 h2 => ?_⟩
  obtain rfl : i = 0 := by simpa using h1
  exact h
theorem laidB_flat {P : Program} : ∀ (fs : List Field) (o m : Nat) (w : World) (cs : List Value) (xs : List AV), laidB P fs o = some m → xs.length = fs.length → (∀ i (h1 : i < fs.length) (h2 : i < xs.length), CellsV w ((cs.drop fs[i].offset).take (P.cellsOf fs[i].type)) xs[i].cells ∧ xs[i].cells.length = P.cellsOf fs[i].type) →
    cs.length = m → o ≤ m ∧ CellsV w (cs.drop o) (xs.flatMap AV.cells)
  | [], o, m, w, cs, xs, h, hl, hc, hm => by
    simp only [laidB, Option.some.injEq] at h
    obtain rfl : xs = [] := List.eq_nil_of_length_eq_zero hl
    subst h
    refine ⟨Nat.le_refl _, ?_⟩
    rw [List.drop_of_length_le (by omega)]
    exact ⟨rfl, fun i h => absurd h (by simp)⟩
  | f :: r, o, m, w, cs, xs, h, hl, hc, hm => by
    rw [laidB] at h
    split at h
    case h_2 => cases h
    rename_i hb
    have ho := Nat.eq_of_beq_eq_true hb
    obtain ⟨x, xs, rfl⟩ : ∃ x xs', xs = x :: xs' := by
      cases xs with
      | nil => simp at hl
      | cons x xs => exact ⟨x, xs, rfl⟩
    have h0 := hc 0 (by simp) (by simp)
    simp only [List.getElem_cons_zero] at h0
    obtain ⟨h1, h2⟩ := laidB_flat r (o + P.cellsOf f.type) m w cs xs h (by simpa using hl) (fun i k1 k2 => hc (i + 1) (Nat.succ_lt_succ k1) (Nat.succ_lt_succ k2)) hm
    refine ⟨by omega, ?_⟩
    obtain ⟨⟨e1, e2⟩, e3⟩ := h0
    rw [ho] at e1 e2
    rw [List.flatMap_cons]
    have hsplit : cs.drop o = (cs.drop o).take (P.cellsOf f.type) ++ cs.drop (o + P.cellsOf f.type) := by
      rw [← List.drop_drop, List.take_append_drop]
    rw [hsplit]
    refine ⟨by rw [List.length_append, List.length_append, e1, h2.1], fun i k1 k2 => ?_⟩
    by_cases hi : i < x.cells.length
    · rw [List.getElem_append_left (by omega), List.getElem_append_left hi]
      exact e2 i (by omega) hi
    · rw [List.getElem_append_right (by omega), List.getElem_append_right (by omega)]
      have : i - ((cs.drop o).take (P.cellsOf f.type)).length = i - x.cells.length := by omega
      simp only [this]
      exact h2.2 _ _ _
theorem read_cells {H : Type} {enc : TypeId × Value → H} {P : Program} {W : World} : ∀ (fuel n : Nat) (t : TypeId) (cs : List Value) (d : DataW H) (ps : List MemPlace), DataW.trod enc P W 0 (fun _ => true) true fuel t cs = some (d, ps) → plainB P n t = true →
    ∃ a, RdD P t d a ∧ a.cells.length = P.cellsOf t ∧ CellsV W cs a.cells ∧ (∀ v, (∃ xs, v = .agg xs ∧ xs.toList = cs ∧ aggT P t = some true) ∨ ([v] = cs ∧ aggT P t = some false) → VRel (Rl.old W) W v a) := by
  intro fuel
  induction fuel with
  | zero => intro n t cs d ps h _; simp [DataW.trod] at h
  | succ fuel ih =>
    intro n t cs d ps h hp
    have hall : ∀ (n : Nat) (fs : List Field), plainAll P n fs = true → ∀ i (hi : i < fs.length), ∃ m, plainB P m fs[i].type = true := by
      intro n
      induction n with
      | zero => intro fs h; simp [plainAll] at h
      | succ n ihn =>
        intro fs h i hi
        cases fs with
        | nil => simp at hi
        | cons f r =>
          rw [plainAll] at h
          split at h
          · rename_i hb
            cases i with
            | zero => exact ⟨n, hb⟩
            | succ i => exact ihn r h i (by simpa using hi)
          · cases h
    cases n with
    | zero => simp [plainB] at hp
    | succ n =>
      rw [plainB] at hp
      split at hp
      ·
        rename_i ht
        obtain ⟨b, rfl, hx⟩ := DataW.trod_bool ht h
        cases hx
        refine ⟨.bool b, .bool ht, (Nat.eq_of_beq_eq_true hp).symm, .one .bool, ?_⟩
        rintro v (⟨xs, rfl, h1, h2⟩ | ⟨h1, h2⟩)
        · simp [aggT, ht] at h2
        · cases h1; exact .bool
      · rename_i k ht
        obtain ⟨m, rfl, hx, hw⟩ := DataW.trod_int ht h
        cases hx
        refine ⟨.int _ m, .int ht hw, (Nat.eq_of_beq_eq_true hp).symm, .one .int, ?_⟩
        rintro v (⟨xs, rfl, h1, h2⟩ | ⟨h1, h2⟩)
        · simp [aggT, ht] at h2
        · cases h1; exact .int
      · rename_i ht
        obtain ⟨s, rfl, hx, hw⟩ := DataW.trod_string ht h
        cases hx
        refine ⟨.str s.data.toList, .str ht (by rw [Array.length_toList]; exact hw), (Nat.eq_of_beq_eq_true hp).symm, .one (.str rfl), ?_⟩
        rintro v (⟨xs, rfl, h1, h2⟩ | ⟨h1, h2⟩)
        · simp [aggT, ht] at h2
        · cases h1; exact .str rfl
      ·
        rename_i e ht
        split at hp
        case h_2 => cases hp
        rename_i hc1 hc0
        have hc1 := Nat.eq_of_beq_eq_true hc1
        have hpos : 0 < P.cellsOf e := by
          rcases Nat.eq_zero_or_pos (P.cellsOf e) with h0 | h0
          · rw [h0] at hc0; cases hc0
          · exact h0
        rcases DataW.trod_slice ht h with ⟨rfl, hx⟩ | ⟨a, len, cap, elems, rest, fu, hfu, rfl, hx, _, hl, hm, hlen, hel, hsp, hns⟩
        · cases hx
          refine ⟨_, .nils ht, hc1.symm, .one (.sl0 (fun h => by cases h)), ?_⟩
          rintro v (⟨xs, rfl, h1, h2⟩ | ⟨h1, h2⟩)
          · simp [aggT, ht] at h2
          · cases h1; exact .sl0 (fun h => by cases h)
        · cases hx
          obtain rfl : fuel = fu := by omega
          have each : ∀ i (hi : i < elems.length), ∃ x, RdD P e (elems[i]).1 x ∧ x.cells.length = P.cellsOf e ∧ ∃ ecs : List Value, W.cells? 0 (a.add (i * P.cellsOf e)) (P.cellsOf e) = some ecs ∧ CellsV W ecs x.cells := by
            intro i hi
            have h1 := hel i (by omega)
            rw [List.getElem?_eq_getElem hi, Option.bind_eq_some_iff] at h1
            obtain ⟨ecs, h2, h3⟩ := h1
            obtain ⟨x, k1, k2, k3, _⟩ := ih n e ecs (elems[i]).1 (elems[i]).2 h3 hp
            exact ⟨x, k1, k2, ecs, h2, k3⟩
          have : ∃ xs : List AV, xs.length = elems.length ∧ ∀ i (hi : i < elems.length) (hx : i < xs.length), RdD P e (elems[i]).1 xs[i] ∧ xs[i].cells.length = P.cellsOf e ∧ ∃ ecs : List Value, W.cells? 0 (a.add (i * P.cellsOf e)) (P.cellsOf e) = some ecs ∧ CellsV W ecs xs[i].cells := by
            refine ⟨(List.finRange elems.length).map fun i => Classical.choose (each i.1 i.2), by simp, fun i hi hx => ?_⟩
            simp only [List.getElem_map, List.getElem_finRange]
            exact Classical.choose_spec (each i hi)
          obtain ⟨xs, hxl, hxs⟩ := this
          have hv : VRel (Rl.old W) W (.slice (some a) len cap) (.sl true false (P.cellsOf e) xs) := by
            rcases Nat.eq_zero_or_pos len with h0 | h0
            · subst h0
              obtain rfl : xs = [] := List.eq_nil_of_length_eq_zero (by omega)
              exact .sl0 (fun h => by cases h)
            · obtain ⟨b, o, sp⟩ := a
              obtain ⟨_, _, ecs0, hc, _⟩ := hxs 0 (by omega) (by omega)
              obtain ⟨_, hcl, hcc⟩ := World.cells?_some hc
              have hcell0 := hcc 0 hpos
              rw [List.getElem?_eq_getElem (by omega)] at hcell0
              have hsp : sp = none := by
                cases sp with
                | none => rfl
                | some s =>
                  simp [Addr.add, World.cell?] at hcell0
                  split at hcell0 <;> cases hcell0
              subst hsp
              have hb : b < W.heap.size := by
                rw [Addr.add_lit] at hcell0
                rcases Nat.lt_or_ge b W.heap.size with h | h
                · exact h
                · simp [World.cell?, Addr.add, Array.getElem?_eq_none h] at hcell0
              have hcel : ∀ i, i < xs.length → ∀ j, j < P.cellsOf e → ∃ v, W.cell? ⟨b, o + i * P.cellsOf e + j, none⟩ = some v ∧ ∀ (hi : i < xs.length) (hj : j < (AV.cells xs[i]).length), VRel (Rl.old W) W v (AV.cells xs[i])[j] := by
                intro i hi j hj
                obtain ⟨_, hxc, ecs, hc, hcv⟩ := hxs i (by omega) hi
                obtain ⟨_, hcl, hcc⟩ := World.cells?_some hc
                have h1 := hcc j hj
                rw [List.getElem?_eq_getElem (by omega)] at h1
                rw [Addr.add_lit, Addr.add_lit] at h1
                refine ⟨ecs[j], h1, fun _ hj' => hcv.2 j _ hj'⟩
              refine .sl (by omega) hl (fun h => by cases h) hb (fun _ => hb) (fun x hx => ?_) (fun i j => (W.cell? ⟨b, o + i * P.cellsOf e + j, none⟩).getD undef) (fun i hi j hj => ?_) (fun i hi j hj => ?_)
              · obtain ⟨i, hi, rfl⟩ := List.getElem_of_mem hx
                exact (hxs i (by omega) hi).2.1
              · obtain ⟨v, h1, _⟩ := hcel i hi j hj
                rw [h1]; rfl
              · obtain ⟨v, h1, h2⟩ := hcel i hi j (by rw [(hxs i (by omega) hi).2.1] at hj; exact hj)
                rw [h1]
                exact h2 hi hj
          refine ⟨.sl true false (P.cellsOf e) xs, .sl ht (by simp [hxl]) (by omega) (fun i h1 h2 => by simpa using (hxs i (by simpa using h1) h2).1), hc1.symm, .one hv, ?_⟩
          rintro v (⟨ys, rfl, h1, h2⟩ | ⟨h1, h2⟩)
          · simp [aggT, ht] at h2
          · cases h1; exact hv
      ·
        rename_i fs ht
        split at hp
        case h_2 => cases hp
        rename_i m hm
        split at hp
        case h_2 => cases hp
        rename_i hcm
        have hcm := Nat.eq_of_beq_eq_true hcm
        obtain ⟨ys, fu, hfu, hx, hl, hyl, hy⟩ := DataW.trod_struct ht h
        obtain rfl : fuel = fu := by omega
        cases hx
        have each : ∀ i (hi : i < fs.toList.length) (hi' : i < ys.length), ∃ x, RdD P (fs.toList[i]).type (ys[i]).1 x ∧ x.cells.length = P.cellsOf (fs.toList[i]).type ∧ CellsV W ((cs.drop (fs.toList[i]).offset).take (P.cellsOf (fs.toList[i]).type)) x.cells := by
          intro i hi hi'
          have h1 := hy i (fs.toList[i]) (by simp at hi; simp [hi])
          rw [List.getElem?_eq_getElem hi'] at h1
          obtain ⟨k, hk⟩ := hall n fs.toList hp i hi
          obtain ⟨x, k1, k2, k3, _⟩ := ih k _ _ (ys[i]).1 (ys[i]).2 h1 hk
          exact ⟨x, k1, k2, k3⟩
        have hfl : fs.toList.length = ys.length := by simp [hyl]
        have : ∃ xs : List AV, xs.length = fs.toList.length ∧ ∀ i (hi : i < fs.toList.length) (hi' : i < ys.length) (hx : i < xs.length), RdD P (fs.toList[i]).type (ys[i]).1 xs[i] ∧ xs[i].cells.length = P.cellsOf (fs.toList[i]).type ∧ CellsV W ((cs.drop (fs.toList[i]).offset).take (P.cellsOf (fs.toList[i]).type)) xs[i].cells := by
          refine ⟨(List.finRange fs.toList.length).map fun i => Classical.choose (each i.1 i.2 (by omega)), by simp, fun i hi hi' hx => ?_⟩
          simp only [List.getElem_map, List.getElem_finRange]
          exact Classical.choose_spec (each i hi hi')
        obtain ⟨xs, hxl, hxs⟩ := this
        obtain ⟨_, hcv⟩ := laidB_flat fs.toList 0 m W cs xs hm hxl (fun i h1 h2 => ⟨(hxs i h1 (by omega) h2).2.2, (hxs i h1 (by omega) h2).2.1⟩) (by omega)
        rw [List.drop_zero] at hcv
        refine ⟨.agg (xs.flatMap AV.cells), .st ht (by simp [hyl]) (by simpa using hxl) (fun i h1 h2 h3 => by
          have := (hxs i (by simpa using h3) (by simpa using h1) h2).1
          simp only [Array.getElem_toList, List.getElem_map] at this ⊢
          exact this), by show (xs.flatMap AV.cells).length = _; rw [← hcv.1]; omega, hcv, ?_⟩
        rintro v (⟨zs, rfl, h1, h2⟩ | ⟨h1, h2⟩)
        · refine .agg (by rw [← hcv.1, ← h1]; simp) (fun i hi => ?_)
          have h3 : i < cs.length := by rw [hcv.1]; exact hi
          have := hcv.2 i h3 hi
          subst h1
          rw [Array.getD_eq_getD_getElem?, Array.getElem?_eq_getElem (by simpa using h3)]
          simpa using this
        · simp [aggT, ht] at h2
      · cases hp
theorem read_plain {H : Type} {enc : TypeId × Value → H} {P : Program} {W : World} {r : Reach} {base : Nat} {n : Nat} {t : TypeId} {v : Value} {d : DataW H} {ps : List MemPlace} (hp : plainB P n t = true) (hv : Value.okWide P W r base t v)
    (h : DataW.Trod enc P W 0 (fun _ => true) true t v d ps) : ∃ a, VRel (Rl.old W) W v a ∧ RdD P t d a := by
  obtain ⟨fuel, hf⟩ := h
  obtain ⟨a, h1, _, _, h2⟩ := read_cells fuel n t _ d ps hf hp
  refine ⟨a, h2 v ?_, h1⟩
  cases n with
  | zero => simp [plainB] at hp
  | succ n =>
    rw [plainB] at hp
    split at hp
    · rename_i ht
      obtain ⟨b, rfl⟩ := okWide_bool ht hv
      exact .inr ⟨rfl, by simp [aggT, ht]⟩
    · rename_i k ht
      obtain ⟨b, rfl⟩ := okWide_int ht hv
      exact .inr ⟨rfl, by simp [aggT, ht]⟩
    · rename_i ht
      obtain ⟨b, rfl⟩ := okWide_string ht hv
      exact .inr ⟨rfl, by simp [aggT, ht]⟩
    · rename_i e ht
      obtain ⟨a, len, cap, rfl⟩ := okWide_slice ht hv
      exact .inr ⟨rfl, by simp [aggT, ht]⟩
    · rename_i fs ht
      obtain ⟨cs, rfl, _⟩ := okWide_struct ht hv
      exact .inl ⟨cs, rfl, rfl, by simp [aggT, ht]⟩
    · cases hp
def RdDAll (P : Program) {H : Type} : List Field → List (DataW H) → List AV → Prop
  | [], [], [] => True
  | f :: fs, d :: ds, x :: xs => RdD P f.type d x ∧ RdDAll P fs ds xs
  | _, _, _ => False
theorem RdDAll.of {P : Program} {H : Type} : ∀ {fs : List Field} {ds : List (DataW H)} {xs : List AV}, ds.length = fs.length → xs.length = fs.length → (∀ i (h1 : i < ds.length) (h2 : i < xs.length) (h3 : i < fs.length), RdD P fs[i].type ds[i] xs[i]) → RdDAll P fs ds xs
  | [], ds, xs, h1, h2, _ => by
    obtain rfl : ds = [] := List.eq_nil_of_length_eq_zero h1
    obtain rfl : xs = [] := List.eq_nil_of_length_eq_zero h2
    trivial
  | f :: fs, ds, xs, h1, h2, h => by
    cases ds with
    | nil => simp at h1
    | cons d ds =>
      cases xs with
      | nil => simp at h2
      | cons x xs =>
        exact ⟨h 0 (by simp) (by simp) (by simp), RdDAll.of (by simpa using h1) (by simpa using h2) (fun i k1 k2 k3 => h (i + 1) (Nat.succ_lt_succ k1) (Nat.succ_lt_succ k2) (Nat.succ_lt_succ k3))⟩
theorem RdDAll.cons {P : Program} {H : Type} {f : Field} {fs : List Field} {ds : List (DataW H)} {xs : List AV} (h : RdDAll P (f :: fs) ds xs) : ∃ d ds' x xs', ds = d :: ds' ∧ xs = x :: xs' ∧ RdD P f.type d x ∧ RdDAll P fs ds' xs' := by
  match ds, xs, h with
  | d :: ds', x :: xs', ⟨h1, h2⟩ => exact ⟨d, ds', x, xs', rfl, rfl, h1, h2⟩
theorem RdDAll.nil {P : Program} {H : Type} {ds : List (DataW H)} {xs : List AV} (h : RdDAll P [] ds xs) : ds = [] ∧ xs = [] := by
  match ds, xs, h with
  | [], [], _ => exact ⟨rfl, rfl⟩
section
variable {P : Program} {H : Type} {t : TypeId} {d : DataW H} {a : AV}
theorem RdD.inv_st {fs : Array Field} (h : RdD P t d a) (ht : P.underlying t = some (.struct fs)) : ∃ ds xs, d = .agg ds ∧ a = .agg (xs.flatMap AV.cells) ∧ RdDAll P fs.toList ds xs := by
  cases h with
  | st ht' hd hx h =>
    rw [ht] at ht'
    cases ht'
    exact ⟨_, _, rfl, rfl, .of (by simpa using hd) (by simpa using hx) (fun i h1 h2 h3 => by simpa using h i h1 h2 (by simpa using h3))⟩
  | bool ht' => rw [ht] at ht'; cases ht'
  | str ht' => rw [ht] at ht'; cases ht'
  | int ht' => rw [ht] at ht'; cases ht'
  | nils ht' => rw [ht] at ht'; cases ht'
  | sl ht' => rw [ht] at ht'; cases ht'
theorem RdD.inv_str (h : RdD P t d a) (ht : P.underlying t = some .string) : ∃ s, d = .lit (.string s) ∧ a = .str s ∧ s.length ≤ maxLen := by
  cases h with
  | str ht' hs => exact ⟨_, rfl, rfl, hs⟩
  | bool ht' => rw [ht] at ht'; cases ht'
  | int ht' => rw [ht] at ht'; cases ht'
  | nils ht' => rw [ht] at ht'; cases ht'
  | sl ht' => rw [ht] at ht'; cases ht'
  | st ht' => rw [ht] at ht'; cases ht'
theorem RdD.inv_int {k : IntKind} (h : RdD P t d a) (ht : P.underlying t = some (.int k)) : ∃ n, d = .lit (.int k n) ∧ a = .int k n ∧ (Lit.int k n).wf = true := by
  cases h with
  | int ht' hs => rw [ht] at ht'; cases ht'; exact ⟨_, rfl, rfl, hs⟩
  | bool ht' => rw [ht] at ht'; cases ht'
  | str ht' => rw [ht] at ht'; cases ht'
  | nils ht' => rw [ht] at ht'; cases ht'
  | sl ht' => rw [ht] at ht'; cases ht'
  | st ht' => rw [ht] at ht'; cases ht'
theorem RdD.inv_bool (h : RdD P t d a) (ht : P.underlying t = some .bool) : ∃ b, d = .lit (.bool b) ∧ a = .bool b := by
  cases h with
  | bool ht' => exact ⟨_, rfl, rfl⟩
  | int ht' => rw [ht] at ht'; cases ht'
  | str ht' => rw [ht] at ht'; cases ht'
  | nils ht' => rw [ht] at ht'; cases ht'
  | sl ht' => rw [ht] at ht'; cases ht'
  | st ht' => rw [ht] at ht'; cases ht'
theorem RdD.inv_sl {e : TypeId} (h : RdD P t d a) (ht : P.underlying t = some (.slice e)) :
    ∃ (ds : List (DataW H)) (xs : List AV), a = .sl true false (P.cellsOf e) xs ∧ xs.length = ds.length ∧ xs.length ≤ maxLen ∧ (∀ i (h1 : i < ds.length) (h2 : i < xs.length), RdD P e ds[i] xs[i]) ∧ ((d = .nil ∧ ds = []) ∨ ∃ rest, d = .slice ds rest) := by
  cases h with
  | nils ht' => rw [ht] at ht'; cases ht'; exact ⟨[], [], rfl, rfl, Nat.zero_le _, fun i h => absurd h (by simp), .inl ⟨rfl, rfl⟩⟩
  | sl ht' hl hm h => rw [ht] at ht'; cases ht'; exact ⟨_, _, rfl, hl, hm, h, .inr ⟨_, rfl⟩⟩
  | bool ht' => rw [ht] at ht'; cases ht'
  | int ht' => rw [ht] at ht'; cases ht'
  | str ht' => rw [ht] at ht'; cases ht'
  | st ht' => rw [ht] at ht'; cases ht'
theorem RdD.each {α : Type} {e : TypeId} (f : α → AV) (g : α → DataW H → Prop) {ds : List (DataW H)} {xs : List AV} (hl : xs.length = ds.length) (h : ∀ i (h1 : i < ds.length) (h2 : i < xs.length), RdD P e ds[i] xs[i])
    (hf : ∀ d x, RdD P e d x → ∃ y, x = f y ∧ g y d) : ∃ ys : List α, xs = ys.map f ∧ ys.length = ds.length ∧ ∀ i (h1 : i < ds.length) (h2 : i < ys.length), g ys[i] ds[i] := by
  induction xs generalizing ds with
  | nil =>
    obtain rfl : ds = [] := List.eq_nil_of_length_eq_zero (by simpa using hl.symm)
    exact ⟨[], rfl, rfl, fun i h => absurd h (by simp)⟩
  | cons x xs ih =>
    cases ds with
    | nil => simp at hl
    | cons d ds =>
      obtain ⟨y, hy, hg⟩ := hf d x (h 0 (by simp) (by simp))
      obtain ⟨ys, h1, h2, h3⟩ := ih (ds := ds) (by simpa using hl) (fun i k1 k2 => h (i + 1) (Nat.succ_lt_succ k1) (Nat.succ_lt_succ k2))
      refine ⟨y :: ys, by rw [hy, h1]; rfl, by simp [h2], fun i k1 k2 => ?_⟩
      cases i with
      | zero => exact hg
      | succ i => exact h3 i (Nat.lt_of_succ_lt_succ k1) (Nat.lt_of_succ_lt_succ k2)
end
end Go.Ab
end
section
set_option linter.unusedVariables false
set_option linter.unusedSimpArgs false
namespace Go.Ab
open Go Go.WideShapes
mutual
def avB : AV → Nat
  | .str s => s.length
  | .sl _ _ _ xs => avS xs
  | .agg cs => avC cs
  | _ => 0
def avS : List AV → Nat
  | [] => 0
  | x :: r => avB x + 1 + avS r
def avC : List AV → Nat
  | [] => 0
  | x :: r => avB x + avC r
end
theorem avC_append (a b : List AV) : avC (a ++ b) = avC a + avC b := by
  induction a with
  | nil => simp [avC]
  | cons x a ih => simp only [List.cons_append, avC, ih]; omega
theorem avC_cells (x : AV) : avC x.cells ≤ avB x := by
  cases x <;> simp [AV.cells, avC, avB]
theorem avC_flat (xs : List AV) : avC (xs.flatMap AV.cells) ≤ avC xs := by
  induction xs with
  | nil => simp
  | cons x xs ih =>
    have := avC_cells x
    simp only [List.flatMap_cons, avC_append, avC]; omega
theorem avC_le_avS (xs : List AV) : avC xs ≤ avS xs := by
  induction xs with
  | nil => simp [avC, avS]
  | cons x xs ih => simp only [avC, avS]; omega
theorem avS_mem {x : AV} : ∀ {xs : List AV}, x ∈ xs → avB x + 1 ≤ avS xs
  | y :: ys, h => by
    rcases List.mem_cons.1 h with rfl | h
    · simp only [avS]; omega
    · have := avS_mem h; simp only [avS]; omega
theorem avS_len : ∀ xs : List AV, xs.length ≤ avS xs
  | [] => Nat.zero_le _
  | x :: xs => by have := avS_len xs; simp only [avS, List.length_cons]; omega
theorem bulk_all {P : Program} {H : Type} {B : DataW H → Nat} {BA : List (DataW H) → Nat} (hn : BA [] = 0) (hc : ∀ d r, BA (d :: r) = B d + BA r) : ∀ {ds : List (DataW H)} {xs : List AV}, xs.length = ds.length →
    (∀ i (h1 : i < ds.length) (h2 : i < xs.length), avB xs[i] + 1 ≤ B ds[i]) → avS xs ≤ BA ds
  | [], xs, hl, h => by
    obtain rfl : xs = [] := List.eq_nil_of_length_eq_zero (by simpa using hl)
    simp [avS]
  | d :: ds, xs, hl, h => by
    cases xs with
    | nil => simp at hl
    | cons x xs =>
      have h0 := h 0 (by simp) (by simp)
      have := bulk_all (P := P) (B := B) hn hc (ds := ds) (xs := xs) (by simpa using hl) (fun i h1 h2 => h (i + 1) (Nat.succ_lt_succ h1) (Nat.succ_lt_succ h2))
      simp only [avS, hc]
      simp only [List.getElem_cons_zero] at h0
      omega
theorem RdD.bulk {P : Program} {H : Type} {B : DataW H → Nat} {BA : List (DataW H) → Nat} (hn : BA [] = 0) (hc : ∀ d r, BA (d :: r) = B d + BA r) (h1 : ∀ d, 1 ≤ B d) (hs : ∀ s, B (.lit (.string s)) = s.length + 1)
    (hsl : ∀ a b, B (.slice a b) = BA a + BA b + 1) (hag : ∀ a, B (.agg a) = BA a + 1) {t : TypeId} {d : DataW H} {a : AV} (h : RdD P t d a) : avB a + 1 ≤ B d := by
  induction h with
  | bool => simpa [avB] using h1 _
  | int => simpa [avB] using h1 _
  | str => simp [avB, hs]
  | nils => simpa [avB, avS] using h1 _
  | sl ht hl hm h ih =>
    have := bulk_all (P := P) (B := B) hn hc hl ih
    rw [hsl]; simp only [avB]; omega
  | st ht hd hx h ih =>
    have := bulk_all (P := P) (B := B) hn hc (by omega) (fun i a b => ih i a b (by omega))
    rw [hag]; simp only [avB]
    rename_i t fs ds xs
    have k1 := avC_flat xs
    have k2 := avC_le_avS xs
    omega
end Go.Ab
end
section
set_option linter.unusedVariables false
set_option linter.unusedSimpArgs false
set_option maxRecDepth 20000
set_option maxHeartbeats 4000000
namespace Go.Proofs.YtfpdfpdlekngfaaDoor
open Go Go.Ab
structure DE where
  kind : Int
  text : Nm
  l : List Nm
  odd : Bool
def DE.cells (d : DE) : List AV := [.int .i64 d.kind, .str d.text, .sl true false 1 (texts d.l), .bool d.odd]
def deedA (d : DE) : AV := .agg d.cells
def askF (odd : Bool) (i : Nat) (x : Nm) : Nm := if odd && i == 1 then x else sha x
def askS (odd : Bool) (l : List Nm) : List Nm := l.mapIdx (askF odd)
theorem askS_take {odd : Bool} {l : List Nm} {i : Nat} (h : i < l.length) : askS odd (l.take (i + 1)) = askS odd (l.take i) ++ [askF odd i l[i]] := by
  unfold askS
  rw [List.take_succ_eq_append_getElem h, List.mapIdx_append]
  simp only [List.mapIdx_cons, List.mapIdx_nil, List.length_take]
  rw [show 0 + min i l.length = i by omega]
theorem askS_len (odd : Bool) (l : List Nm) : (askS odd l).length = l.length := by unfold askS; simp
def wantC (es : List CI) (x : Nm) : Bool := isDig x && gonD es x
theorem askF_le {odd : Bool} {i : Nat} {x : Nm} (h : x.length ≤ 1048576) : (askF odd i x).length ≤ 1048576 := by
  unfold askF
  split
  · exact h
  · rw [sha_len]; decide
theorem missing_ok (σ : Heap) (L : CL) (K : KL) (room used : Int) (es : List CI) (ks : List (Nm × Nat)) (d : DE) (h : CAt σ L room used es ks) (hk : KAt σ K room (txOf es) (pnOf es)) (hb : BdC es) (hll : d.l.length ≤ 1048576) (hls : ∀ x ∈ d.l, x.length ≤ 1048576) :
    CallOk cx 24 [.ptr L.q 0 0, .ptr K.r 0 0, deedA d] σ (fun o u => o = .ret (.bool true) ∧ CAt u L room used es ks ∧ KAt u K room (txOf es) (pnOf es) ∧ σ.length ≤ u.length ∧ ∀ id, id < σ.length → u[id]? = σ[id]?) :=
  callOk_intro (fun a w => Tryd.call24 a w) Tryd.func24 rfl Tryd.ntmps24 rfl fun B => by
    have hln := hb.ln
    have htl : (texts d.l).length = d.l.length := by simp [texts]
    obtain ⟨Db, hDb⟩ : ∃ Db : Nat × Option Box, Db = (0, some (.cells d.cells ⟨false, some 50⟩)) := ⟨_, rfl⟩
    have h1 : CAt (σ ++ [Db]) L room used es ks := by rw [hDb]; exact h.app _ _
    have hk1 : KAt (σ ++ [Db]) K room (txOf es) (pnOf es) := by rw [hDb]; exact hk.app _ _
    have l1 : (σ ++ [Db]).length = σ.length + 1 := by simp
    refine pao [.f (.ptr σ.length 0 0) (fun s => s ++ [Db])] rfl ?_ ?_
    · (repeat' with_reducible apply AllP_cons) <;> try exact aC
      · rw [hDb]; exact OpSpec.boxE (y := deedA d) rfl rfl rfl rfl h.al
    refine S_ghostF (t := 7) (gid := σ.length + 1) (gver := 0) (σ' := (σ ++ [Db]) ++ [(0, some (.cells [] ⟨false, none⟩))]) 1 ⟨false, none⟩ rfl (by rw [← l1]; exact h1.al.alloc _) ⟨_, _, .inl rfl⟩ ?_
    have h2 := h1.app 0 (.cells [] ⟨false, none⟩)
    have hk2 := hk1.app 0 (.cells [] ⟨false, none⟩)
    have l2 : ((σ ++ [Db]) ++ [((0, some (.cells [] ⟨false, none⟩)) : Nat × Option Box)]).length = σ.length + 2 := by simp
    refine S_ghostF (t := 8) (gid := σ.length + 2) (gver := 0) (σ' := ((σ ++ [Db]) ++ [(0, some (.cells [] ⟨false, none⟩))]) ++ [(0, some (.cells [] ⟨false, none⟩))]) 1 ⟨false, none⟩ rfl (by rw [← l2]; exact h2.al.alloc _) ⟨_, _, .inl rfl⟩ ?_
    have h3 := h2.app 0 (.cells [] ⟨false, none⟩)
    have hk3 := hk2.app 0 (.cells [] ⟨false, none⟩)
    have nC : ∀ id, σ.length ≤ id → ¬ OwnC L es id := fun id hid ho => by have := h.lt _ ho; omega
    have nK : ∀ id, σ.length ≤ id → ¬ OwnK K id := fun id hid ho => by have := hk.lt _ ho; omega
    refine S_while (α := Heap × Nat × List Nm × List Nm × Int) (fun x => [(0, .ptr L.q 0 0), (1, .ptr K.r 0 0), (5, .ptr σ.length 0 0), (7, .ms (σ.length + 1) x.2.2.1.length 0 x.2.2.1.length 1 false), (8, .ms (σ.length + 2) x.2.2.2.1.length 0 x.2.2.2.1.length 1 false), (9, .int .i64 x.2.2.2.2), (10, .int .i64 (x.2.1 : Nat))]) (fun x => x.1)
      (fun x => CAt x.1 L room used es ks ∧ KAt x.1 K room (txOf es) (pnOf es) ∧ x.1.length = σ.length + 3 ∧ (∀ id, id < σ.length → x.1[id]? = σ[id]?) ∧ x.1[σ.length]? = some Db ∧ x.1[σ.length + 1]? = some (x.2.2.1.length, some (.cells (texts x.2.2.1) ⟨false, none⟩)) ∧ x.1[σ.length + 2]? = some (x.2.2.2.1.length, some (.cells (texts x.2.2.2.1) ⟨false, none⟩)) ∧
        x.2.1 ≤ d.l.length ∧ x.2.2.1 = askS d.odd (d.l.take x.2.1) ∧ x.2.2.2.1 = x.2.2.1.filter (wantC es) ∧ x.2.2.2.2 = (if x.2.2.1.all isDig = true then 0 else 1)) (fun x => d.l.length - x.2.1) (_, 0, [], [], 0)
      ⟨h3, hk3, by simp, fun id hid => by rw [List.getElem?_append_left (by simp; omega), List.getElem?_append_left (by simp; omega), List.getElem?_append_left hid], app_get (app_get app_last), app_get (by rw [← l1]; exact app_last), (by rw [← l2]; exact app_last), Nat.zero_le _, rfl, rfl, rfl⟩ (.cons rfl (.cons rfl (.cons rfl (.cons rfl (.cons rfl (.cons rfl (.cons rfl (.nil _)))))))) rfl ?_
    rintro ⟨u, i, ask, want, w⟩ ⟨hc, hq, hlu, hsm, hdb, hab, hwb, hi, hask, hwant, hw⟩
    simp only at hc hq hlu hsm hdb hab hwb hi hask hwant hw
    rw [hDb] at hdb
    have hal : ask.length = i := by rw [hask, askS_len, List.length_take]; omega
    have hwl : want.length ≤ i := by rw [hwant, ← hal]; exact List.length_filter_le ..
    by_cases hlt : i < d.l.length
    · have d1 : decide ((i : Int) < (((texts d.l).length : Nat) : Int)) = true := decide_eq_true (by omega)
      have hi1 : AV.int .i64 (IntKind.i64.wrap ((i : Int) + 1)) = .int .i64 ((i + 1 : Nat) : Int) := ai64 rfl (by omega)
      obtain ⟨y, hy⟩ : ∃ y, y = d.l[i] := ⟨_, rfl⟩
      have hym : y ∈ d.l := by rw [hy]; exact List.getElem_mem hlt
      have hyl := hls y hym
      have hyx : (texts d.l)[(i : Int).toNat]? = some (.str y) := by rw [Int.toNat_natCast, hy]; simp [texts, hlt]
      have hS := SumR_ok y (by omega)
      obtain ⟨x, hx⟩ : ∃ x, x = askF d.odd i y := ⟨_, rfl⟩
      have hxl : x.length ≤ 1048576 := by rw [hx]; exact askF_le hyl
      have hask1 : ask ++ [x] = askS d.odd (d.l.take (i + 1)) := by rw [askS_take hlt, ← hask, hx, hy]
      refine' S_shareO (ι := Unit) (fun _ => [(0, .ptr L.q 0 0), (1, .ptr K.r 0 0), (5, .ptr σ.length 0 0), (8, .ms (σ.length + 2) want.length 0 want.length 1 false), (9, .int .i64 w), (10, .int .i64 (i : Nat)), (11, .str x), (38, .ms (σ.length + 1) ask.length 0 ask.length 1 false), (40, .sl true true 1 [.str x])]) (fun _ => u) (fun _ => True) ?main ?rest
      case main =>
        intro hsh
        have hodd : d.odd = false ∨ d.odd = true := by cases d.odd <;> simp
        rcases hodd with hod | hod
        ·
          have hdb' : u[σ.length]? = some (0, some (.cells [.int .i64 d.kind, .str d.text, .sl true false 1 (texts d.l), .bool false] ⟨false, some 50⟩)) := by rw [hdb]; unfold DE.cells; rw [hod]
          have hxs : x = sha y := by rw [hx, hod]; rfl
          refine pao [.v (.sl true false 1 (texts d.l)), .b true, .v (.sl true false 1 (texts d.l)), .v (.str y), .v (.str y), .v (.str (sha y)), .v (.bool false), .b false, .b false] rfl ?_ ?_
          · (repeat' with_reducible apply AllP_cons) <;> try exact aC
            · exact OpSpec.loadP rfl rfl rfl rfl hdb' rfl
            · exact OpSpec.loadP rfl rfl rfl rfl hdb' rfl
            · exact OpSpec.loadR rfl rfl rfl rfl rfl
            · exact ⟨_, hS, .cons (.refl .str) (.nil _)⟩
            · exact OpSpec.loadP rfl rfl rfl rfl hdb' rfl
          rw [hxs] at hsh
          exact hsh () _ trivial (.cons rfl (.cons rfl (.cons rfl (.cons rfl (.cons rfl (.cons rfl (.cons rfl (.cons rfl (.cons rfl (.nil _))))))))))
        ·
          have hdb' : u[σ.length]? = some (0, some (.cells [.int .i64 d.kind, .str d.text, .sl true false 1 (texts d.l), .bool true] ⟨false, some 50⟩)) := by rw [hdb]; unfold DE.cells; rw [hod]
          by_cases hi1' : i = 1
          · have d2 : ((i : Int) == 1) = true := by rw [hi1']; rfl
            have hxs : x = y := by rw [hx, hod, hi1']; rfl
            refine pao [.v (.sl true false 1 (texts d.l)), .b true, .v (.sl true false 1 (texts d.l)), .v (.str y), .v (.str y), .v (.str (sha y)), .v (.bool true), .b true, .b true, .v (.sl true false 1 (texts d.l)), .v (.str y), .v (.str y)] rfl ?_ ?_
            · (repeat' with_reducible apply AllP_cons) <;> try exact aC
              · exact OpSpec.loadP rfl rfl rfl rfl hdb' rfl
              · exact OpSpec.loadP rfl rfl rfl rfl hdb' rfl
              · exact OpSpec.loadR rfl rfl rfl rfl rfl
              · exact ⟨_, hS, .cons (.refl .str) (.nil _)⟩
              · exact OpSpec.loadP rfl rfl rfl rfl hdb' rfl
              · exact OpSpec.loadP rfl rfl rfl rfl hdb' rfl
              · exact OpSpec.loadR rfl rfl rfl rfl rfl
            rw [hxs] at hsh
            exact hsh () _ trivial (.cons rfl (.cons rfl (.cons rfl (.cons rfl (.cons rfl (.cons rfl (.cons rfl (.cons rfl (.cons rfl (.nil _))))))))))
          · have d2 : ((i : Int) == 1) = false := beq_false_of_ne (by omega)
            have hxs : x = sha y := by
              rw [hx, hod]; unfold askF
              have : (i == 1) = false := beq_false_of_ne hi1'
              rw [this]; rfl
            refine pao [.v (.sl true false 1 (texts d.l)), .b true, .v (.sl true false 1 (texts d.l)), .v (.str y), .v (.str y), .v (.str (sha y)), .v (.bool true), .b true, .b false] rfl ?_ ?_
            · (repeat' with_reducible apply AllP_cons) <;> try exact aC
              · exact OpSpec.loadP rfl rfl rfl rfl hdb' rfl
              · exact OpSpec.loadP rfl rfl rfl rfl hdb' rfl
              · exact OpSpec.loadR rfl rfl rfl rfl rfl
              · exact ⟨_, hS, .cons (.refl .str) (.nil _)⟩
              · exact OpSpec.loadP rfl rfl rfl rfl hdb' rfl
            rw [hxs] at hsh
            exact hsh () _ trivial (.cons rfl (.cons rfl (.cons rfl (.cons rfl (.cons rfl (.cons rfl (.cons rfl (.cons rfl (.cons rfl (.nil _))))))))))
      case rest =>
        intro _ _
        obtain ⟨A, hA⟩ : ∃ A : Nat × Option Box, A = (ask.length + 1, some (.cells (texts (ask ++ [x])) ⟨false, none⟩)) := ⟨_, rfl⟩
        have hal1 : (ask ++ [x]).length = ask.length + 1 := by simp
        have hc2 : CAt (u.set (σ.length + 1) A) L room used es ks := hc.mono (Alive.set' hc.al (by rw [hA]; exact ⟨_, rfl⟩) _) fun id ho => set_ne fun e => nC _ (by omega) (e ▸ ho)
        have hq2 : KAt (u.set (σ.length + 1) A) K room (txOf es) (pnOf es) := hq.mono (Alive.set' hc.al (by rw [hA]; exact ⟨_, rfl⟩) _) fun id ho => set_ne fun e => nK _ (by omega) (e ▸ ho)
        have hID := IsDigest_ok x (by omega)
        have hsm2 : ∀ id, id < σ.length → (u.set (σ.length + 1) A)[id]? = σ[id]? := fun id hid => by rw [set_ne (by omega)]; exact hsm id hid
        have hdb2 : (u.set (σ.length + 1) A)[σ.length]? = some Db := by rw [set_ne (by omega), hdb, hDb]
        have hab2 : (u.set (σ.length + 1) A)[σ.length + 1]? = some ((ask ++ [x]).length, some (.cells (texts (ask ++ [x])) ⟨false, none⟩)) := by rw [set_eq hab, hA, hal1]
        have hwb2 : (u.set (σ.length + 1) A)[σ.length + 2]? = some (want.length, some (.cells (texts want) ⟨false, none⟩)) := by rw [set_ne (by omega)]; exact hwb
        have ham : AV.ms (σ.length + 1) (ask.length + 1) 0 (ask.length + 1) 1 false = AV.ms (σ.length + 1) (ask ++ [x]).length 0 (ask ++ [x]).length 1 false := by rw [hal1]
        have hlen2 : (u.set (σ.length + 1) A).length = σ.length + 3 := by rw [List.length_set]; exact hlu
        cases hdg : isDig x with
        | false =>
          rw [hdg] at hID
          refine pao [.f (.ms (σ.length + 1) (ask.length + 1) 0 (ask.length + 1) 1 false) (fun s => s.set (σ.length + 1) A), .v (.bool false), .b true] rfl ?_ ?_
          · (repeat' with_reducible apply AllP_cons) <;> try exact aC
            · exact OpSpec.appendX (id := σ.length + 1) (ver := ask.length) (off := 0) (len := ask.length) (y := .str x) (cs := texts ask) rfl rfl rfl rfl rfl (fun z hz => by rw [List.mem_singleton.1 (show z ∈ [AV.str x] from hz)]; rfl) hab (by rw [texts_len]; omega) (by show (ask.length + 1) * 16 ≤ _; omega) (by omega) (by rw [hA, ← texts_snocK]; rfl)
            · exact ⟨_, hID, .cons (.refl .str) (.nil _)⟩
          refine S_round (u.set (σ.length + 1) A, i + 1, ask ++ [x], want, 1) (by show d.l.length - (i + 1) < d.l.length - i; omega) ⟨hc2, hq2, hlen2, hsm2, hdb2, hab2, hwb2, hlt, hask1, ?_, ?_⟩ (.cons rfl (.cons rfl (.cons rfl (.cons ham (.cons rfl (.cons rfl (.cons hi1 (.nil _)))))))) rfl
          · show want = (ask ++ [x]).filter (wantC es)
            rw [List.filter_append, ← hwant, List.filter_cons_of_neg (by unfold wantC; rw [hdg]; simp)]; simp
          · show (1 : Int) = if (ask ++ [x]).all isDig = true then 0 else 1
            rw [List.all_append]; simp [hdg]
        | true =>
          rw [hdg] at hID
          have hwx : w = if (ask ++ [x]).all isDig = true then 0 else 1 := by rw [hw, List.all_append]; simp [hdg]
          have hAt := KAt_ok (u.set (σ.length + 1) A) K room (txOf es) (pnOf es) x hq2 (by rw [txOf_len]; omega) (mem_tx hb)
          rw [atK_of] at hAt
          cases ha : atD es x with
          | some k =>
            rw [ha] at hAt
            have hAt : CallOk cx 20 [.ptr K.r 0 0, .str x] (u.set (σ.length + 1) A) (fun o v => o = .ret (.int .i64 (k : Int)) ∧ v = u.set (σ.length + 1) A) := hAt
            have d3 : decide ((k : Int) < 0) = false := decide_eq_false (by omega)
            refine pao [.f (.ms (σ.length + 1) (ask.length + 1) 0 (ask.length + 1) 1 false) (fun s => s.set (σ.length + 1) A), .v (.bool true), .b false, .k (.int .i64 (k : Int)), .b false] rfl ?_ ?_
            · (repeat' with_reducible apply AllP_cons) <;> try exact aC
              · exact OpSpec.appendX (id := σ.length + 1) (ver := ask.length) (off := 0) (len := ask.length) (y := .str x) (cs := texts ask) rfl rfl rfl rfl rfl (fun z hz => by rw [List.mem_singleton.1 (show z ∈ [AV.str x] from hz)]; rfl) hab (by rw [texts_len]; omega) (by show (ask.length + 1) * 16 ≤ _; omega) (by omega) (by rw [hA, ← texts_snocK]; rfl)
              · exact ⟨_, hID, .cons (.refl .str) (.nil _)⟩
            refine S_round (u.set (σ.length + 1) A, i + 1, ask ++ [x], want, w) (by show d.l.length - (i + 1) < d.l.length - i; omega) ⟨hc2, hq2, hlen2, hsm2, hdb2, hab2, hwb2, hlt, hask1, ?_, hwx⟩ (.cons rfl (.cons rfl (.cons rfl (.cons ham (.cons rfl (.cons rfl (.cons hi1 (.nil _)))))))) rfl
            show want = (ask ++ [x]).filter (wantC es)
            rw [List.filter_append, ← hwant, List.filter_cons_of_neg (by unfold wantC gonD; rw [ha]; simp)]; simp
          | none =>
            rw [ha] at hAt
            have hAt : CallOk cx 20 [.ptr K.r 0 0, .str x] (u.set (σ.length + 1) A) (fun o v => o = .ret (.int .i64 (-1)) ∧ v = u.set (σ.length + 1) A) := hAt
            obtain ⟨W, hW⟩ : ∃ W : Nat × Option Box, W = (want.length + 1, some (.cells (texts (want ++ [x])) ⟨false, none⟩)) := ⟨_, rfl⟩
            have hwl1 : (want ++ [x]).length = want.length + 1 := by simp
            have hwm : AV.ms (σ.length + 2) (want.length + 1) 0 (want.length + 1) 1 false = AV.ms (σ.length + 2) (want ++ [x]).length 0 (want ++ [x]).length 1 false := by rw [hwl1]
            refine pao [.f (.ms (σ.length + 1) (ask.length + 1) 0 (ask.length + 1) 1 false) (fun s => s.set (σ.length + 1) A), .v (.bool true), .b false, .k (.int .i64 (-1)), .b true, .f (.ms (σ.length + 2) (want.length + 1) 0 (want.length + 1) 1 false) (fun s => s.set (σ.length + 2) W)] rfl ?_ ?_
            · (repeat' with_reducible apply AllP_cons) <;> try exact aC
              · exact OpSpec.appendX (id := σ.length + 1) (ver := ask.length) (off := 0) (len := ask.length) (y := .str x) (cs := texts ask) rfl rfl rfl rfl rfl (fun z hz => by rw [List.mem_singleton.1 (show z ∈ [AV.str x] from hz)]; rfl) hab (by rw [texts_len]; omega) (by show (ask.length + 1) * 16 ≤ _; omega) (by omega) (by rw [hA, ← texts_snocK]; rfl)
              · exact ⟨_, hID, .cons (.refl .str) (.nil _)⟩
              · exact OpSpec.appendX (id := σ.length + 2) (ver := want.length) (off := 0) (len := want.length) (y := .str x) (cs := texts want) rfl rfl rfl rfl rfl (fun z hz => by rw [List.mem_singleton.1 (show z ∈ [AV.str x] from hz)]; rfl) hwb2 (by rw [texts_len]; omega) (by show (want.length + 1) * 16 ≤ _; omega) (by omega) (by rw [hW, ← texts_snocK]; rfl)
            have hal3 : Alive ((u.set (σ.length + 1) A).set (σ.length + 2) W) := Alive.set' hc2.al (by rw [hW]; exact ⟨_, rfl⟩) _
            refine S_round ((u.set (σ.length + 1) A).set (σ.length + 2) W, i + 1, ask ++ [x], want ++ [x], w) (by show d.l.length - (i + 1) < d.l.length - i; omega) ⟨hc2.mono hal3 fun id ho => set_ne fun e => nC _ (by omega) (e ▸ ho), hq2.mono hal3 fun id ho => set_ne fun e => nK _ (by omega) (e ▸ ho), by show ((u.set (σ.length + 1) A).set (σ.length + 2) W).length = _; rw [List.length_set]; exact hlen2, fun id hid => by show ((u.set (σ.length + 1) A).set (σ.length + 2) W)[id]? = _; rw [set_ne (by omega)]; exact hsm2 id hid, by show ((u.set (σ.length + 1) A).set (σ.length + 2) W)[σ.length]? = _; rw [set_ne (by omega)]; exact hdb2, by show ((u.set (σ.length + 1) A).set (σ.length + 2) W)[σ.length + 1]? = _; rw [set_ne (by omega)]; exact hab2, by show ((u.set (σ.length + 1) A).set (σ.length + 2) W)[σ.length + 2]? = _; rw [set_eq hwb2, hW, hwl1], hlt, hask1, ?_, hwx⟩ (.cons rfl (.cons rfl (.cons rfl (.cons ham (.cons hwm (.cons rfl (.cons hi1 (.nil _)))))))) rfl
            show want ++ [x] = (ask ++ [x]).filter (wantC es)
            rw [List.filter_append, ← hwant, List.filter_cons_of_pos (by unfold wantC gonD; rw [ha, hdg]; rfl)]; rfl
    · have d1 : decide ((i : Int) < (((texts d.l).length : Nat) : Int)) = false := decide_eq_false (by omega)
      have hasl : ∀ x ∈ ask, x.length ≤ 1048576 := fun x hx => by
        rw [hask] at hx
        unfold askS at hx
        obtain ⟨j, hj, rfl⟩ := List.getElem_of_mem hx
        rw [List.getElem_mapIdx]
        exact askF_le (hls _ (List.mem_of_mem_take (List.getElem_mem _)))
      have hfi : ∀ (st : Heap) (a : Int), Frz false st (.int .i64 a) (.int .i64 a) := fun _ _ => .refl .int
      by_cases hbig : ask.length > 2000
      · have d2 : decide ((ask.length : Int) > 2000) = true := decide_eq_true (by omega)
        have hM := Missing_big u L ask (σ.length + 1) ask.length hbig (by omega)
        have hTA := textsAre_ok (st := false) (fl := false) (st' := false) (fl' := false) [] want 2 2 (by decide) (by omega)
        rw [show ((2 : Nat) == 2 && ([] : List (List UInt8)) == (if (2 : Nat) = 0 then want else [])) = true by simp] at hTA
        refine pao [.v (.sl true false 1 (texts d.l)), .b false, .b true, .k (.tup [.nils, .int .i64 2]), .v (.bool true)] rfl ?_ ?_
        · (repeat' with_reducible apply AllP_cons) <;> try exact aC
          · exact OpSpec.loadP rfl rfl rfl rfl hdb rfl
          · exact ⟨_, hTA, .cons .nils (.cons (hfi _ _) (.cons (hfi _ _) (.cons (Frz.ms1 (ro := ⟨false, none⟩) (by simp [boxAt, hwb]) (texts_one _) (texts_len _) (texts_any _)) (.nil _))))⟩
        exact S_ret ⟨_, _, rfl, trivial, rfl, hc, hq, by show σ.length ≤ u.length; omega, hsm⟩
      · have d2 : decide ((ask.length : Int) > 2000) = false := decide_eq_false (by omega)
        have hM := Missing_ok u L room used es ks ask (σ.length + 1) ask.length hc hab (by omega) hasl
        refine pao [.v (.sl true false 1 (texts d.l)), .b false, .b false] rfl ?_ ?_
        · (repeat' with_reducible apply AllP_cons) <;> try exact aC
          · exact OpSpec.loadP rfl rfl rfl rfl hdb rfl
        refine S_call rfl rfl rfl hM (fun v u2 hR => ?_) (fun v s hR => by obtain ⟨hR, _⟩ := hR; rcases hR with ⟨_, hR⟩ | ⟨_, _, _, hR, _⟩ <;> cases hR)
        obtain ⟨hR, hc2, hlu2, hsm2⟩ := hR
        have hwb2 : u2[σ.length + 2]? = some (want.length, some (.cells (texts want) ⟨false, none⟩)) := by rw [hsm2 _ (by omega)]; exact hwb
        have hq2 : KAt u2 K room (txOf es) (pnOf es) := hq.mono hc2.al fun id ho => hsm2 id (hq.lt id ho)
        have hfin : ∀ id, id < σ.length → u2[id]? = σ[id]? := fun id hid => (hsm2 id (by omega)).trans (hsm id hid)
        rcases hR with ⟨hna, hR⟩ | ⟨hya, w2, wv, hR, hob⟩
        · cases hR
          have hw1 : w = 1 := by rw [hw, hna]; rfl
          subst hw1
          have hTA := textsAre_ok (st := false) (fl := false) (st' := false) (fl' := false) [] want 1 1 (by decide) (by omega)
          rw [show ((1 : Nat) == 1 && ([] : List (List UInt8)) == (if (1 : Nat) = 0 then want else [])) = true by simp] at hTA
          refine pao [.v (.bool true)] rfl ?_ ?_
          · (repeat' with_reducible apply AllP_cons) <;> try exact aC
            · exact ⟨_, hTA, .cons .nils (.cons (hfi _ _) (.cons (hfi _ _) (.cons (Frz.ms1 (ro := ⟨false, none⟩) (by simp [boxAt, hwb2]) (texts_one _) (texts_len _) (texts_any _)) (.nil _))))⟩
          exact S_ret ⟨_, _, rfl, trivial, rfl, hc2, hq2, by show σ.length ≤ u2.length; omega, hfin⟩
        · cases hR
          have hw0 : w = 0 := by rw [hw, hya]; rfl
          subst hw0
          have hww : want = ask.filter (gonD es) := by
            rw [hwant]
            refine List.filter_congr fun x hx => ?_
            unfold wantC
            rw [List.all_eq_true.1 hya x hx]; rfl
          rw [← hww] at hob ⊢
          have hTA := textsAre_ok (st := false) (fl := false) (st' := false) (fl' := false) want want 0 0 (by omega) (by omega)
          rw [show ((0 : Nat) == 0 && want == (if (0 : Nat) = 0 then want else [])) = true by simp] at hTA
          refine pao [.v (.bool true)] rfl ?_ ?_
          · (repeat' with_reducible apply AllP_cons) <;> try exact aC
            · exact ⟨_, hTA, .cons (Frz.ms1 (ro := ⟨false, none⟩) (by simp [boxAt, hob]) (texts_one _) (texts_len _) (texts_any _)) (.cons (hfi _ _) (.cons (hfi _ _) (.cons (Frz.ms1 (ro := ⟨false, none⟩) (by simp [boxAt, hwb2]) (texts_one _) (texts_len _) (texts_any _)) (.nil _))))⟩
          exact S_ret ⟨_, _, rfl, trivial, rfl, hc2, hq2, by show σ.length ≤ u2.length; omega, hfin⟩
end Go.Proofs.YtfpdfpdlekngfaaDoor
end
section
set_option linter.unusedVariables false
set_option linter.unusedSimpArgs false
set_option maxRecDepth 20000
namespace Go.Proofs.YtfpdfpdlekngfaaDoor
open Go Go.Ab
theorem textIs_ok (s want : List UInt8) (e w : Nat) : Calc cx 22 [.str s, .int .i64 e, .int .i64 w, .str want] (.bool (e == w && s == (if w = 0 then want else []))) :=
  pure_intro (fun a w => Tryd.call22 a w) Tryd.func22 rfl Tryd.ntmps22 rfl .bool fun B => by
    refine ab 1000 rfl trivial ?_
    have fin : ∀ (want' : List UInt8) (B : Bool), ((e : Int) == (w : Int)) = (e == w) := by
      intro _ _
      by_cases h : e = w
      · subst h; simp
      · have : (e : Int) ≠ w := by omega
        rw [beq_eq_false_iff_ne.2 this, beq_eq_false_iff_ne.2 h]
    refine S_bne rfl (fun h => ?_) (fun h => ?_)
    · have hw : w ≠ 0 := by omega
      rw [if_neg hw]
      refine ab 1000 rfl trivial ?_
      refine S_guard rfl rfl rfl rfl (fun hg => ?_) (fun hg => ?_)
      · refine ab 1000 rfl trivial ?_
        refine S_retc .bool rfl trivial ?_
        rw [← fin [] true, hg]; simp; rfl
      · refine ab 1000 rfl trivial ?_
        refine S_retc .bool rfl trivial ?_
        rw [← fin [] true, hg]; rfl
    · have hw : w = 0 := by omega
      rw [if_pos hw]
      refine ab 1000 rfl trivial ?_
      refine S_guard rfl rfl rfl rfl (fun hg => ?_) (fun hg => ?_)
      · refine ab 1000 rfl trivial ?_
        refine S_retc .bool rfl trivial ?_
        rw [← fin [] true, hg]; rfl
      · refine ab 1000 rfl trivial ?_
        refine S_retc .bool rfl trivial ?_
        rw [← fin [] true, hg]; rfl
end Go.Proofs.YtfpdfpdlekngfaaDoor
end
section
set_option linter.unusedVariables false
set_option linter.unusedSimpArgs false
set_option maxRecDepth 20000
namespace Go.Proofs.YtfpdfpdlekngfaaDoor
open Go Go.Ab
theorem IsNumber_ok (n : Int) : Calc cx 17 [.int .i64 n] (.bool (decide (0 ≤ n) && decide (n ≤ 9007199254740991))) :=
  pure_intro (fun a w => Tryd.call17 a w) Tryd.func17 rfl Tryd.ntmps17 rfl .bool fun B => by
    refine ab 1000 rfl trivial ?_
    refine S_guard rfl rfl rfl rfl (fun h => ?_) (fun h => ?_)
    · refine ab 1000 rfl trivial ?_
      refine S_retc .bool rfl trivial ?_
      rw [show decide (0 ≤ n) = true from h]; rfl
    · refine ab 1000 rfl trivial ?_
      refine S_retc .bool rfl trivial ?_
      rw [show decide (0 ≤ n) = false from h]; rfl
end Go.Proofs.YtfpdfpdlekngfaaDoor
end
section
set_option linter.unusedVariables false
set_option linter.unusedSimpArgs false
set_option maxRecDepth 20000
namespace Go.Proofs.YtfpdfpdlekngfaaDoor
open Go Go.Ab
def chooseN (c : Int) (n : Nat) : Nat := (if c < 0 then (-(c + 1)).toNat else c.toNat) % n
theorem choose_ok (c : Int) (n : Nat) (hc : -9223372036854775808 ≤ c ∧ c ≤ 9223372036854775807) (hn : 0 < n) (hn2 : n ≤ 9223372036854775807) : Calc cx 8 [.int .i64 c, .int .i64 n] (.int .i64 (chooseN c n)) :=
  pure_intro (fun a w => Tryd.call8 a w) Tryd.func8 rfl Tryd.ntmps8 rfl .int fun B => by
    refine ab 1000 rfl trivial ?_
    have hmod : ∀ m : Nat, ((m : Int).tmod n) = ((m % n : Nat) : Int) := fun m => rfl
    refine S_dec rfl (fun h => ?_) (fun h => ?_)
    · have hw : IntKind.i64.wrap (0 - IntKind.i64.wrap (c + 1)) = (((-(c + 1)).toNat : Nat) : Int) := by
        have e1 : IntKind.i64.wrap (c + 1) = c + 1 := IntWalk.i64_in _ ⟨by omega, by omega⟩
        rw [e1]
        exact w64 (by omega) (by omega)
      refine ab 1000 rfl ⟨by omega, trivial⟩ ?_
      refine S_retc .int rfl trivial ?_
      show AV.int .i64 ((IntKind.i64.wrap (0 - IntKind.i64.wrap (c + 1))).tmod n) = _
      rw [hw, hmod, chooseN, if_pos h]
    · refine ab 1000 rfl ⟨by omega, trivial⟩ ?_
      refine S_retc .int rfl trivial ?_
      obtain ⟨m, rfl⟩ := Int.eq_ofNat_of_zero_le (by omega : 0 ≤ c)
      show AV.int .i64 ((m : Int).tmod n) = _
      rw [hmod, chooseN, if_neg h, Int.toNat_natCast]
theorem chooseN_lt (c : Int) {n : Nat} (hn : 0 < n) : chooseN c n < n := Nat.mod_lt _ hn
end Go.Proofs.YtfpdfpdlekngfaaDoor
end
section
set_option linter.unusedVariables false
set_option linter.unusedSimpArgs false
set_option maxRecDepth 20000
namespace Go.Proofs.YtfpdfpdlekngfaaDoor
open Go Go.Ab
theorem HasText_ok {st fl : Bool} (l : List (List UInt8)) (s : List UInt8) (hl : l.length ≤ 9223372036854775806) : Calc cx 31 [.sl st fl 1 (texts l), .str s] (.bool (l.contains s)) :=
  pure_intro (fun a w => Tryd.call31 a w) Tryd.func31 rfl Tryd.ntmps31 rfl .bool fun B => by
    have htl := texts_len l
    refine ab 1000 rfl trivial ?_
    refine S_while (α := Nat) (fun i => [(0, .sl st fl 1 (texts l)), (1, .str s), (5, .int .i64 (i : Nat))]) (fun _ => []) (fun i => i ≤ l.length ∧ s ∉ l.take i) (fun i => l.length - i) 0
      ⟨Nat.zero_le _, by simp⟩ (.cons rfl (.cons rfl (.cons rfl (.nil _)))) rfl ?_
    rintro i ⟨hi, hN⟩
    have hi : i ≤ l.length := hi
    refine ab 1000 rfl trivial ?_
    refine S_dec rfl (fun hlt => ?_) (fun hlt => ?_)
    · have hil : i < l.length := by have : (i : Int) < ((texts l).length : Nat) := hlt; omega
      refine ab 1000 rfl trivial ?_
      refine S_index (.str l[i]) rfl rfl rfl ⟨rfl, by omega, by rw [Int.toNat_natCast]; exact texts_get hil, trivial⟩ ?_
      refine ab 1000 rfl trivial ?_
      refine S_cond rfl (fun h => ?_) (fun h => ?_)
      · have h : l[i] = s := by simpa using (show (l[i] == s) = true from h)
        refine ab 1000 rfl trivial ?_
        refine S_retc .bool rfl trivial ?_
        rw [List.contains_iff_mem.2 (by rw [← h]; exact List.getElem_mem hil)]; rfl
      · have h : l[i] ≠ s := by simpa using (show (l[i] == s) = false from h)
        refine ab 1000 rfl trivial ?_
        refine S_round (i + 1) (by show l.length - (i + 1) < l.length - i; omega) ⟨hil, fun hm => ?_⟩ (.cons rfl (.cons rfl (.cons (ai64 rfl (by omega)) (.nil _)))) rfl
        rw [List.take_succ_eq_append_getElem hil] at hm
        rcases List.mem_append.1 hm with hm | hm
        · exact hN hm
        · simp at hm; exact h hm.symm
    · have hil : i = l.length := by have : ¬ (i : Int) < ((texts l).length : Nat) := hlt; omega
      rw [hil, List.take_length] at hN
      refine ab 1000 rfl trivial ?_
      refine S_retc .bool rfl trivial ?_
      have : l.contains s = false := by
        cases h : l.contains s with
        | false => rfl
        | true => exact absurd (List.contains_iff_mem.1 h) hN
      rw [this]; rfl
end Go.Proofs.YtfpdfpdlekngfaaDoor
end
section
set_option linter.unusedVariables false
set_option linter.unusedSimpArgs false
set_option maxRecDepth 20000
namespace Go.Proofs.YtfpdfpdlekngfaaDoor
open Go Go.Ab
def clashF : List (List UInt8) → List (List UInt8) → Bool
  | _, [] => false
  | T, x :: r => if T.contains x then clashF T r else if (T.map sha).contains (sha x) then true else clashF (T ++ [x]) r
end Go.Proofs.YtfpdfpdlekngfaaDoor
end
section
set_option linter.unusedVariables false
set_option linter.unusedSimpArgs false
set_option maxRecDepth 20000
namespace Go.Proofs.YtfpdfpdlekngfaaDoor
open Go Go.Ab
def listsG (LS : List (List (List UInt8))) (fs : Nat → Bool × Bool) : List AV := LS.mapIdx fun i q => .sl (fs i).1 (fs i).2 1 (texts q)
theorem ClashG_ok {st fl : Bool} (fs : Nat → Bool × Bool) (LS : List (List (List UInt8))) (h1 : LS.length ≤ 1000) (h2 : ∀ q ∈ LS, q.length ≤ 2000000) (h3 : ∀ q ∈ LS, ∀ s ∈ q, s.length ≤ 2000000) :
    Calc cx 11 [.sl st fl 1 (listsG LS fs)] (.bool (clashF [] LS.flatten)) :=
  pure_intro (fun a w => Tryd.call11 a w) Tryd.func11 rfl Tryd.ntmps11 rfl .bool fun B => by
    have hll : (listsG LS fs).length = LS.length := by simp [listsG]
    refine ab 1000 rfl trivial ?_
    refine S_ghostF (t := 3) 1 ⟨false, none⟩ rfl rfl ⟨_, _, .inl rfl⟩ ?_
    refine S_ghostF (t := 4) 1 ⟨false, none⟩ rfl rfl ⟨_, _, .inl rfl⟩ ?_
    have gL : ∀ {j : Nat} (h : j < LS.length), (listsG LS fs)[(j : Int).toNat]? = some (.sl (fs j).1 (fs j).2 1 (texts LS[j])) := fun h => by
      rw [Int.toNat_natCast]; simp [listsG, h]
    refine S_while (α := Nat × List (List UInt8) × Nat) (fun (i, T, u) => [(0, .sl st fl 1 (listsG LS fs)), (3, .ms 0 u 0 T.length 1 false), (4, .ms 1 u 0 T.length 1 false), (5, .int .i64 (i : Nat))])
      (fun (i, T, u) => [(u, some (.cells (texts T) ⟨false, none⟩)), (u, some (.cells (texts (T.map sha)) ⟨false, none⟩))]) (fun (i, T, u) => i ≤ LS.length ∧ T.length ≤ 2000000 * i ∧ clashF T (LS.drop i).flatten = clashF [] LS.flatten) (fun (i, T, u) => LS.length - i) (0, [], 0)
      ⟨Nat.zero_le _, Nat.zero_le _, rfl⟩ (.cons rfl (.cons rfl (.cons rfl (.cons rfl (.nil _))))) rfl ?_
    rintro ⟨i, T, u⟩ ⟨g1, g2, g3⟩
    have g1 : i ≤ LS.length := g1
    have g2 : T.length ≤ 2000000 * i := g2
    refine ab 1000 rfl trivial ?_
    refine S_dec rfl (fun hlt => ?_) (fun hlt => ?_)
    · have hil : i < LS.length := by have : (i : Int) < (((listsG LS fs).length : Nat) : Int) := hlt; omega
      obtain ⟨q, hq⟩ : ∃ q, q = LS[i] := ⟨_, rfl⟩
      have hqm : q ∈ LS := by rw [hq]; exact List.getElem_mem hil
      have gq := gL hil
      rw [← hq] at gq
      have hql := h2 q hqm
      have hqs := h3 q hqm
      have hqt := texts_len q
      have c0 : (0 : Int) ≤ (i : Int) := by omega
      have g3 : clashF T (q ++ (LS.drop (i + 1)).flatten) = clashF [] LS.flatten := by
        rw [← g3, List.drop_eq_getElem_cons hil, List.flatten_cons, hq]
      refine ab 1000 rfl trivial ?_
      refine S_while (α := Nat × List (List UInt8) × Nat) (fun (k, T, u) => [(0, .sl st fl 1 (listsG LS fs)), (3, .ms 0 u 0 T.length 1 false), (4, .ms 1 u 0 T.length 1 false), (5, .int .i64 (i : Nat)), (6, .int .i64 (k : Nat))])
        (fun (k, T, u) => [(u, some (.cells (texts T) ⟨false, none⟩)), (u, some (.cells (texts (T.map sha)) ⟨false, none⟩))]) (fun (k, T, u) => k ≤ q.length ∧ T.length ≤ 2000000 * i + k ∧ clashF T (q.drop k ++ (LS.drop (i + 1)).flatten) = clashF [] LS.flatten) (fun (k, T, u) => q.length - k) (0, T, u)
        ⟨Nat.zero_le _, by omega, g3⟩ (.cons rfl (.cons rfl (.cons rfl (.cons rfl (.cons rfl (.nil _)))))) rfl ?_
      rintro ⟨k, T, u⟩ ⟨f1, f2, f3⟩
      have f1 : k ≤ q.length := f1
      have f2 : T.length ≤ 2000000 * i + k := f2
      have f3 : clashF T (q.drop k ++ (LS.drop (i + 1)).flatten) = clashF [] LS.flatten := f3
      have hTl := texts_len T
      have hDl := texts_len (T.map sha)
      rw [List.length_map] at hDl
      refine ab 1000 rfl trivial ?_
      refine S_index (.sl (fs i).1 (fs i).2 1 (texts q)) rfl rfl rfl ⟨rfl, c0, gq, trivial⟩ ?_
      refine ab 1000 rfl trivial ?_
      refine S_dec rfl (fun hlt => ?_) (fun hlt => ?_)
      · have hkq : k < q.length := by have : (k : Int) < (((texts q).length : Nat) : Int) := hlt; omega
        have c1 : (0 : Int) ≤ (k : Int) := by omega
        obtain ⟨x, hx⟩ : ∃ x, x = q[k] := ⟨_, rfl⟩
        have hxs : x.length ≤ 2000000 := by rw [hx]; exact hqs _ (List.getElem_mem hkq)
        have gk : (texts q)[(k : Int).toNat]? = some (.str x) := by rw [Int.toNat_natCast, hx]; exact texts_get hkq
        rw [List.drop_eq_getElem_cons hkq, ← hx, List.cons_append, clashF] at f3
        refine ab 1000 rfl trivial ?_
        refine S_index (.sl (fs i).1 (fs i).2 1 (texts q)) rfl rfl rfl ⟨rfl, c0, gq, trivial⟩ ?_
        refine ab 1000 rfl trivial ?_
        refine S_index (.str x) rfl rfl rfl ⟨rfl, c1, gk, trivial⟩ ?_
        refine ab 1000 rfl trivial ?_
        refine S_pure rfl rfl rfl (HasText_ok (st := false) (fl := false) T x (by omega)) (.cons (.ms1 rfl (texts_one _) (by rw [texts_len]) (texts_any _)) (.cons (.refl .str) (.nil _))) ?_
        refine ab 1000 rfl trivial ?_
        refine S_cond rfl (fun hb => ?_) (fun hb => ?_)
        · have hb : T.contains x = true := hb
          rw [if_pos hb] at f3
          refine ab 1000 rfl trivial ?_
          exact S_round (k + 1, T, u) (by show q.length - (k + 1) < q.length - k; omega) ⟨hkq, by omega, f3⟩ (.cons rfl (.cons rfl (.cons rfl (.cons rfl (.cons (ai64 rfl (by omega)) (.nil _)))))) rfl
        · have hb : T.contains x = false := hb
          rw [if_neg (by rw [hb]; decide)] at f3
          refine ab 1000 rfl trivial ?_
          refine S_index (.sl (fs i).1 (fs i).2 1 (texts q)) rfl rfl rfl ⟨rfl, c0, gq, trivial⟩ ?_
          refine ab 1000 rfl trivial ?_
          refine S_index (.str x) rfl rfl rfl ⟨rfl, c1, gk, trivial⟩ ?_
          refine ab 1000 rfl trivial ?_
          refine S_pure rfl rfl rfl (SumR_ok x (by omega)) (.cons (.refl .str) (.nil _)) ?_
          refine ab 1000 rfl trivial ?_
          refine S_pure rfl rfl rfl (HasText_ok (st := false) (fl := false) (T.map sha) (sha x) (by rw [List.length_map]; omega)) (.cons (.ms1 rfl (texts_one _) hDl (texts_any _)) (.cons (.refl .str) (.nil _))) ?_
          refine ab 1000 rfl trivial ?_
          refine S_cond rfl (fun hd => ?_) (fun hd => ?_)
          · have hd : (T.map sha).contains (sha x) = true := hd
            rw [if_pos hd] at f3
            refine ab 1000 rfl trivial ?_
            refine S_retc .bool rfl trivial ?_
            rw [← f3]; rfl
          · have hd : (T.map sha).contains (sha x) = false := hd
            rw [if_neg (by rw [hd]; decide)] at f3
            refine ab 1000 rfl trivial ?_
            refine S_index (.sl (fs i).1 (fs i).2 1 (texts q)) rfl rfl rfl ⟨rfl, c0, gq, trivial⟩ ?_
            refine ab 1000 rfl trivial ?_
            refine S_index (.str x) rfl rfl rfl ⟨rfl, c1, gk, trivial⟩ ?_
            refine ab 1000 rfl ⟨?_, ?_, ?_, rfl, rfl, allOne_mem (cs := [.str _]) rfl, allOne_mem (cs := [.str _]) rfl, rfl, ?_, ?_, ?_, rfl, rfl, allOne_mem (cs := [.str _]) rfl, allOne_mem (cs := [.str _]) rfl, rfl, trivial⟩ ?_
            · show T.length + 1 ≤ 9223372036854775807; omega
            · show (T.length + 1) * 16 ≤ 140737488355328; omega
            · show 0 + T.length * 1 = (texts (T.map sha)).length; omega
            · show T.length + 1 ≤ 9223372036854775807; omega
            · show (T.length + 1) * 16 ≤ 140737488355328; omega
            · show 0 + T.length * 1 = (texts T).length; omega
            refine S_round (k + 1, T ++ [x], u + 1) (by show q.length - (k + 1) < q.length - k; omega) ⟨hkq, by rw [List.length_append]; simp only [List.length_cons, List.length_nil]; omega, f3⟩
              (.cons rfl (.cons (by simp; rfl) (.cons (by simp; rfl) (.cons rfl (.cons (ai64 rfl (by omega)) (.nil _)))))) ?_
            show [(u + 1, some (Box.cells (texts T ++ [.str x]) ⟨false, none⟩)), (u + 1, some (Box.cells (texts (T.map sha) ++ [.str (sha x)]) ⟨false, none⟩))] = _
            simp [texts]
      · have hkq : k = q.length := by have : ¬ (k : Int) < (((texts q).length : Nat) : Int) := hlt; omega
        rw [hkq, List.drop_length, List.nil_append] at f3
        refine ab 1000 rfl trivial ?_
        exact S_round (i + 1, T, u) (by show LS.length - (i + 1) < LS.length - i; omega) ⟨hil, by omega, f3⟩ (.cons rfl (.cons rfl (.cons rfl (.cons (ai64 rfl (by omega)) (.nil _))))) rfl
    · have hil : i = LS.length := by have : ¬ (i : Int) < (((listsG LS fs).length : Nat) : Int) := hlt; omega
      have g3 : clashF T (LS.drop i).flatten = clashF [] LS.flatten := g3
      rw [hil, List.drop_length] at g3
      refine ab 1000 rfl trivial ?_
      refine S_retc .bool rfl trivial ?_
      rw [← g3]; rfl
end Go.Proofs.YtfpdfpdlekngfaaDoor
end
section
set_option linter.unusedVariables false
namespace Go.Ab
open Go
section
variable {cx : Cx} {n : Nat} {B : Bs} {k : List AI} {Q : Post} {fr : Fr} {σ : Heap}
theorem S_fill {todo : List AI} {gid gver : Nat} {σ' : Heap} (g' : Tag) (ha : allocH σ (.cells [] g') = (gid, gver, σ'))
    (hT : ∃ c k, todo = .code c :: k ∨ ∃ all l K, todo = .ops all l K :: k) (hk : S cx n B todo Q fr σ') : S cx n B todo Q fr σ := by
  have key : ∀ r w, Inv cx r σ w → Inv cx r σ' w ∧ Ext r σ w r σ' w := by
    intro r w hi
    obtain ⟨ha1, ha2, ha3⟩ := allocH_spec ha
    exact hi.ghost ha1 ha2 ha3
  obtain ⟨c, k, hT⟩ := hT
  rcases hT with rfl | ⟨all, l, K, rfl⟩
  · intro r a w hi hf hd hx
    obtain ⟨q1, q2⟩ := key r w hi
    exact hk r a w q1 (hf.mono (q2.grow hi)) hd (hx.trans q2)
  · intro r a w hi hf hd hx
    obtain ⟨q1, q2⟩ := key r w hi
    exact hk r a w q1 (hf.mono (q2.grow hi)) hd (hx.trans q2)
end
end Go.Ab
end
section
set_option linter.unusedVariables false
set_option linter.unusedSimpArgs false
set_option maxRecDepth 20000
set_option maxHeartbeats 16000000
namespace Go.Proofs.YtfpdfpdlekngfaaDoor
open Go Go.Ab
def deedsA (l : List DE) : List AV := l.map deedA
theorem deedsA_len (l : List DE) : (deedsA l).length = l.length := by simp [deedsA]
def DE.wf (d : DE) : Prop := -9223372036854775808 ≤ d.kind ∧ d.kind ≤ 9223372036854775807
theorem deedsA_bulk (l : List DE) : ∀ d ∈ l, d.text.length ≤ avS (deedsA l) ∧ d.l.length ≤ avS (deedsA l) ∧ ∀ x ∈ d.l, x.length ≤ avS (deedsA l) := fun d hd => by
  have h1 := avS_mem (show deedA d ∈ deedsA l from List.mem_map_of_mem hd)
  have h2 : avB (deedA d) = 0 + (d.text.length + (avS (texts d.l) + (0 + 0))) := rfl
  have h3 := avS_len (texts d.l)
  rw [texts_len] at h3
  refine ⟨by omega, by omega, fun x hx => ?_⟩
  have h4 := avS_mem (show AV.str x ∈ texts d.l from List.mem_map_of_mem hx)
  have h5 : avB (AV.str x) = x.length := rfl
  omega
theorem cmpFnd : cmpOk cx.P 33 = true := by kernel_rfl
structure CB (σ : Heap) (L : CL) (K : KL) (room used : Int) (es : List CI) (ks : List (Nm × Nat)) (n : Nat) : Prop where
  at_ : CAt σ L room used es ks
  kt : KAt σ K room (txOf es) (pnOf es)
  lq : L.q = 1
  kr : K.r = 3
  ok : SOk room used es
  ln : es.length ≤ n
  pn : ∀ e ∈ es, 0 ≤ e.pins ∧ e.pins ≤ (n : Nat)
  dj : ∀ id, OwnC L es id → ¬ OwnK K id
theorem CB.toC {σ σ' : Heap} {L L' : CL} {K : KL} {room used used' : Int} {es es' : List CI} {ks ks' : List (Nm × Nat)} {n : Nat} (h : CB σ L K room used es ks n) (hq : CAt σ' L' room used' es' ks') (hk : QKeep σ σ' (OwnC L es) (OwnC L' es')) :
    KAt σ' K room (txOf es) (pnOf es) ∧ ∀ id, OwnC L' es' id → ¬ OwnK K id := by
  refine ⟨h.kt.mono hq.al fun id ho => hk.same id (h.kt.lt id ho) fun h' => h.dj id h' ho, fun id ho hr => ?_⟩
  rcases hk.new id ho with h' | h'
  · exact h.dj id h' hr
  · have := h.kt.lt id hr; omega
theorem toK {σ σ' : Heap} {L : CL} {K K' : KL} {room used : Int} {es : List CI} {T : List Nm} {P : List Int} {ks : List (Nm × Nat)} (hq : CAt σ L room used es ks) (hd : ∀ id, OwnC L es id → ¬ OwnK K id) (hr : KAt σ' K' room T P) (hk : QKeep σ σ' (OwnK K) (OwnK K')) :
    CAt σ' L room used es ks ∧ ∀ id, OwnC L es id → ¬ OwnK K' id := by
  refine ⟨hq.mono hr.al fun id ho => hk.same id (hq.lt id ho) (hd id ho), fun id ho hr' => ?_⟩
  rcases hk.new id hr' with h' | h'
  · exact hd id ho h'
  · have := hq.lt id ho; omega
theorem CB.app {σ : Heap} {L : CL} {K : KL} {room used : Int} {es : List CI} {ks : List (Nm × Nat)} {n : Nat} (h : CB σ L K room used es ks n) (v : Nat) (x : Box) : CB (σ ++ [(v, some x)]) L K room used es ks n :=
  ⟨h.at_.app v x, h.kt.app v x, h.lq, h.kr, h.ok, h.ln, h.pn, h.dj⟩
theorem CB.up {σ : Heap} {L : CL} {K : KL} {room used : Int} {es : List CI} {ks : List (Nm × Nat)} {n m : Nat} (h : CB σ L K room used es ks n) (hm : n ≤ m) : CB σ L K room used es ks m :=
  ⟨h.at_, h.kt, h.lq, h.kr, h.ok, by have := h.ln; omega, fun e he => by have := h.pn e he; omega, h.dj⟩
theorem pins_use {es : List CI} {n i : Nat} (h : ∀ e ∈ es, 0 ≤ e.pins ∧ e.pins ≤ (n : Nat)) : ∀ e ∈ useC es i, 0 ≤ e.pins ∧ e.pins ≤ (n : Nat) := fun e he => h e ((useC_perm es i).mem_iff.1 he)
def codeN (es : List CI) (d : Nm) : Nat := if isDig d = false then 1 else if (atD es d).isSome = true then 0 else 5
theorem codeN_eq (es : List CI) (d : Nm) : codeD es d = ((codeN es d : Nat) : Int) := by
  unfold codeD codeN
  split
  · rfl
  · split <;> rfl
theorem codeN_none {es : List CI} {d : Nm} (h : atD es d = none) : codeN es d ≠ 0 := by
  unfold codeN
  rw [h]
  split <;> decide
theorem pnOf_set {es : List CI} {i : Nat} (hi : i < es.length) (n : Int) : pnOf (es.set i (pinC es[i] n)) = (pnOf es).set i n := by unfold pnOf; rw [List.map_set]; rfl
theorem txOf_set {es : List CI} {i : Nat} (hi : i < es.length) (n : Int) : txOf (es.set i (pinC es[i] n)) = txOf es := map_set_same hi CI.text (y := pinC es[i] n) rfl
theorem intC_set1 {l : List Int} {i : Nat} (h : i < l.length) (x : Int) : setRange (intC l) (offN 0 (mulN ((i : Int)).toNat 1)) [.int .i64 x] = intC (l.set i x) := by
  rw [offN_eq, mulN_eq, Int.toNat_natCast, Nat.zero_add, Nat.mul_one, setRange_1 (by rw [intC_len]; exact h)]
  unfold intC
  rw [List.map_set]
theorem KAt.pins {σ : Heap} {K : KL} {room : Int} {T : List Nm} {P : List Int} (h : KAt σ K room T P) (P' : List Int) (hl : P'.length = P.length) : KAt (σ.set K.pid (K.pv, some (.cells (intC P') ⟨false, none⟩))) K room T P' := by
  refine ⟨Alive.set h.al _ _ _, ?_, ?_, set_eq h.pb, h.rt, h.rp, h.tp⟩
  · rw [set_ne h.rp, h.rb]
    unfold kpB kpC
    rw [hl]
  · rw [set_ne h.tp]; exact h.tb
theorem CB.app1 {σ : Heap} {L : CL} {K : KL} {room used : Int} {es : List CI} {ks : List (Nm × Nat)} {n : Nat} (h : CB σ L K room used es ks n) {z : Nat × Option Box} (hz : ∃ x, z = (0, some x)) : CB (σ ++ [z]) L K room used es ks n := by
  obtain ⟨x, rfl⟩ := hz
  exact h.app _ _
theorem allocFnd {n : Nat} {fr : Fr} {o : Oper} {H : Heap} {z0 : Nat × Option Box} {p : Nat} (hz : z0 = (0, some (.cells (fndA false 0 0) ⟨false, some 33⟩))) (ho : o.op = .alloc 33) (hal : Alive H) (hp : H.length = p) : OpSpec cx n fr H o (.ptr p 0 0) (H ++ [z0]) := by
  subst hz; subst hp; exact OpSpec.allocE ho rfl rfl rfl hal
theorem storeFnd {n : Nat} {fr : Fr} {o : Oper} {H : Heap} {z0 z1 : Nat × Option Box} {p : Nat} {a x : Operand} {F : List AV} (hz : z0 = (0, some (.cells (fndA false 0 0) ⟨false, some 33⟩))) (hz1 : z1 = (0, some (.cells F ⟨false, some 33⟩))) (ho : o.op = .store 33 a x) (ha : ev cx fr a = .ptr p 0 0) (hx : ev cx fr x = .agg F) (hp : H.length = p) (hF : ∃ t m q, F = fndA t m q := by exact ⟨_, _, _, rfl⟩) : OpSpec cx n fr (H ++ [z0]) o (.tup []) (H ++ [z1]) := by
  obtain ⟨t, m, q, rfl⟩ := hF
  subst hz; subst hz1; subst hp
  exact OpSpec.storeP (id := H.length) (gT := some 33) (cs := fndA false 0 0) (y := .agg (fndA t m q)) ho rfl ha hx rfl rfl app_last (lble rfl) (by rw [List.set_append_right _ _ (Nat.le_refl _), Nat.sub_self]; rfl)
end Go.Proofs.YtfpdfpdlekngfaaDoor
end
section
set_option linter.unusedVariables false
set_option linter.unusedSimpArgs false
set_option maxRecDepth 20000
set_option maxHeartbeats 16000000
namespace Go.Proofs.YtfpdfpdlekngfaaDoor
open Go Go.Ab
theorem CasPlays_ok (room : Int) (l : List DE) (hr : -9223372036854775808 ≤ room ∧ room ≤ 9223372036854775807) (hb : avB (.sl true false 4 (deedsA l)) ≤ 1048576) (hwf : ∀ d ∈ l, d.wf) :
    Calc cx 5 [.int .i64 room, .sl true false 4 (deedsA l)] (.bool true) :=
  pure_intro (fun a w => Tryd.call5 a w) Tryd.func5 rfl Tryd.ntmps5 rfl .bool fun B => by
    have hal0 : Alive ([] : Heap) := fun e he => by cases he
    have hll := deedsA_len l
    have hbk := deedsA_bulk l
    have hlm : l.length ≤ 1048576 := by
      have h1 := avS_len (deedsA l)
      have h2 : avS (deedsA l) ≤ 1048576 := hb
      omega
    have hIN := IsNumber_ok room
    by_cases hrm : 0 ≤ room ∧ room ≤ 9007199254740991
    case neg =>
      have hN := New_bad room hrm
      have hdn : (decide (0 ≤ room) && decide (room ≤ 9007199254740991)) = false := by
        rw [Bool.and_eq_false_iff]
        simp only [decide_eq_false_iff_not]
        omega
      rw [hdn] at hIN
      refine pao [.v (.bool true), .b false, .v (.tup [.nilp, .int .i64 3]), .v (.bool false), .b true, .b true] rfl ?_ ?_
      · (repeat' with_reducible apply AllP_cons) <;> try exact aC
        · exact ⟨[], casBegun_ok, .nil _⟩
        · exact ⟨_, hN, .cons (.refl .int) (.nil _)⟩
        · exact ⟨_, hIN, .cons (.refl .int) (.nil _)⟩
      exact S_retc .bool rfl trivial rfl
    obtain ⟨hr0, hr1⟩ := hrm
    rw [decide_eq_true hr0, decide_eq_true hr1] at hIN
    have hN := New_ok [] room hal0 hr0 hr1
    have h0 := newC_at [] room hal0
    refine pao [.v (.bool true), .b false, .f (.tup [.ptr 1 0 0, .int .i64 0]) (fun s => newC s room), .v (.bool true), .b false, .b false, .b false, .s] rfl ?_ ?_
    · (repeat' with_reducible apply AllP_cons) <;> try exact aC
      · exact ⟨[], casBegun_ok, .nil _⟩
      · exact ⟨_, hIN, .cons (.refl .int) (.nil _)⟩
    refine S_heap (newC [] room) rfl ?_
    refine pao [.f (.ptr 3 0 0) (fun s => s ++ [(0, some (.cells [.int .i64 room, .nils, .nils] ⟨false, some 48⟩))])] rfl ?_ ?_
    · (repeat' with_reducible apply AllP_cons) <;> try exact aC
      · exact OpSpec.boxE (y := .agg [.int .i64 room, .nils, .nils]) rfl rfl rfl rfl h0.al
    refine S_ghost (id := 3) (gid := 4) (gver := 0) (j := 1) (σ' := newC [] room ++ [(0, some (.cells [.int .i64 room, .nils, .nils] ⟨false, some 48⟩)), (0, some (.cells [] ⟨false, none⟩))]) 1 ⟨false, none⟩ rfl rfl rfl (by decide) ⟨_, _, .inl rfl⟩ ?_
    refine S_ghost (id := 3) (gid := 5) (gver := 0) (j := 2) (σ' := newC [] room ++ [(0, some (.cells [.int .i64 room, .ms 4 0 0 0 1 false, .nils] ⟨false, some 48⟩)), (0, some (.cells [] ⟨false, none⟩)), (0, some (.cells [] ⟨false, none⟩))]) 1 ⟨false, none⟩ rfl rfl rfl (by decide) ⟨_, _, .inl rfl⟩ ?_
    refine S_ghostF (t := 8) (gid := 6) (gver := 0) (σ' := newC [] room ++ [(0, some (.cells [.int .i64 room, .ms 4 0 0 0 1 false, .ms 5 0 0 0 1 false] ⟨false, some 48⟩)), (0, some (.cells [] ⟨false, none⟩)), (0, some (.cells [] ⟨false, none⟩)), (0, some (.cells [] ⟨false, none⟩))]) 1 ⟨false, none⟩ rfl rfl ⟨_, _, .inl rfl⟩ ?_
    refine S_while (α := Nat × List Nm) (fun x => [(0, .int .i64 room), (1, .sl true false 4 (deedsA l)), (5, .ptr 1 0 0), (7, .ptr 3 0 0), (8, .ms 6 x.2.length 0 x.2.length 1 false), (9, .int .i64 (x.1 : Nat))])
      (fun x => newC [] room ++ [(0, some (.cells [.int .i64 room, .ms 4 0 0 0 1 false, .ms 5 0 0 0 1 false] ⟨false, some 48⟩)), (0, some (.cells [] ⟨false, none⟩)), (0, some (.cells [] ⟨false, none⟩)), (x.2.length, some (.cells (texts x.2) ⟨false, none⟩))])
      (fun x => x.1 ≤ l.length ∧ x.2.length ≤ x.1 ∧ ∀ s ∈ x.2, s.length ≤ 1048576) (fun x => l.length - x.1) (0, [])
      ⟨Nat.zero_le _, Nat.le_refl _, fun s hs => by cases hs⟩ (.cons rfl (.cons rfl (.cons rfl (.cons rfl (.cons rfl (.cons rfl (.nil _))))))) rfl ?_
    rintro ⟨i, put⟩ ⟨hi, hpl, hps⟩
    simp only at hi hpl hps
    by_cases hlt : i < l.length ∧ i < 40
    · obtain ⟨hlt1, hlt2⟩ := hlt
      have d1 : decide ((i : Int) < (((deedsA l).length : Nat) : Int)) = true := decide_eq_true (by omega)
      have d2 : decide ((i : Int) < 40) = true := decide_eq_true (by omega)
      have hi1 : AV.int .i64 (IntKind.i64.wrap ((i : Int) + 1)) = .int .i64 ((i + 1 : Nat) : Int) := ai64 rfl (by omega)
      obtain ⟨d, hd⟩ : ∃ d, d = l[i] := ⟨_, rfl⟩
      have hdm : d ∈ l := by rw [hd]; exact List.getElem_mem hlt1
      have hdx : (deedsA l)[(i : Int).toNat]? = some (deedA d) := by rw [Int.toNat_natCast, hd]; simp [deedsA, hlt1]
      have hch := choose_ok d.kind 6 (hwf d hdm) (by decide) (by decide)
      generalize chooseN d.kind 6 = kd at *
      have hdt := (hbk d hdm).1
      have hdt : d.text.length ≤ 1048576 := Nat.le_trans hdt hb
      by_cases hk0 : kd = 0
      · have d3 : ((kd : Int) == 0) = true := by rw [hk0]; rfl
        have hpl1 : (put ++ [d.text]).length = put.length + 1 := by simp
        refine pao [.b true, .b true, .v (deedA d), .v (.int .i64 d.kind), .v (.int .i64 (kd : Nat)), .b true, .v (deedA d), .v (.str d.text), .f (.ms 6 (put.length + 1) 0 (put.length + 1) 1 false) (fun _ => newC [] room ++ [(0, some (.cells [.int .i64 room, .ms 4 0 0 0 1 false, .ms 5 0 0 0 1 false] ⟨false, some 48⟩)), (0, some (.cells [] ⟨false, none⟩)), (0, some (.cells [] ⟨false, none⟩)), (put.length + 1, some (.cells (texts (put ++ [d.text])) ⟨false, none⟩))])] rfl ?_ ?_
        · (repeat' with_reducible apply AllP_cons) <;> try exact aC
          · exact OpSpec.loadR rfl rfl rfl rfl rfl
          · exact ⟨_, hch, .cons (.refl .int) (.cons (.refl .int) (.nil _))⟩
          · exact OpSpec.loadR rfl rfl rfl rfl rfl
          · refine OpSpec.appendX (id := 6) (ver := put.length) (off := 0) (len := put.length) (y := .str d.text) (cs := texts put) rfl rfl rfl rfl rfl (fun z hz => by rw [List.mem_singleton.1 (show z ∈ [AV.str d.text] from hz)]; rfl) rfl (by rw [texts_len]; omega) (by show (put.length + 1) * 16 ≤ _; omega) (by omega) ?_
            rw [← texts_snocK]; rfl
        refine S_round (i + 1, put ++ [d.text]) (by show l.length - (i + 1) < l.length - i; omega) ⟨hlt1, by show (put ++ [d.text]).length ≤ i + 1; omega, fun s hs => ?_⟩ (.cons rfl (.cons rfl (.cons rfl (.cons rfl (.cons (by rw [hpl1]; rfl) (.cons hi1 (.nil _))))))) (by rw [hpl1])
        rcases List.mem_append.1 hs with hs | hs
        · exact hps s hs
        · rw [List.mem_singleton.1 hs]; exact hdt
      · have d3 : ((kd : Int) == 0) = false := beq_false_of_ne (by omega)
        refine pao [.b true, .b true, .v (deedA d), .v (.int .i64 d.kind), .v (.int .i64 (kd : Nat)), .b false] rfl ?_ ?_
        · (repeat' with_reducible apply AllP_cons) <;> try exact aC
          · exact OpSpec.loadR rfl rfl rfl rfl rfl
          · exact ⟨_, hch, .cons (.refl .int) (.cons (.refl .int) (.nil _))⟩
        exact S_round (i + 1, put) (by show l.length - (i + 1) < l.length - i; omega) ⟨hlt1, by show put.length ≤ i + 1; omega, hps⟩ (.cons rfl (.cons rfl (.cons rfl (.cons rfl (.cons rfl (.cons hi1 (.nil _))))))) rfl
    refine' S_shareO (ι := Unit) (fun _ => [(0, .int .i64 room), (1, .sl true false 4 (deedsA l)), (5, .ptr 1 0 0), (7, .ptr 3 0 0), (8, .ms 6 put.length 0 put.length 1 false)]) (fun _ => newC [] room ++ [(0, some (.cells [.int .i64 room, .ms 4 0 0 0 1 false, .ms 5 0 0 0 1 false] ⟨false, some 48⟩)), (0, some (.cells [] ⟨false, none⟩)), (0, some (.cells [] ⟨false, none⟩)), (put.length, some (.cells (texts put) ⟨false, none⟩))]) (fun _ => True) ?main0 ?rest0
    case main0 =>
      intro hsh
      by_cases hlt1 : i < l.length
      · have d1 : decide ((i : Int) < (((deedsA l).length : Nat) : Int)) = true := decide_eq_true (by omega)
        have d2 : decide ((i : Int) < 40) = false := decide_eq_false (fun h => hlt ⟨hlt1, by omega⟩)
        refine pao [.b true, .b false, .s] rfl ?_ ?_
        · (repeat' with_reducible apply AllP_cons) <;> try exact aC
        exact hsh () _ trivial (.cons rfl (.cons rfl (.cons rfl (.cons rfl (.cons rfl (.nil _))))))
      · have d1 : decide ((i : Int) < (((deedsA l).length : Nat) : Int)) = false := decide_eq_false (by omega)
        refine pao [.b false, .b false, .s] rfl ?_ ?_
        · (repeat' with_reducible apply AllP_cons) <;> try exact aC
        exact hsh () _ trivial (.cons rfl (.cons rfl (.cons rfl (.cons rfl (.cons rfl (.nil _))))))
    case rest0 =>
      intro _ _
      have hput : boxAt (newC [] room ++ [(0, some (.cells [.int .i64 room, .ms 4 0 0 0 1 false, .ms 5 0 0 0 1 false] ⟨false, some 48⟩)), (0, some (.cells [] ⟨false, none⟩)), (0, some (.cells [] ⟨false, none⟩)), (put.length, some (.cells (texts put) ⟨false, none⟩))]) 6 = some (put.length, texts put, ⟨false, none⟩) := rfl
      refine S_freeze1 (t := 8) (id := 6) (cur := put.length) (len := put.length) (full := false) rfl hput (by rw [texts_len]) (texts_one _) (texts_any _) ⟨.skip, _, .inr ⟨_, _, _, rfl⟩⟩ ?_
      refine S_fill (gid := 6) (gver := put.length + 1) (σ' := newC [] room ++ [(0, some (.cells [.int .i64 room, .ms 4 0 0 0 1 false, .ms 5 0 0 0 1 false] ⟨false, some 48⟩)), (0, some (.cells [] ⟨false, none⟩)), (0, some (.cells [] ⟨false, none⟩)), (put.length + 1, some (.cells [] ⟨false, none⟩))]) ⟨false, none⟩ rfl ⟨.skip, _, .inr ⟨_, _, _, rfl⟩⟩ ?_
      have hCl := ClashG_ok (st := true) (fl := true) (fun _ => (false, false)) [put] (by simp) (by intro q hq; simp at hq; subst hq; omega) (by intro q hq s hs; simp at hq; subst hq; have := hps s hs; omega)
      have hCA : ∀ s : Heap, Frzs s [.sl true true 1 [.sl false false 1 (texts put)]] [.sl true true 1 (listsG [put] (fun _ => (false, false)))] := fun s => by
        refine .cons (.refl (.sl (fun h => by cases h) ?_)) (.nil _)
        intro x hx
        simp at hx
        subst hx
        exact .sl (fun h => by cases h) (texts_any _)
      cases hcl : clashF [] [put].flatten with
      | true =>
        rw [hcl] at hCl
        refine pao [.v (.bool true), .b true] rfl ?_ ?_
        · (repeat' with_reducible apply AllP_cons) <;> try exact aC
          all_goals exact ⟨_, hCl, hCA _⟩
        exact S_ret ⟨_, _, rfl, trivial, _, rfl, .refl .bool⟩
      | false =>
        rw [hcl] at hCl
        refine pao [.v (.bool false), .b false] rfl ?_ ?_
        · (repeat' with_reducible apply AllP_cons) <;> try exact aC
          all_goals exact ⟨_, hCl, hCA _⟩
        have hcb : CB (newC [] room ++ [(0, some (.cells [.int .i64 room, .ms 4 0 0 0 1 false, .ms 5 0 0 0 1 false] ⟨false, some 48⟩)), (0, some (.cells [] ⟨false, none⟩)), (0, some (.cells [] ⟨false, none⟩)), (put.length + 1, some (.cells [] ⟨false, none⟩))]) (newCL []) ⟨3, 4, 5, 0, 0⟩ room 0 [] [] 0 := by
          have e : (newC [] room ++ [((0, some (.cells [.int .i64 room, .ms 4 0 0 0 1 false, .ms 5 0 0 0 1 false] ⟨false, some 48⟩)) : Nat × Option Box), (0, some (.cells [] ⟨false, none⟩)), (0, some (.cells [] ⟨false, none⟩)), (put.length + 1, some (.cells [] ⟨false, none⟩))]) = ((((newC [] room ++ [(0, some (.cells [.int .i64 room, .ms 4 0 0 0 1 false, .ms 5 0 0 0 1 false] ⟨false, some 48⟩))]) ++ [(0, some (.cells [] ⟨false, none⟩))]) ++ [(0, some (.cells [] ⟨false, none⟩))]) ++ [(put.length + 1, some (.cells [] ⟨false, none⟩))]) := by simp
          have hc : CAt (newC [] room ++ [((0, some (.cells [.int .i64 room, .ms 4 0 0 0 1 false, .ms 5 0 0 0 1 false] ⟨false, some 48⟩)) : Nat × Option Box), (0, some (.cells [] ⟨false, none⟩)), (0, some (.cells [] ⟨false, none⟩)), (put.length + 1, some (.cells [] ⟨false, none⟩))]) (newCL []) room 0 [] [] := by
            rw [e]; exact (((h0.app _ _).app _ _).app _ _).app _ _
          refine ⟨hc, ⟨hc.al, rfl, rfl, rfl, by decide, by decide, by decide⟩, rfl, rfl, ⟨rfl, hr0, ⟨by decide, fun e he => by cases he⟩⟩, Nat.le_refl _, (fun e he => by cases he), fun id ho hk => ?_⟩
          have h1 : id = 1 ∨ id = 0 ∨ id = 2 := by
            rcases ownC.1 ho with h | h | h | ⟨e, he, _⟩
            · exact .inl h
            · exact .inr (.inl h)
            · exact .inr (.inr h)
            · cases he
          have h2 : id = 3 ∨ id = 4 ∨ id = 5 := ownK.1 hk
          omega
        refine S_while (α := (Heap × CL × KL × Int × List CI × List (Nm × Nat)) × Nat) (fun x => [(1, .sl true false 4 (deedsA l)), (5, .ptr 1 0 0), (7, .ptr 3 0 0), (10, .int .i64 (x.2 : Nat))]) (fun x => x.1.1)
          (fun x => CB x.1.1 x.1.2.1 x.1.2.2.1 room x.1.2.2.2.1 x.1.2.2.2.2.1 x.1.2.2.2.2.2 x.2 ∧ x.2 ≤ l.length ∧ x.2 ≤ 40) (fun x => l.length - x.2) ((_, _, _, 0, [], []), 0)
          ⟨hcb, Nat.zero_le _, Nat.zero_le _⟩ (.cons rfl (.cons rfl (.cons rfl (.cons rfl (.nil _))))) rfl ?_
        rintro ⟨⟨σ, L, K, used, es, ks⟩, i⟩ ⟨h, hi1, hi2⟩
        simp only at h hi1 hi2
        by_cases hlt1 : i < l.length
        case neg =>
          have d1 : decide ((i : Int) < (((deedsA l).length : Nat) : Int)) = false := decide_eq_false (by omega)
          refine pao [.b false, .b false] rfl ?_ ?_
          · (repeat' with_reducible apply AllP_cons) <;> try exact aC
          exact S_ret ⟨_, _, rfl, trivial, _, rfl, .refl .bool⟩
        have d1 : decide ((i : Int) < (((deedsA l).length : Nat) : Int)) = true := decide_eq_true (by omega)
        by_cases hlt2 : i < 40
        case neg =>
          have d2 : decide ((i : Int) < 40) = false := decide_eq_false (by omega)
          refine pao [.b true, .b false] rfl ?_ ?_
          · (repeat' with_reducible apply AllP_cons) <;> try exact aC
          exact S_ret ⟨_, _, rfl, trivial, _, rfl, .refl .bool⟩
        have d2 : decide ((i : Int) < 40) = true := decide_eq_true (by omega)
        have hi1' : AV.int .i64 (IntKind.i64.wrap ((i : Int) + 1)) = .int .i64 ((i + 1 : Nat) : Int) := ai64 rfl (by omega)
        obtain ⟨d, hd⟩ : ∃ d, d = l[i] := ⟨_, rfl⟩
        have hdm : d ∈ l := by rw [hd]; exact List.getElem_mem hlt1
        have hdx : (deedsA l)[(i : Int).toNat]? = some (deedA d) := by rw [Int.toNat_natCast, hd]; simp [deedsA, hlt1]
        have hch := choose_ok d.kind 6 (hwf d hdm) (by decide) (by decide)
        have hkl := chooseN_lt d.kind (n := 6) (by decide)
        generalize chooseN d.kind 6 = kd at *
        obtain ⟨hdt, hdl, hdls⟩ := hbk d hdm
        have hdt : d.text.length ≤ 1048576 := Nat.le_trans hdt hb
        have hdl : d.l.length ≤ 1048576 := Nat.le_trans hdl hb
        have hdls : ∀ x ∈ d.l, x.length ≤ 1048576 := fun x hx => Nat.le_trans (hdls x hx) hb
        have hSr := SumR_ok d.text (by omega)
        obtain ⟨x, hx⟩ : ∃ x, x = if d.odd = true then d.text else sha d.text := ⟨_, rfl⟩
        have hxl : x.length ≤ 1048576 := by
          rw [hx]
          split
          · exact hdt
          · rw [sha_len]; decide
        have hxl' : x.length ≤ 9223372036854775807 := by omega
        have hesl := h.ln
        have htl := txOf_len es
        have hpnl := pnOf_len es
        refine' S_shareO (ι := Unit) (fun _ => [(1, .sl true false 4 (deedsA l)), (5, .ptr 1 0 0), (7, .ptr 3 0 0), (10, .int .i64 (i : Nat)), (11, .str x), (12, .int .i64 (-1)), (13, .int .i64 5), (104, .str x)]) (fun _ => σ) (fun _ => True) ?main1 ?rest1
        case main1 =>
          intro hsh
          have hodd : d.odd = false ∨ d.odd = true := by cases d.odd <;> simp
          rcases hodd with hod | hod
          · have hxs : x = sha d.text := by rw [hx, hod]; rfl
            rw [hxs] at hsh
            refine pao [.b true, .b true, .v (deedA d), .v (.str d.text), .v (.str (sha d.text)), .v (deedA d), .v (.bool d.odd), .b false] rfl ?_ ?_
            · (repeat' with_reducible apply AllP_cons) <;> try exact aC
              · exact OpSpec.loadR rfl rfl rfl rfl rfl
              · exact ⟨_, hSr, .cons (.refl .str) (.nil _)⟩
              · exact OpSpec.loadR rfl rfl rfl rfl rfl
            exact hsh () _ trivial (.cons rfl (.cons rfl (.cons rfl (.cons rfl (.cons rfl (.cons rfl (.cons rfl (.cons rfl (.nil _)))))))))
          · have hxs : x = d.text := by rw [hx, hod]; rfl
            rw [hxs] at hsh
            refine pao [.b true, .b true, .v (deedA d), .v (.str d.text), .v (.str (sha d.text)), .v (deedA d), .v (.bool d.odd), .b true, .v (deedA d), .v (.str d.text)] rfl ?_ ?_
            · (repeat' with_reducible apply AllP_cons) <;> try exact aC
              · exact OpSpec.loadR rfl rfl rfl rfl rfl
              · exact ⟨_, hSr, .cons (.refl .str) (.nil _)⟩
              · exact OpSpec.loadR rfl rfl rfl rfl rfl
              · exact OpSpec.loadR rfl rfl rfl rfl rfl
            exact hsh () _ trivial (.cons rfl (.cons rfl (.cons rfl (.cons rfl (.cons rfl (.cons rfl (.cons rfl (.cons rfl (.nil _)))))))))
        case rest1 =>
        intro _ _
        have hID := IsDigest_ok x hxl'
        have hAt := KAt_ok σ K room (txOf es) (pnOf es) x h.kt (by rw [txOf_len]; omega) (mem_tx h.ok.bd)
        rw [atK_of, h.kr] at hAt
        have hor : (atD es x = none ∧ codeN es x ≠ 0) ∨ ∃ k, ∃ hk : k < es.length, atD es x = some k := by
          cases ha : atD es x with
          | none => exact .inl ⟨rfl, codeN_none ha⟩
          | some k => exact .inr ⟨k, (atD_some ha).1, rfl⟩
        refine' S_shareO (ι := Int × Nat) (fun p => [(1, .sl true false 4 (deedsA l)), (5, .ptr 1 0 0), (7, .ptr 3 0 0), (10, .int .i64 (i : Nat)), (11, .str x), (12, .int .i64 p.1), (13, .int .i64 (p.2 : Nat)), (112, .sl true false 4 (deedsA l)), (113, .int .i64 (i : Nat))]) (fun _ => σ) (fun p => (atD es x = none ∧ p.1 = -1 ∧ p.2 = codeN es x ∧ p.2 ≠ 0) ∨ ∃ k, ∃ hk : k < es.length, atD es x = some k ∧ p.1 = (k : Int) ∧ p.2 = 0) ?main2 ?rest2
        case main2 =>
          intro hsh
          have hdd : isDig x = false ∨ isDig x = true := by cases isDig x <;> simp
          rcases hdd with hdg | hdg
          · have hc1 : codeN es x = 1 := by unfold codeN; rw [if_pos hdg]
            have hno : atD es x = none := by
              rcases hor with ⟨h', _⟩ | ⟨k, hk, h'⟩
              · exact h'
              · have := (codeD_0 (codeD_of h')).1; rw [hdg] at this; cases this
            rw [hdg] at hID
            refine pao [.v (.bool false), .b true] rfl ?_ ?_
            · (repeat' with_reducible apply AllP_cons) <;> try exact aC
              · exact ⟨_, hID, .cons (.refl .str) (.nil _)⟩
            exact hsh (-1, 1) _ (.inl ⟨hno, rfl, hc1.symm, by decide⟩) (.cons rfl (.cons rfl (.cons rfl (.cons rfl (.cons rfl (.cons rfl (.cons rfl (.cons rfl (.cons rfl (.nil _))))))))))
          · rw [hdg] at hID
            rcases hor with ⟨hno, _⟩ | ⟨k, hk, hat⟩
            · have hc1 : codeN es x = 5 := by unfold codeN; rw [if_neg (by rw [hdg]; simp), hno]; rfl
              rw [hno] at hAt
              have hAt : CallOk cx 20 [.ptr 3 0 0, .str x] σ (fun o v => o = .ret (.int .i64 (-1)) ∧ v = σ) := hAt
              refine pao [.v (.bool true), .b false, .k (.int .i64 (-1)), .b false] rfl ?_ ?_
              · (repeat' with_reducible apply AllP_cons) <;> try exact aC
                · exact ⟨_, hID, .cons (.refl .str) (.nil _)⟩
              exact hsh (-1, 5) _ (.inl ⟨hno, rfl, hc1.symm, by decide⟩) (.cons rfl (.cons rfl (.cons rfl (.cons rfl (.cons rfl (.cons rfl (.cons rfl (.cons rfl (.cons rfl (.nil _))))))))))
            · rw [hat] at hAt
              have hAt : CallOk cx 20 [.ptr 3 0 0, .str x] σ (fun o v => o = .ret (.int .i64 (k : Int)) ∧ v = σ) := hAt
              have d3 : decide ((k : Int) ≥ 0) = true := decide_eq_true (by omega)
              refine pao [.v (.bool true), .b false, .k (.int .i64 (k : Int)), .b true] rfl ?_ ?_
              · (repeat' with_reducible apply AllP_cons) <;> try exact aC
                · exact ⟨_, hID, .cons (.refl .str) (.nil _)⟩
              exact hsh ((k : Int), 0) _ (.inr ⟨k, hk, hat, rfl, rfl⟩) (.cons rfl (.cons rfl (.cons rfl (.cons rfl (.cons rfl (.cons rfl (.cons rfl (.cons rfl (.cons rfl (.nil _))))))))))
        case rest2 =>
        rintro ⟨at_, w⟩ hI
        simp only at hI
        have hrb := h.kt.rb
        rw [h.kr] at hrb
        refine pao [.v (deedA d), .v (.int .i64 d.kind), .v (.int .i64 (kd : Nat))] rfl ?_ ?_
        · (repeat' with_reducible apply AllP_cons) <;> try exact aC
          · exact OpSpec.loadR rfl rfl rfl rfl rfl
          · exact ⟨_, hch, .cons (.refl .int) (.cons (.refl .int) (.nil _))⟩
        refine' S_shareO (ι := Heap × CL × KL × Int × List CI × List (Nm × Nat)) (fun _ => [(1, .sl true false 4 (deedsA l)), (5, .ptr 1 0 0), (7, .ptr 3 0 0), (10, .int .i64 (i : Nat)), (270, .ptr 1 0 0)]) (fun x => x.1) (fun x => CB x.1 x.2.1 x.2.2.1 room x.2.2.2.1 x.2.2.2.2.1 x.2.2.2.2.2 (i + 1)) ?main3 ?rest3
        case main3 =>
          intro hsh
          rcases (by omega : kd = 0 ∨ kd = 1 ∨ kd = 2 ∨ kd = 3 ∨ kd = 4 ∨ kd = 5) with rfl | rfl | rfl | rfl | rfl | rfl
          ·
            refine pao [.b true, .v (deedA d), .v (.str d.text)] rfl ?_ ?_
            · (repeat' with_reducible apply AllP_cons) <;> try exact aC
              · exact OpSpec.loadR rfl rfl rfl rfl rfl
            by_cases hbig : d.text.length > 100000
            · have hP := Put_big σ L room used es ks d.text h.at_ hbig hdt
              rw [h.lq] at hP
              refine S_call rfl rfl rfl hP (fun v u hR => ?_) (fun v s hR => by obtain ⟨hR, _⟩ := hR; cases hR)
              obtain ⟨hR, a, b, rfl⟩ := hR
              cases hR
              have h2 := (h.app 0 a).app 0 b
              have hKP := KPut_big _ K room es d.text h2.kt hbig hdt
              rw [h.kr] at hKP
              refine pao [.v (deedA d), .v (.str d.text), .k (.int .i64 2)] rfl ?_ ?_
              · (repeat' with_reducible apply AllP_cons) <;> try exact aC
                · exact OpSpec.loadR rfl rfl rfl rfl rfl
              have hTI := textIs_ok [] (sha d.text) 2 2
              rw [show ((2 : Nat) == 2 && ([] : List UInt8) == (if (2 : Nat) = 0 then sha d.text else [])) = true by simp] at hTI
              refine pao [.v (deedA d), .v (.str d.text), .v (.str (sha d.text)), .v (.bool true), .b false] rfl ?_ ?_
              · (repeat' with_reducible apply AllP_cons) <;> try exact aC
                · exact OpSpec.loadR rfl rfl rfl rfl rfl
                · exact ⟨_, hSr, .cons (.refl .str) (.nil _)⟩
                · exact ⟨_, hTI, .cons (.refl .str) (.cons (.refl .int) (.cons (.refl .int) (.cons (.refl .str) (.nil _))))⟩
              exact hsh (_, L, K, used, es, ks) _ (h2.up (Nat.le_succ _)) (.cons rfl (.cons rfl (.cons rfl (.cons rfl (.cons rfl (.nil _))))))
            have hor2 : atD es (sha d.text) = none ∨ ∃ k, ∃ hk : k < es.length, atD es (sha d.text) = some k := by
              cases ha : atD es (sha d.text) with
              | none => exact .inl rfl
              | some k => exact .inr ⟨k, (atD_some ha).1, rfl⟩
            rcases hor2 with hat | ⟨k, hk, hat⟩
            · by_cases hfull : ((pinL es : Nat) : Int) + (d.text.length : Nat) > room
              · have hP := Put_full σ L room used es ks d.text h.at_ h.ok.bd (by omega) hat hfull
                rw [h.lq] at hP
                refine S_call rfl rfl rfl hP (fun v u hR => ?_) (fun v s hR => by obtain ⟨hR, _⟩ := hR; cases hR)
                obtain ⟨hR, a, b, rfl⟩ := hR
                cases hR
                have h2 := (h.app 0 a).app 0 b
                have hKP := KPut_full _ K room es d.text h2.kt h.ok.bd (by omega) hat hfull
                rw [h.kr] at hKP
                refine pao [.v (deedA d), .v (.str d.text), .k (.int .i64 2)] rfl ?_ ?_
                · (repeat' with_reducible apply AllP_cons) <;> try exact aC
                  · exact OpSpec.loadR rfl rfl rfl rfl rfl
                have hTI := textIs_ok [] (sha d.text) 2 2
                rw [show ((2 : Nat) == 2 && ([] : List UInt8) == (if (2 : Nat) = 0 then sha d.text else [])) = true by simp] at hTI
                refine pao [.v (deedA d), .v (.str d.text), .v (.str (sha d.text)), .v (.bool true), .b false] rfl ?_ ?_
                · (repeat' with_reducible apply AllP_cons) <;> try exact aC
                  · exact OpSpec.loadR rfl rfl rfl rfl rfl
                  · exact ⟨_, hSr, .cons (.refl .str) (.nil _)⟩
                  · exact ⟨_, hTI, .cons (.refl .str) (.cons (.refl .int) (.cons (.refl .int) (.cons (.refl .str) (.nil _))))⟩
                exact hsh (_, L, K, used, es, ks) _ (h2.up (Nat.le_succ _)) (.cons rfl (.cons rfl (.cons rfl (.cons rfl (.cons rfl (.nil _))))))
              · have hP := Put_new σ L room used es ks d.text h.at_ h.ok.bd h.ok.us (by omega) hat hfull
                rw [h.lq] at hP
                refine S_call rfl rfl rfl hP (fun v u hR => ?_) (fun v s hR => by obtain ⟨hR, _⟩ := hR; cases hR)
                obtain ⟨hR, jid, ks2, hc2, hK2⟩ := hR
                cases hR
                obtain ⟨hkt2, hdj2⟩ := h.toC hc2 hK2
                have hKP := KPut_new u K room es d.text used hkt2 h.ok.bd h.ok.us (by omega) hat hfull jid
                rw [h.kr] at hKP
                have hok2 := h.ok.put (s := d.text) (jid := jid) hdt (by omega) hfull
                have hsub := dropS_sub (room := room) (n := d.text.length) (es := es) (used := used)
                refine pao [.v (deedA d), .v (.str d.text)] rfl ?_ ?_
                · (repeat' with_reducible apply AllP_cons) <;> try exact aC
                  · exact OpSpec.loadR rfl rfl rfl rfl rfl
                refine S_call rfl rfl rfl hKP (fun v u3 hR => ?_) (fun v s hR => by obtain ⟨hR, _⟩ := hR; cases hR)
                obtain ⟨hR, K2, hkt3, hkr3, hK3⟩ := hR
                cases hR
                obtain ⟨hc3, hdj3⟩ := toK hc2 hdj2 hkt3 hK3
                have h4 : CB u3 (bump L) K2 room _ _ ks2 (i + 1) := ⟨hc3, hkt3, h.lq, hkr3, hok2, by rw [List.length_append]; have := hsub.length_le; show _ + 1 ≤ _; omega, fun e he => by
                  rcases List.mem_append.1 he with he | he
                  · have := h.pn e (hsub.subset he); omega
                  · rw [List.mem_singleton.1 he]; exact ⟨Int.le_refl _, by show (0 : Int) ≤ _; omega⟩, hdj3⟩
                have hTI := textIs_ok (sha d.text) (sha d.text) 0 0
                rw [show ((0 : Nat) == 0 && ((sha d.text) : List UInt8) == (if (0 : Nat) = 0 then sha d.text else [])) = true by simp] at hTI
                refine pao [.v (deedA d), .v (.str d.text), .v (.str (sha d.text)), .v (.bool true), .b false] rfl ?_ ?_
                · (repeat' with_reducible apply AllP_cons) <;> try exact aC
                  · exact OpSpec.loadR rfl rfl rfl rfl rfl
                  · exact ⟨_, hSr, .cons (.refl .str) (.nil _)⟩
                  · exact ⟨_, hTI, .cons (.refl .str) (.cons (.refl .int) (.cons (.refl .int) (.cons (.refl .str) (.nil _))))⟩
                exact hsh (_, _, _, _, _, _) _ h4 (.cons rfl (.cons rfl (.cons rfl (.cons rfl (.cons rfl (.nil _))))))
            · have hP := Put_use σ L room used es ks d.text h.at_ h.ok.bd (by omega) hk hat
              rw [h.lq] at hP
              refine S_call rfl rfl rfl hP (fun v u hR => ?_) (fun v s hR => by obtain ⟨hR, _⟩ := hR; cases hR)
              obtain ⟨hR, hc2, hK2⟩ := hR
              cases hR
              obtain ⟨hkt2, hdj2⟩ := h.toC hc2 hK2
              have hKP := KPut_use u K room es d.text hkt2 h.ok.bd (by omega) hk hat
              rw [h.kr] at hKP
              refine pao [.v (deedA d), .v (.str d.text)] rfl ?_ ?_
              · (repeat' with_reducible apply AllP_cons) <;> try exact aC
                · exact OpSpec.loadR rfl rfl rfl rfl rfl
              refine S_call rfl rfl rfl hKP (fun v u3 hR => ?_) (fun v s hR => by obtain ⟨hR, _⟩ := hR; cases hR)
              obtain ⟨hR, K2, hkt3, hkr3, hK3⟩ := hR
              cases hR
              obtain ⟨hc3, hdj3⟩ := toK hc2 hdj2 hkt3 hK3
              have h4 : CB u3 (bump L) K2 room used (useC es k) ks (i + 1) := ⟨hc3, hkt3, h.lq, hkr3, h.ok.use k, by rw [(useC_perm es k).length_eq]; omega, fun e he => by have := pins_use h.pn e he; omega, hdj3⟩
              have hTI := textIs_ok (sha d.text) (sha d.text) 0 0
              rw [show ((0 : Nat) == 0 && ((sha d.text) : List UInt8) == (if (0 : Nat) = 0 then sha d.text else [])) = true by simp] at hTI
              refine pao [.v (deedA d), .v (.str d.text), .v (.str (sha d.text)), .v (.bool true), .b false] rfl ?_ ?_
              · (repeat' with_reducible apply AllP_cons) <;> try exact aC
                · exact OpSpec.loadR rfl rfl rfl rfl rfl
                · exact ⟨_, hSr, .cons (.refl .str) (.nil _)⟩
                · exact ⟨_, hTI, .cons (.refl .str) (.cons (.refl .int) (.cons (.refl .int) (.cons (.refl .str) (.nil _))))⟩
              exact hsh (_, _, _, _, _, _) _ h4 (.cons rfl (.cons rfl (.cons rfl (.cons rfl (.cons rfl (.nil _))))))
          ·
            rcases hI with ⟨ha, rfl, hw, hw0⟩ | ⟨k, hk, ha, rfl, rfl⟩
            · have hcd : codeD es x ≠ 0 := by rw [codeN_eq, ← hw]; omega
              have hG := Get_no σ L room used es ks x h.at_ hxl' hcd
              rw [h.lq, codeN_eq, ← hw] at hG
              have hTI := textIs_ok [] [] w w
              rw [show (w == w && ([] : List UInt8) == (if w = 0 then [] else [])) = true by simp] at hTI
              refine pao [.b false, .b true, .k (.tup [.str [], .int .i64 (w : Nat)]), .b false, .v (.bool true), .b false] rfl ?_ ?_
              · (repeat' with_reducible apply AllP_cons) <;> try exact aC
                · exact ⟨_, hTI, .cons (.refl .str) (.cons (.refl .int) (.cons (.refl .int) (.cons (.refl .str) (.nil _))))⟩
              exact hsh (σ, L, K, used, es, ks) _ (h.up (Nat.le_succ _)) (.cons rfl (.cons rfl (.cons rfl (.cons rfl (.cons rfl (.nil _))))))
            · have hG := Get_ok σ L room used es ks x h.at_ hxl' hk ha (by omega)
              rw [h.lq] at hG
              have d3 : decide ((k : Int) ≥ 0) = true := decide_eq_true (by omega)
              refine pao [.b false, .b true] rfl ?_ ?_
              · (repeat' with_reducible apply AllP_cons) <;> try exact aC
              refine S_call rfl rfl rfl hG (fun v u hR => ?_) (fun v s hR => by obtain ⟨hR, _⟩ := hR; cases hR)
              obtain ⟨hR, hc2, hK2⟩ := hR
              cases hR
              obtain ⟨hkt2, hdj2⟩ := h.toC hc2 hK2
              have hld := txC_f (l := txOf es) (k := k) (by omega)
              rw [txOf_at hk] at hld
              have hrb2 := hkt2.rb
              rw [h.kr] at hrb2
              have hU := Use_ok u K room es hkt2 hk (by have := h.ok.bd.ln; omega)
              rw [h.kr] at hU
              refine pao [.b true, .v (.ms K.tid K.tv 0 (txOf es).length 1 false), .v .top, .v (.str es[k].text)] rfl ?_ ?_
              · (repeat' with_reducible apply AllP_cons) <;> try exact aC
                all_goals first | exact OpSpec.loadP rfl rfl rfl rfl hrb2 rfl | exact OpSpec.loadE rfl rfl rfl rfl hkt2.tb hld | (show (k : Int) < (((txOf es).length : Nat) : Int); omega)
              refine S_call rfl rfl rfl hU (fun v u3 hR => ?_) (fun v s hR => by obtain ⟨hR, _⟩ := hR; cases hR)
              obtain ⟨hR, K2, hkt3, hkr3, hK3⟩ := hR
              cases hR
              obtain ⟨hc3, hdj3⟩ := toK hc2 hdj2 hkt3 hK3
              have h4 : CB u3 (bump L) K2 room used (useC es k) ks (i + 1) := ⟨hc3, hkt3, h.lq, hkr3, h.ok.use k, by rw [(useC_perm es k).length_eq]; omega, fun e he => by have := pins_use h.pn e he; omega, hdj3⟩
              have hTI := textIs_ok es[k].text es[k].text 0 0
              rw [show ((0 : Nat) == 0 && es[k].text == (if (0 : Nat) = 0 then es[k].text else [])) = true by simp] at hTI
              refine pao [.v (.bool true), .b false] rfl ?_ ?_
              · (repeat' with_reducible apply AllP_cons) <;> try exact aC
                · exact ⟨_, hTI, .cons (.refl .str) (.cons (.refl .int) (.cons (.refl .int) (.cons (.refl .str) (.nil _))))⟩
              exact hsh (_, _, _, _, _, _) _ h4 (.cons rfl (.cons rfl (.cons rfl (.cons rfl (.cons rfl (.nil _))))))
          ·
            rcases hI with ⟨ha, rfl, hw, hw0⟩ | ⟨k, hk, ha, rfl, rfl⟩
            · have hcd : codeD es x ≠ 0 := by rw [codeN_eq, ← hw]; omega
              have hG := Pin_no σ L room used es ks x h.at_ hxl' hcd
              rw [h.lq, codeN_eq, ← hw] at hG
              have d4 : ((w : Int) != (w : Int)) = false := by simp
              refine pao [.b false, .b false, .b true, .k (.int .i64 (w : Nat)), .b false, .b false] rfl ?_ ?_
              · (repeat' with_reducible apply AllP_cons) <;> try exact aC
              exact hsh (σ, L, K, used, es, ks) _ (h.up (Nat.le_succ _)) (.cons rfl (.cons rfl (.cons rfl (.cons rfl (.cons rfl (.nil _))))))
            · have hpk := h.pn _ (List.getElem_mem hk)
              have hG := Pin_ok σ L room used es ks x h.at_ hxl' hk ha ⟨hpk.1, by omega⟩
              rw [h.lq] at hG
              have d3 : decide ((k : Int) ≥ 0) = true := decide_eq_true (by omega)
              refine pao [.b false, .b false, .b true] rfl ?_ ?_
              · (repeat' with_reducible apply AllP_cons) <;> try exact aC
              refine S_call rfl rfl rfl hG (fun v u hR => ?_) (fun v s hR => by obtain ⟨hR, _⟩ := hR; cases hR)
              obtain ⟨hR, hc2, hK2⟩ := hR
              cases hR
              obtain ⟨hkt2, hdj2⟩ := h.toC hc2 hK2
              have hpd := intC_at (l := pnOf es) (i := k) (by omega)
              rw [pnOf_at hk] at hpd
              have hrb2 := hkt2.rb
              rw [h.kr] at hrb2
              obtain ⟨Pb, hPb⟩ : ∃ Pb : Nat × Option Box, Pb = (K.pv, some (.cells (intC ((pnOf es).set k (es[k].pins + 1))) ⟨false, none⟩)) := ⟨_, rfl⟩
              have hkt3 := hkt2.pins ((pnOf es).set k (es[k].pins + 1)) (List.length_set ..)
              rw [← hPb] at hkt3
              have hnp : ¬ OwnC L (es.set k (pinC es[k] (es[k].pins + 1))) K.pid := fun ho => hdj2 _ ho (ownK.2 (.inr (.inr rfl)))
              have hc3 : CAt (u.set K.pid Pb) L room used (es.set k (pinC es[k] (es[k].pins + 1))) ks := hc2.mono hkt3.al fun id ho => set_ne fun e => hnp (e ▸ ho)
              have h4 : CB (u.set K.pid Pb) L K room used (es.set k (pinC es[k] (es[k].pins + 1))) ks (i + 1) := ⟨hc3, by rw [txOf_set hk, pnOf_set hk]; exact hkt3, h.lq, h.kr, h.ok.pin hk _, by rw [List.length_set]; omega, fun e he => by
                rcases List.mem_or_eq_of_mem_set he with he | rfl
                · have := h.pn e he; omega
                · exact ⟨by show (0 : Int) ≤ es[k].pins + 1; omega, by show es[k].pins + 1 ≤ _; omega⟩, hdj2⟩
              have hw1 : IntKind.i64.wrap (es[k].pins + 1) = es[k].pins + 1 := IntWalk.i64_in _ ⟨by omega, by omega⟩
              refine pao [.b false, .b true, .v (.ms K.pid K.pv 0 (pnOf es).length 1 false), .v .top, .v (.int .i64 es[k].pins), .v .top, .f (.tup []) (fun s => s.set K.pid Pb)] rfl ?_ ?_
              · (repeat' with_reducible apply AllP_cons) <;> try exact aC
                all_goals first | exact OpSpec.loadP rfl rfl rfl rfl hrb2 rfl | exact OpSpec.loadE rfl rfl rfl rfl hkt2.pb hpd | (show (k : Int) < (((pnOf es).length : Nat) : Int); omega) | skip
                all_goals
                  refine OpSpec.storeX (id := K.pid) (off := offN 0 (mulN ((k : Int)).toNat 1)) (cs := intC (pnOf es)) (y := .int .i64 (es[k].pins + 1)) rfl rfl rfl ?_ rfl rfl hkt2.pb (show offN 0 (mulN ((k : Int)).toNat 1) + 1 ≤ (intC (pnOf es)).length by rw [offN_eq, mulN_eq, Int.toNat_natCast, intC_len]; omega) ?_
                  · show AV.int .i64 (IntKind.i64.wrap (es[k].pins + 1)) = _
                    rw [hw1]
                  · rw [hPb, ← intC_set1 (l := pnOf es) (i := k) (by omega)]; rfl
              exact hsh (_, _, _, _, _, _) _ h4 (.cons rfl (.cons rfl (.cons rfl (.cons rfl (.cons rfl (.nil _))))))
          ·
            rcases hI with ⟨ha, rfl, hw, hw0⟩ | ⟨k, hk, ha, rfl, rfl⟩
            · have hcd : codeD es x ≠ 0 := by rw [codeN_eq, ← hw]; omega
              have hG := Unpin_no σ L room used es ks x h.at_ hxl' hcd
              rw [h.lq, codeN_eq, ← hw] at hG
              have d4 : ((w : Int) != (w : Int)) = false := by simp
              have d5 : ((w : Int) == 0) = false := beq_false_of_ne (by omega)
              refine pao [.b false, .b false, .b false, .b true, .b false, .b false, .k (.int .i64 (w : Nat)), .b false, .b false] rfl ?_ ?_
              · (repeat' with_reducible apply AllP_cons) <;> try exact aC
              exact hsh (σ, L, K, used, es, ks) _ (h.up (Nat.le_succ _)) (.cons rfl (.cons rfl (.cons rfl (.cons rfl (.cons rfl (.nil _))))))
            · have hpk := h.pn _ (List.getElem_mem hk)
              have d3 : decide ((k : Int) ≥ 0) = true := decide_eq_true (by omega)
              have hpd0 := intC_at (l := pnOf es) (i := k) (by omega)
              rw [pnOf_at hk] at hpd0
              by_cases hp0 : es[k].pins = 0
              · have hG := Unpin_0 σ L room used es ks x h.at_ hxl' hk ha hp0
                rw [h.lq] at hG
                have d6 : (es[k].pins == 0) = true := by simp [hp0]
                refine pao [.b false, .b false, .b false, .b true, .b true, .v (.ms K.pid K.pv 0 (pnOf es).length 1 false), .v .top, .v (.int .i64 es[k].pins), .b true, .k (.int .i64 4), .b false, .b false] rfl ?_ ?_
                · (repeat' with_reducible apply AllP_cons) <;> try exact aC
                  all_goals first | exact OpSpec.loadP rfl rfl rfl rfl hrb rfl | exact OpSpec.loadE rfl rfl rfl rfl h.kt.pb hpd0 | (show (k : Int) < (((pnOf es).length : Nat) : Int); omega)
                exact hsh (σ, L, K, used, es, ks) _ (h.up (Nat.le_succ _)) (.cons rfl (.cons rfl (.cons rfl (.cons rfl (.cons rfl (.nil _))))))
              have hG := Unpin_ok σ L room used es ks x h.at_ hxl' hk ha ⟨by omega, by omega⟩
              rw [h.lq] at hG
              have d6 : (es[k].pins == 0) = false := beq_false_of_ne hp0
              refine pao [.b false, .b false, .b false, .b true, .b true, .v (.ms K.pid K.pv 0 (pnOf es).length 1 false), .v .top, .v (.int .i64 es[k].pins), .b false] rfl ?_ ?_
              · (repeat' with_reducible apply AllP_cons) <;> try exact aC
                all_goals first | exact OpSpec.loadP rfl rfl rfl rfl hrb rfl | exact OpSpec.loadE rfl rfl rfl rfl h.kt.pb hpd0 | (show (k : Int) < (((pnOf es).length : Nat) : Int); omega)
              refine S_call rfl rfl rfl hG (fun v u hR => ?_) (fun v s hR => by obtain ⟨hR, _⟩ := hR; cases hR)
              obtain ⟨hR, hc2, hK2⟩ := hR
              cases hR
              obtain ⟨hkt2, hdj2⟩ := h.toC hc2 hK2
              have hpd := intC_at (l := pnOf es) (i := k) (by omega)
              rw [pnOf_at hk] at hpd
              have hrb2 := hkt2.rb
              rw [h.kr] at hrb2
              obtain ⟨Pb, hPb⟩ : ∃ Pb : Nat × Option Box, Pb = (K.pv, some (.cells (intC ((pnOf es).set k (es[k].pins - 1))) ⟨false, none⟩)) := ⟨_, rfl⟩
              have hkt3 := hkt2.pins ((pnOf es).set k (es[k].pins - 1)) (List.length_set ..)
              rw [← hPb] at hkt3
              have hnp : ¬ OwnC L (es.set k (pinC es[k] (es[k].pins - 1))) K.pid := fun ho => hdj2 _ ho (ownK.2 (.inr (.inr rfl)))
              have hc3 : CAt (u.set K.pid Pb) L room used (es.set k (pinC es[k] (es[k].pins - 1))) ks := hc2.mono hkt3.al fun id ho => set_ne fun e => hnp (e ▸ ho)
              have h4 : CB (u.set K.pid Pb) L K room used (es.set k (pinC es[k] (es[k].pins - 1))) ks (i + 1) := ⟨hc3, by rw [txOf_set hk, pnOf_set hk]; exact hkt3, h.lq, h.kr, h.ok.pin hk _, by rw [List.length_set]; omega, fun e he => by
                rcases List.mem_or_eq_of_mem_set he with he | rfl
                · have := h.pn e he; omega
                · exact ⟨by show (0 : Int) ≤ es[k].pins - 1; omega, by show es[k].pins - 1 ≤ _; omega⟩, hdj2⟩
              have hw1 : IntKind.i64.wrap (es[k].pins - 1) = es[k].pins - 1 := IntWalk.i64_in _ ⟨by omega, by omega⟩
              refine pao [.b false, .b true, .v (.ms K.pid K.pv 0 (pnOf es).length 1 false), .v .top, .v (.int .i64 es[k].pins), .v .top, .f (.tup []) (fun s => s.set K.pid Pb)] rfl ?_ ?_
              · (repeat' with_reducible apply AllP_cons) <;> try exact aC
                all_goals first | exact OpSpec.loadP rfl rfl rfl rfl hrb2 rfl | exact OpSpec.loadE rfl rfl rfl rfl hkt2.pb hpd | (show (k : Int) < (((pnOf es).length : Nat) : Int); omega) | skip
                all_goals
                  refine OpSpec.storeX (id := K.pid) (off := offN 0 (mulN ((k : Int)).toNat 1)) (cs := intC (pnOf es)) (y := .int .i64 (es[k].pins - 1)) rfl rfl rfl ?_ rfl rfl hkt2.pb (show offN 0 (mulN ((k : Int)).toNat 1) + 1 ≤ (intC (pnOf es)).length by rw [offN_eq, mulN_eq, Int.toNat_natCast, intC_len]; omega) ?_
                  · show AV.int .i64 (IntKind.i64.wrap (es[k].pins - 1)) = _
                    rw [hw1]
                  · rw [hPb, ← intC_set1 (l := pnOf es) (i := k) (by omega)]; rfl
              exact hsh (_, _, _, _, _, _) _ h4 (.cons rfl (.cons rfl (.cons rfl (.cons rfl (.cons rfl (.nil _))))))
          ·
            obtain ⟨z0, hz0⟩ : ∃ z0 : Nat × Option Box, z0 = (0, some (.cells (fndA false 0 0) ⟨false, some 33⟩)) := ⟨_, rfl⟩
            rcases hI with ⟨ha, rfl, hw, hw0⟩ | ⟨k, hk, ha, rfl, rfl⟩
            · have hcd : codeD es x ≠ 0 := by rw [codeN_eq, ← hw]; omega
              have hG := Find_no σ L room used es ks x h.at_ hxl' hcd
              have hcf : codeF es x = if w = 5 then 0 else (w : Int) := by
                unfold codeF
                rw [codeN_eq, ← hw]
                by_cases h5 : w = 5
                · rw [if_pos (by omega), if_pos h5]
                · rw [if_neg (by omega), if_neg h5]
              rw [h.lq, hcf] at hG
              refine pao [.b false, .b false, .b false, .b false, .b true] rfl ?_ ?_
              · (repeat' with_reducible apply AllP_cons) <;> try exact aC
              refine S_call rfl rfl rfl hG (fun v u hR => ?_) (fun v s hR => by obtain ⟨hR, _⟩ := hR; cases hR)
              obtain ⟨hR, b, hu⟩ := hR
              cases hR
              have h2 : CB u L K room used es ks i := by rw [hu]; exact h.app _ _
              have h3 : CB (u ++ [z0]) L K room used es ks i := h2.app1 ⟨_, hz0⟩
              have h4 : CB ((u ++ [z0]) ++ [z0]) L K room used es ks i := h3.app1 ⟨_, hz0⟩
              have l2 : (u ++ [z0]).length = u.length + 1 := by simp
              have hx2 : ((u ++ [z0]) ++ [z0])[u.length + 1]? = some (0, some (.cells (fndA false 0 0) ⟨false, some 33⟩)) := by rw [← l2, app_last, hz0]
              have hx3 : ((u ++ [z0]) ++ [z0])[u.length]? = some (0, some (.cells (fndA false 0 0) ⟨false, some 33⟩)) := app_get (by rw [app_last, hz0])
              have fin : ∀ (c : Int), ((c != c) = false) := fun c => by simp
              by_cases h5 : w = 5
              · have d5 : ((w : Int) == 5) = true := by rw [h5]; rfl
                rw [if_pos h5]
                refine pao [.f (.ptr u.length 0 0) (fun s => s ++ [z0]), .f (.tup []) (fun s => s), .f (.ptr (u.length + 1) 0 0) (fun s => s ++ [z0]), .f (.tup []) (fun s => s), .b false, .b true, .b false, .v (.agg (fndA false 0 0)), .v (.agg (fndA false 0 0)), .b false] rfl ?_ ?_
                · (repeat' with_reducible apply AllP_cons) <;> try exact aC
                  · exact allocFnd hz0 rfl h2.at_.al rfl
                  · exact storeFnd hz0 hz0 rfl rfl rfl rfl
                  · exact allocFnd hz0 rfl h3.at_.al l2
                  · exact storeFnd hz0 hz0 rfl rfl rfl l2
                  all_goals first | exact OpSpec.loadPA (cs := fndA false 0 0) rfl rfl rfl rfl hx3 (lble rfl) rfl | exact OpSpec.loadPA (cs := fndA false 0 0) rfl rfl rfl rfl hx2 (lble rfl) rfl | exact cmpFnd | rfl | trace_state
                exact hsh (_, _, _, _, _, _) _ (h4.up (Nat.le_succ _)) (.cons rfl (.cons rfl (.cons rfl (.cons rfl (.cons rfl (.nil _))))))
              · have d5 : ((w : Int) == 5) = false := beq_false_of_ne (by omega)
                rw [if_neg h5]
                have d6 := fin (w : Int)
                refine pao [.f (.ptr u.length 0 0) (fun s => s ++ [z0]), .f (.tup []) (fun s => s), .f (.ptr (u.length + 1) 0 0) (fun s => s ++ [z0]), .f (.tup []) (fun s => s), .b false, .b false, .b false, .v (.agg (fndA false 0 0)), .v (.agg (fndA false 0 0)), .b false] rfl ?_ ?_
                · (repeat' with_reducible apply AllP_cons) <;> try exact aC
                  · exact allocFnd hz0 rfl h2.at_.al rfl
                  · exact storeFnd hz0 hz0 rfl rfl rfl rfl
                  · exact allocFnd hz0 rfl h3.at_.al l2
                  · exact storeFnd hz0 hz0 rfl rfl rfl l2
                  all_goals first | exact OpSpec.loadPA (cs := fndA false 0 0) rfl rfl rfl rfl hx3 (lble rfl) rfl | exact OpSpec.loadPA (cs := fndA false 0 0) rfl rfl rfl rfl hx2 (lble rfl) rfl | exact cmpFnd | rfl | trace_state
                exact hsh (_, _, _, _, _, _) _ (h4.up (Nat.le_succ _)) (.cons rfl (.cons rfl (.cons rfl (.cons rfl (.cons rfl (.nil _))))))
            · have hG := Find_ok σ L room used es ks x h.at_ hxl' hk ha
              rw [h.lq] at hG
              have d3 : decide ((k : Int) ≥ 0) = true := decide_eq_true (by omega)
              refine pao [.b false, .b false, .b false, .b false, .b true] rfl ?_ ?_
              · (repeat' with_reducible apply AllP_cons) <;> try exact aC
              refine S_call rfl rfl rfl hG (fun v u hR => ?_) (fun v s hR => by obtain ⟨hR, _⟩ := hR; cases hR)
              obtain ⟨hR, b, hu⟩ := hR
              cases hR
              obtain ⟨z1, hz1⟩ : ∃ z1 : Nat × Option Box, z1 = (0, some (.cells (fndA true es[k].text.length es[k].pins) ⟨false, some 33⟩)) := ⟨_, rfl⟩
              have h2 : CB u L K room used es ks i := by rw [hu]; exact h.app _ _
              have h3 : CB (u ++ [z1]) L K room used es ks i := h2.app1 ⟨_, hz1⟩
              have h4 : CB ((u ++ [z1]) ++ [z0]) L K room used es ks i := h3.app1 ⟨_, hz0⟩
              have h5 : CB ((u ++ [z1]) ++ [z1]) L K room used es ks i := h3.app1 ⟨_, hz1⟩
              have l2 : (u ++ [z1]).length = u.length + 1 := by simp
              have hx2 : ((u ++ [z1]) ++ [z1])[u.length + 1]? = some (0, some (.cells (fndA true es[k].text.length es[k].pins) ⟨false, some 33⟩)) := by rw [← l2, app_last, hz1]
              have hx3 : ((u ++ [z1]) ++ [z1])[u.length]? = some (0, some (.cells (fndA true es[k].text.length es[k].pins) ⟨false, some 33⟩)) := app_get (by rw [app_last, hz1])
              have hpd := intC_at (l := pnOf es) (i := k) (by omega)
              rw [pnOf_at hk] at hpd
              have hld := txC_f (l := txOf es) (k := k) (by omega)
              rw [txOf_at hk] at hld
              have hrb4 := h4.kt.rb
              rw [h.kr] at hrb4
              have c1 : decide ((k : Int) < (((txOf es).length : Nat) : Int)) = true := decide_eq_true (by omega)
              have c2 : decide ((k : Int) < (((pnOf es).length : Nat) : Int)) = true := decide_eq_true (by omega)
              refine pao [.f (.ptr u.length 0 0) (fun s => s ++ [z0]), .f (.tup []) (fun _ => u ++ [z1]), .f (.ptr (u.length + 1) 0 0) (fun s => s ++ [z0]), .f (.tup []) (fun s => s), .b true] rfl ?_ ?_
              · (repeat' with_reducible apply AllP_cons) <;> try exact aC
                · exact allocFnd hz0 rfl h2.at_.al rfl
                · exact storeFnd hz0 hz1 rfl rfl rfl rfl ⟨_, _, _, rfl⟩
                · exact allocFnd hz0 rfl h3.at_.al l2
                · exact storeFnd hz0 hz0 rfl rfl rfl l2
              refine S_heap ((u ++ [z1]) ++ [z0]) rfl ?_
              refine S_drawO 16 [.ms K.tid K.tv 0 (txOf es).length 1 false, .top, .str es[k].text, .ms K.pid K.pv 0 (pnOf es).length 1 false, .top, .int .i64 es[k].pins] rfl rfl rfl rfl ?_ ?_
              · (repeat' with_reducible apply AllP_cons) <;> try exact aC
                all_goals first | exact OpSpec.loadP rfl rfl rfl rfl hrb4 rfl | exact OpSpec.loadE rfl rfl rfl rfl h4.kt.tb hld | exact OpSpec.loadE rfl rfl rfl rfl h4.kt.pb hpd | (show (k : Int) < (((txOf es).length : Nat) : Int); omega) | (show (k : Int) < (((pnOf es).length : Nat) : Int); omega) | trace_state
              refine pao [.f (.tup []) (fun _ => (u ++ [z1]) ++ [z1]), .b false, .b false, .v (.agg (fndA true es[k].text.length es[k].pins)), .v (.agg (fndA true es[k].text.length es[k].pins)), .b false] rfl ?_ ?_
              · (repeat' with_reducible apply AllP_cons) <;> try exact aC
                all_goals first | exact storeFnd hz0 hz1 rfl rfl rfl l2 ⟨_, _, _, rfl⟩ | exact OpSpec.loadPA (cs := fndA true es[k].text.length es[k].pins) rfl rfl rfl rfl hx3 (lble rfl) rfl | exact OpSpec.loadPA (cs := fndA true es[k].text.length es[k].pins) rfl rfl rfl rfl hx2 (lble rfl) rfl | exact cmpFnd | simp | trace_state
              exact hsh (_, _, _, _, _, _) _ (h5.up (Nat.le_succ _)) (.cons rfl (.cons rfl (.cons rfl (.cons rfl (.cons rfl (.nil _))))))
          ·
            have hM := missing_ok σ L K room used es ks d h.at_ h.kt h.ok.bd hdl hdls
            rw [h.lq, h.kr] at hM
            refine pao [.b false, .b false, .b false, .b false, .b false, .b true, .v (deedA d), .v (deedA d)] rfl ?_ ?_
            · (repeat' with_reducible apply AllP_cons) <;> try exact aC
              all_goals exact OpSpec.loadRA rfl rfl rfl rfl (lble rfl) rfl
            refine S_call rfl rfl rfl hM (fun v u hR => ?_) (fun v s hR => by obtain ⟨hR, _⟩ := hR; cases hR)
            obtain ⟨hR, hc2, hk2, hlen, hsm⟩ := hR
            cases hR
            have h4 : CB u L K room used es ks (i + 1) := ⟨hc2, hk2, h.lq, h.kr, h.ok, by omega, fun e he => by have := h.pn e he; omega, h.dj⟩
            refine pao [.b false] rfl ?_ ?_
            · (repeat' with_reducible apply AllP_cons) <;> try exact aC
            exact hsh (_, _, _, _, _, _) _ h4 (.cons rfl (.cons rfl (.cons rfl (.cons rfl (.cons rfl (.nil _))))))
        case rest3 =>
          rintro ⟨u, L3, K3, used3, es3, ks3⟩ h3
          simp only at h3
          have hRm := Room_ok u L3 room used3 es3 ks3 h3.at_
          rw [h3.lq] at hRm
          have hUs := Used_ok u K3 room es3 false h3.kt h3.ok.bd
          rw [h3.kr] at hUs
          have huf : usedK es3 false = lenC es3 := rfl
          rw [huf] at hUs
          have hus := h3.ok.us
          have hrb3 := h3.kt.rb
          rw [h3.kr] at hrb3
          have d3 : (used3 != ((lenC es3 : Nat) : Int)) = false := by rw [hus]; simp
          have d4 : ((es3.length : Int) != (((txOf es3).length : Nat) : Int)) = false := by rw [txOf_len]; simp
          refine pao [.k (.tup [.int .i64 used3, .int .i64 (es3.length : Nat)]), .k (.int .i64 (lenC es3 : Nat)), .b false, .v (.ms K3.tid K3.tv 0 (txOf es3).length 1 false), .b false] rfl ?_ ?_
          · (repeat' with_reducible apply AllP_cons) <;> try exact aC
            · exact OpSpec.loadP rfl rfl rfl rfl hrb3 rfl
          exact S_round ((u, L3, K3, used3, es3, ks3), i + 1) (by show l.length - (i + 1) < l.length - i; omega) ⟨h3, hlt1, hlt2⟩ (.cons rfl (.cons rfl (.cons rfl (.cons hi1' (.nil _))))) rfl
end Go.Proofs.YtfpdfpdlekngfaaDoor
end
section
set_option linter.unusedVariables false
set_option linter.unusedSimpArgs false
set_option maxRecDepth 20000
namespace Go.Proofs.YtfpdfpdlekngfaaDoor
open Go Go.Ab
theorem open_l {H : Type} {d : DataW H} {a : AV} (h : RdD Tryd.prog 28 d a) : ∃ l : List (List UInt8), a = .sl true false 1 (texts l) := by
  obtain ⟨ds, xs, rfl, hl, hm, hall, _⟩ := h.inv_sl Tryd.underlying28
  obtain ⟨ys, rfl, hy, hg⟩ := RdD.each AV.str (fun _ _ => True) hl hall (fun d x h => by
    obtain ⟨s, _, rfl, _⟩ := h.inv_str Tryd.underlying9
    exact ⟨s, rfl, trivial⟩)
  have hc : Tryd.prog.cellsOf 9 = 1 := by kernel_rfl
  exact ⟨ys, by rw [hc]; rfl⟩
end Go.Proofs.YtfpdfpdlekngfaaDoor
end
section
set_option linter.unusedVariables false
set_option linter.unusedSimpArgs false
set_option maxRecDepth 20000
namespace Go.Proofs.YtfpdfpdlekngfaaDoor
open Go Go.Ab
theorem open_deed {H : Type} {d : DataW H} {a : AV} (h : RdD Tryd.prog 50 d a) : ∃ f : DE, a = deedA f ∧ f.wf := by
  obtain ⟨ds, xs, rfl, rfl, hall⟩ := h.inv_st Tryd.underlying50
  obtain ⟨d0, ds, x0, xs, rfl, rfl, h0, hall⟩ := hall.cons
  obtain ⟨d1, ds, x1, xs, rfl, rfl, h1, hall⟩ := hall.cons
  obtain ⟨d2, ds, x2, xs, rfl, rfl, h2, hall⟩ := hall.cons
  obtain ⟨d3, ds, x3, xs, rfl, rfl, h3, hall⟩ := hall.cons
  obtain ⟨rfl, rfl⟩ := hall.nil
  obtain ⟨s0, rfl, rfl, w0⟩ := h0.inv_int Tryd.underlying3
  obtain ⟨s1, rfl, rfl, w1⟩ := h1.inv_str Tryd.underlying9
  obtain ⟨l2, rfl⟩ := open_l h2
  obtain ⟨b, rfl, rfl⟩ := h3.inv_bool Tryd.underlying4
  have i64 : ∀ {s : Int}, Lit.wf (.int .i64 s) → -9223372036854775808 ≤ s ∧ s ≤ 9223372036854775807 := fun w => by simpa [Lit.wf, IntKind.min, IntKind.max, IntKind.signed, IntKind.bits] using w
  exact ⟨⟨s0, s1, l2, b⟩, rfl, i64 w0⟩
theorem open_D {H : Type} {d : DataW H} {a : AV} (h : RdD Tryd.prog 43 d a) : ∃ l : List DE, a = .sl true false 4 (deedsA l) ∧ ∀ j ∈ l, j.wf := by
  obtain ⟨ds, xs, rfl, hl, hm, hall, _⟩ := h.inv_sl Tryd.underlying43
  obtain ⟨ys, rfl, hy, hg⟩ := RdD.each deedA (fun j _ => j.wf) hl hall (fun d x h => by
    obtain ⟨f, rfl, hf⟩ := open_deed h
    exact ⟨f, rfl, hf⟩)
  have hc : Tryd.prog.cellsOf 50 = 4 := by kernel_rfl
  exact ⟨ys, by rw [hc]; rfl, fun z hz => by
    obtain ⟨i, hi, rfl⟩ := List.getElem_of_mem hz
    exact hg i (by omega) hi⟩
end Go.Proofs.YtfpdfpdlekngfaaDoor
end
