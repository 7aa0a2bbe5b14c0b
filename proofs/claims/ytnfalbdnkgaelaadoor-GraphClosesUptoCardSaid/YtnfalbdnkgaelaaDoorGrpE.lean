/-
  Texts of our own, in one file.
-/
import Derived.Test.YtnfalbdnkgaelaaDoorGrpD
section
set_option linter.unusedVariables false
set_option linter.unusedSimpArgs false
set_option maxRecDepth 20000
namespace Go.Proofs.YtnfalbdnkgaelaaDoor
open Go Go.Ab
theorem open_tg {H : Type} {d : DataW H} {a : AV} (h : RdD Tryd.prog 44 d a) : ∃ f : Tg, a = tgA true f := by
  obtain ⟨ds, xs, rfl, rfl, hall⟩ := h.inv_st Tryd.underlying44
  obtain ⟨d0, ds, x0, xs, rfl, rfl, h0, hall⟩ := hall.cons
  obtain ⟨d1, ds, x1, xs, rfl, rfl, h1, hall⟩ := hall.cons
  obtain ⟨d2, ds, x2, xs, rfl, rfl, h2, hall⟩ := hall.cons
  obtain ⟨d3, ds, x3, xs, rfl, rfl, h3, hall⟩ := hall.cons
  obtain ⟨d4, ds, x4, xs, rfl, rfl, h4, hall⟩ := hall.cons
  obtain ⟨rfl, rfl⟩ := hall.nil
  obtain ⟨s0, rfl, rfl, _⟩ := h0.inv_str Tryd.underlying9
  obtain ⟨l1, rfl⟩ := open_l h1
  obtain ⟨l2, rfl⟩ := open_l h2
  obtain ⟨l3, rfl⟩ := open_l h3
  obtain ⟨l4, rfl⟩ := open_l h4
  exact ⟨⟨s0, l1, l2, l3, l4⟩, rfl⟩
theorem open_T {H : Type} {d : DataW H} {a : AV} (h : RdD Tryd.prog 22 d a) : ∃ l : List Tg, a = .sl true false 5 (tgs true l) := by
  obtain ⟨ds, xs, rfl, hl, hm, hall, _⟩ := h.inv_sl Tryd.underlying22
  obtain ⟨ys, rfl, hy, hg⟩ := RdD.each (tgA true) (fun _ _ => True) hl hall (fun d x h => by
    obtain ⟨f, rfl⟩ := open_tg h
    exact ⟨f, rfl, trivial⟩)
  have hc : Tryd.prog.cellsOf 44 = 5 := by kernel_rfl
  exact ⟨ys, by rw [hc]; rfl⟩
end Go.Proofs.YtnfalbdnkgaelaaDoor
end
section
set_option linter.unusedVariables false
set_option linter.unusedSimpArgs false
set_option maxRecDepth 20000
set_option maxHeartbeats 1000000
namespace Go.Proofs.YtnfalbdnkgaelaaDoor
open Go Go.Ab
theorem Good.need {nd : Nm → List Nm} {c : List Nm} (h : Good nd c) : ∀ i (hi : i < c.length), ∀ k ∈ nd c[i], k ∈ c.take i := by
  induction h with
  | nil => intro i hi; cases hi
  | @snoc p b h hb hn ih =>
    intro i hi k hk
    rw [List.length_append] at hi
    by_cases h1 : i < p.length
    · rw [List.getElem_append_left h1] at hk
      rw [List.take_append_of_le_length (Nat.le_of_lt h1)]
      exact ih i h1 k hk
    · have hi : i < p.length + 1 := hi
      have e : i = p.length := by omega
      subst e
      rw [List.getElem_append_right (Nat.le_refl _)] at hk
      simp only [Nat.sub_self, List.getElem_cons_zero] at hk
      rw [List.take_append_of_le_length (Nat.le_refl _), List.take_length]
      exact hn k hk
theorem Good.pre {nd : Nm → List Nm} {c : List Nm} (h : Good nd c) : ∀ i, Good nd (c.take i) := by
  induction h with
  | nil => intro i; rw [List.take_nil]; exact .nil
  | @snoc p b h hb hn ih =>
    intro i
    by_cases h1 : i ≤ p.length
    · rw [List.take_append_of_le_length h1]; exact ih i
    · rw [List.take_of_length_le (by rw [List.length_append]; show p.length + 1 ≤ i; omega)]
      exact .snoc h hb hn
theorem dpK_other {n x : Nm} (hx : x ≠ n) : ∀ (ks : List Nm) (D : Nm → Nat), dpK n ks D x = D x
  | [], D => rfl
  | k :: r, D => by
    rw [dpK, dpK_other hx r]
    unfold updN
    rw [if_neg hx]
theorem dpK_max {n : Nm} {B : Nat} : ∀ (ks : List Nm) (D : Nm → Nat), n ∉ ks → D n ≤ B → (∀ k ∈ ks, D k + 1 ≤ B) → dpK n ks D n ≤ B
  | [], D, _, h, _ => h
  | k :: r, D, hn, h, hk => by
    have h1 := hk k (List.mem_cons_self ..)
    rw [dpK]
    refine dpK_max r _ (fun e => hn (List.mem_cons_of_mem _ e)) ?_ (fun x hx => ?_)
    · unfold updN; rw [if_pos rfl]; omega
    · unfold updN
      rw [if_neg (fun e : x = n => hn (List.mem_cons_of_mem _ (e ▸ hx)))]
      exact hk x (List.mem_cons_of_mem _ hx)
theorem dpO_out {nd : Nm → List Nm} {x : Nm} : ∀ (c : List Nm) (D : Nm → Nat), x ∉ c → dpO nd c D x = D x
  | [], D, _ => rfl
  | n :: r, D, h => by
    rw [dpO, dpO_out r _ (fun e => h (List.mem_cons_of_mem _ e)), dpK_other (show x ≠ n from fun e => h (by rw [e]; exact List.mem_cons_self ..))]
theorem dp_at {nd : Nm → List Nm} {c : List Nm} (h : Good nd c) : ∀ i (hi : i < c.length), dpO nd c (fun _ => 0) c[i] ≤ i := by
  induction h with
  | nil => intro i hi; cases hi
  | @snoc p b h hb hn ih =>
    intro i hi
    rw [List.length_append] at hi
    have hi : i < p.length + 1 := hi
    rw [dpO_snoc]
    by_cases h1 : i < p.length
    · rw [List.getElem_append_left h1, dpK_other (show p[i] ≠ b from fun e => hb (by rw [← e]; exact List.getElem_mem h1))]
      exact ih i h1
    · have e : i = p.length := by omega
      subst e
      rw [List.getElem_append_right (Nat.le_refl _)]
      simp only [Nat.sub_self, List.getElem_cons_zero]
      refine dpK_max _ _ (fun e => hb (hn b e)) (by rw [dpO_out p _ hb]; exact Nat.zero_le _) (fun k hk => ?_)
      obtain ⟨j, hj, rfl⟩ := List.getElem_of_mem (hn k hk)
      have := ih j hj
      omega
section
variable {l : List Tg} {a : Nm} (h0 : cE l a = 0)
include h0
theorem cE_ok : NmOk l ∧ a ∈ nmsG l := by
  by_cases h2 : akE l a = 0
  · exact ak_ok h2
  · rw [cE_ak h2] at h0; exact absurd h0 h2
theorem ordC_good : Good (ndT l) (ordC l a) ∧ (∀ x, x ∈ ordC l a ↔ x = a ∨ Way (NeedR (ndT l)) a x) := by
  obtain ⟨hok, hnm⟩ := cE_ok h0
  obtain ⟨g1, g2, g3⟩ := ord_good (needs := ndT l) (sm := cnG l a) (cnG l a).length [] .nil (fun n hn => by cases hn) (by simp)
  have hlen : (ordC l a).length = (cnG l a).length := by
    unfold cE at h0
    by_cases h2 : akE l a = 0
    · rw [if_pos h2] at h0
      by_cases h3 : (ordC l a).length = (cnG l a).length
      · exact h3
      · rw [if_neg h3] at h0; cases h0
    · rw [if_neg h2] at h0; exact absurd h0 h2
  have g1 : Good (ndT l) (ordC l a) := g1
  have g2 : ∀ n ∈ ordC l a, n ∈ cnG l a := g2
  refine ⟨g1, fun x => ?_⟩
  have hmem : x ∈ ordC l a ↔ x ∈ cnG l a := by
    refine ⟨g2 x, fun hx => Classical.byContradiction fun hno => ?_⟩
    have := List.Nodup.length_le_of_subset (List.nodup_cons.2 ⟨hno, g1.nodup⟩) (l₂ := cnG l a) (fun y hy => by
      rcases List.mem_cons.1 hy with rfl | hy
      · exact hx
      · exact g2 y hy)
    rw [List.length_cons] at this; omega
  rw [hmem]
  unfold cnG
  rw [coneG_mem hok (atG_lt hnm), nmAt_at hnm]
theorem no_round : ¬ Way (NeedR (ndT l)) a a := by
  obtain ⟨g, hm⟩ := ordC_good h0
  exact g.round a ((hm a).2 (.inl rfl))
theorem ordC_last : ∃ h : 0 < (ordC l a).length, (ordC l a)[(ordC l a).length - 1] = a := by
  obtain ⟨g, hm⟩ := ordC_good h0
  obtain ⟨i, hi, he⟩ := List.getElem_of_mem ((hm a).2 (.inl rfl))
  have hp := g.pre (i + 1)
  have ha : a ∈ (ordC l a).take (i + 1) := List.mem_take_iff_getElem.2 ⟨i, by omega, he⟩
  have hall : ∀ x ∈ ordC l a, x ∈ (ordC l a).take (i + 1) := fun x hx => by
    rcases (hm x).1 hx with rfl | hw
    · exact ha
    · exact hp.way ha hw
  have := List.Nodup.length_le_of_subset g.nodup hall
  rw [List.length_take] at this
  have hie : i = (ordC l a).length - 1 := by omega
  refine ⟨by omega, ?_⟩
  have e : ∀ j (hj : j < (ordC l a).length), j = i → (ordC l a)[j] = a := fun j hj hji => by subst hji; exact he
  exact e _ _ hie.symm
theorem dp_less : dpG l a < (ordC l a).length := by
  obtain ⟨g, hm⟩ := ordC_good h0
  obtain ⟨h1, h2⟩ := ordC_last h0
  have := dp_at g ((ordC l a).length - 1) (by omega)
  rw [h2] at this
  unfold dpG
  rw [if_pos h0]
  omega
theorem akE_two (b : Nm) : akE l b = 0 ∨ akE l b = 5 := by
  obtain ⟨hok, hnm⟩ := cE_ok h0
  unfold akE
  rw [if_pos (nmE_ok.2 hok)]
  split
  · exact .inl rfl
  · exact .inr rfl
theorem usr_mem {b : Nm} (hb : akE l b = 0) : a ∈ usrL l b ↔ Way (NeedR (ndT l)) a b := by
  obtain ⟨hok, hnm⟩ := cE_ok h0
  unfold usrL
  rw [(sortT_perm _).mem_iff, List.mem_filter]
  exact ⟨fun h => (usQ_iff2 hok h.1).1 h.2, fun h => ⟨hnm, (usQ_iff2 hok hnm).2 h⟩⟩
end
end Go.Proofs.YtnfalbdnkgaelaaDoor
end
section
set_option linter.unusedVariables false
set_option linter.unusedSimpArgs false
set_option maxRecDepth 20000
set_option maxHeartbeats 1000000
namespace Go.Proofs.YtnfalbdnkgaelaaDoor
open Go Go.Ab
theorem GraphCloses_ok (l : List Tg) (a b : List UInt8) (hk : avB (.sl true false 5 (tgs true l)) ≤ 1048576) (ha : a.length ≤ 1048576) (hb : b.length ≤ 1048576) :
    Calc cx 9 [.sl true false 5 (tgs true l), .str a, .str b] (.bool true) :=
  pure_intro (fun a w => Tryd.call9 a w) Tryd.func9 rfl Tryd.ntmps9 rfl .bool fun B => by
    obtain ⟨hl, hz⟩ := tgSz_of hk
    have hll := tgs_len true l
    have hO := Cone_ok true true false l a hl hz
    have hT := fun name => TargetAt_ok true true false l name hl
    have harg : ∀ (σ : Heap) (n : Nm), Frzs σ [.sl true false 5 (tgs true l), .str n] [.sl true false 5 (tgs true l), .str n] := fun σ n => .cons (tgs_arg ..) (.cons (.refl .str) (.nil _))
    have lend : ∀ (σ : Heap) (fl : Bool) (x : List Nm), Frz false σ (.sl true fl 1 (texts x)) (.sl true fl 1 (texts x)) := fun σ fl x => .refl (.sl (fun h => by cases h) (texts_any x))
    by_cases h0 : cE l a = 0
    · obtain ⟨hok, hnm⟩ := cE_ok h0
      have hl60 := hok.len
      obtain ⟨hg, hm⟩ := ordC_good h0
      obtain ⟨hpos, hlast⟩ := ordC_last h0
      have hdl := dp_less h0
      have hcl : (ordC l a).length ≤ 60 := ordC_len hok
      have htw := akE_two h0 b
      have hum := fun h => usr_mem h0 (b := b) h
      have hnr := no_round h0
      have hU := Users_ok true true false l b hl hz
      have hD := Depth_ok true true false l a hl hz
      rw [h0] at hO hD
      have hcn : ∀ x ∈ ordC l a, x ∈ nmsG l := fun x hx => by
        rcases (hm x).1 hx with rfl | hw
        · exact hnm
        · exact (way_pl hok hw hnm).1
      obtain ⟨c, hc⟩ : ∃ c, c = ordC l a := ⟨_, rfl⟩
      rw [← hc] at hg hm hpos hdl hcl hcn hO
      have hlast : c[c.length - 1] = a := by subst hc; exact hlast
      have htc := texts_len c
      have hov : outAV c 0 = .tup [.sl true false 1 (texts c), .int .i64 0] := rfl
      rw [hov] at hO
      refine pa [.v (.bool true), .b false, .v (.tup [.sl true false 1 (texts c), .int .i64 0]), .b false] rfl ?_ ?_
      · (repeat' with_reducible apply AllP_cons) <;> try exact aC
        · exact begun_ok
        · exact ⟨_, hO, harg _ a⟩
      refine S_while (α := Nat) (fun i => [(0, .sl true false 5 (tgs true l)), (1, .str a), (2, .str b), (7, .sl true false 1 (texts c)), (9, .int .i64 (i : Nat))]) (fun _ => []) (fun i => i ≤ c.length) (fun i => c.length - i) 0 (Nat.zero_le _) (.cons rfl (.cons rfl (.cons rfl (.cons rfl (.cons rfl (.nil _)))))) rfl ?_
      intro i hi
      by_cases hlt : i < c.length
      · have c1 : decide ((i : Int) < (((texts c).length : Nat) : Int)) = true := decide_eq_true (by omega)
        have c2 : (texts c)[(i : Int).toNat]? = some (.str c[i]) := by rw [Int.toNat_natCast]; exact texts_get hlt
        have hneed := hg.need i hlt
        have hxm := hcn _ (List.getElem_mem hlt)
        generalize c[i] = x at *
        have hat := atG_lt hxm
        have htA : tAt l x = ((atG l x : Nat) : Int) := by unfold tAt; rw [if_pos hxm]
        have hTx := hT x
        rw [htA] at hTx
        have hnn : ndT l x = l[atG l x].needs := by rw [← ndT_nm hok.nd hat, nmAt_at hxm]
        have c3 : (tgs true l)[((atG l x : Nat) : Int).toNat]? = some (tgA true l[atG l x]) := by rw [Int.toNat_natCast]; exact tgs_get hat
        have hnl := hz.nd _ (List.getElem_mem hat)
        rw [hnn] at hneed
        generalize l[atG l x] = t at *
        generalize atG l x = at_ at *
        have hneg : decide ((at_ : Int) < 0) = false := decide_eq_false (by omega)
        have htl := texts_len t.needs
        refine pa [.b true, .v (.str x), .v (.int .i64 (at_ : Int)), .b false] rfl ?_ ?_
        · (repeat' with_reducible apply AllP_cons) <;> try exact aC
          · exact ⟨_, hTx, harg _ x⟩
        refine S_while (α := Nat) (fun j => [(0, .sl true false 5 (tgs true l)), (1, .str a), (2, .str b), (7, .sl true false 1 (texts c)), (9, .int .i64 (i : Nat)), (10, .int .i64 (at_ : Int)), (11, .int .i64 (j : Nat))]) (fun _ => []) (fun j => j ≤ t.needs.length) (fun j => t.needs.length - j) 0 (Nat.zero_le _) (.cons rfl (.cons rfl (.cons rfl (.cons rfl (.cons rfl (.cons rfl (.cons rfl (.nil _)))))))) rfl ?_
        intro j hj
        by_cases hjl : j < t.needs.length
        · have d1 : decide ((j : Int) < (((texts t.needs).length : Nat) : Int)) = true := decide_eq_true (by omega)
          have d2 : (texts t.needs)[(j : Int).toNat]? = some (.str t.needs[j]) := by rw [Int.toNat_natCast]; exact texts_get hjl
          have hkm := hneed _ (List.getElem_mem hjl)
          generalize t.needs[j] = k at *
          have hH := HasText_ok (st := true) (fl := false) (c.take i) k (by rw [List.length_take]; omega)
          rw [show (c.take i).contains k = true by simpa using hkm] at hH
          have hcut : cutL none (some (i : Int)) (texts c) = texts (c.take i) := by simp [cutL, texts]
          refine pa [.v (tgA true t), .b true, .v (tgA true t), .v (.str k), .v (.bool true), .b false] rfl ?_ ?_
          · (repeat' with_reducible apply AllP_cons) <;> try exact aC
            · exact ⟨_, hH, .cons (by show Frz false [] (AV.sl true false 1 (cutL none (some (i : Int)) (texts c))) _; rw [hcut]; exact lend _ false _) (.cons (.refl .str) (.nil _))⟩
          exact S_round (j + 1) (by show t.needs.length - (j + 1) < t.needs.length - j; omega) hjl (.cons rfl (.cons rfl (.cons rfl (.cons rfl (.cons rfl (.cons rfl (.cons (ai64 (by omega) (by omega)) (.nil _)))))))) rfl
        · have hj : j ≤ t.needs.length := hj
          have hje : j = t.needs.length := by omega
          have d1 : decide ((j : Int) < (((texts t.needs).length : Nat) : Int)) = false := decide_eq_false (by omega)
          refine pB [.v (tgA true t), .b false] rfl ?_
          exact S_round (i + 1) (by show c.length - (i + 1) < c.length - i; omega) hlt (.cons rfl (.cons rfl (.cons rfl (.cons rfl (.cons (ai64 (by omega) (by omega)) (.nil _)))))) rfl
      · have hi : i ≤ c.length := hi
        have hie : i = c.length := by omega
        have c1 : decide ((i : Int) < (((texts c).length : Nat) : Int)) = false := decide_eq_false (by omega)
        have c2 : ((((texts c).length : Nat) : Int) == 0) = false := by
          have : (((texts c).length : Nat) : Int) ≠ 0 := by omega
          simpa using this
        have hw1 : IntKind.i64.wrap ((((texts c).length : Nat) : Int) - 1) = ((c.length - 1 : Nat) : Int) := w64 (by omega) (by omega)
        have c3 : (texts c)[((c.length - 1 : Nat) : Int).toNat]? = some (.str a) := by rw [Int.toNat_natCast, texts_get (by omega), hlast]
        have c4 : (a != a) = false := by simp
        have hHb := HasText_ok (st := true) (fl := false) c b (by omega)
        have hul : (usrL l b).length ≤ 60 := by
          have h1 := (sortT_perm ((nmsG l).filter (usQ l b))).length_eq
          have h2 := List.length_filter_le (usQ l b) (nmsG l)
          rw [nms_len] at h2
          have h1 : (usrL l b).length = ((nmsG l).filter (usQ l b)).length := h1
          omega
        have hHa := HasText_ok (st := true) (fl := false) (usrL l b) a (by omega)
        rcases htw with hb0 | hb5
        · have hum := hum hb0
          have hov2 : outAV (usrL l b) (akE l b) = .tup [.sl true false 1 (texts (usrL l b)), .int .i64 0] := by unfold outAV; rw [hb0]; rfl
          rw [hov2] at hU
          by_cases hab : a = b
          · have c5 : (a == b) = true := by simpa using hab
            have hna : (usrL l b).contains a = false := by
              rw [Bool.eq_false_iff]
              intro h
              exact hnr (by have := hum.1 (by simpa using h); rw [← hab] at this; exact this)
            rw [hna] at hHa
            refine pa [.b false, .b false, .v (.str a), .b false, .v (.tup [.sl true false 1 (texts (usrL l b)), .int .i64 0]), .b false, .b true, .b false, .b true, .v (.bool false)] rfl ?_ ?_
            · (repeat' with_reducible apply AllP_cons) <;> try exact aC
              · show (texts c)[(IntKind.i64.wrap ((((texts c).length : Nat) : Int) - 1)).toNat]? = _
                rw [hw1]; exact c3
              · exact ⟨_, hU, harg _ b⟩
              · exact ⟨_, hHa, .cons (lend _ false _) (.cons (.refl .str) (.nil _))⟩
            exact S_retc .bool rfl trivial rfl
          · have c5 : (a == b) = false := by simpa using hab
            have hcc : c.contains b = (usrL l b).contains a := by
              rw [Bool.eq_iff_iff]
              have e1 : c.contains b = true ↔ b ∈ c := by simp
              have e2 : (usrL l b).contains a = true ↔ a ∈ usrL l b := by simp
              rw [e1, e2, hm, hum]
              exact ⟨fun h => h.elim (fun e => absurd e.symm hab) id, .inr⟩
            have hbb : (c.contains b == (usrL l b).contains a) = true := by rw [hcc]; simp
            refine pa [.b false, .b false, .v (.str a), .b false, .v (.tup [.sl true false 1 (texts (usrL l b)), .int .i64 0]), .b false, .b false, .v (.tup [.int .i64 (dpG l a : Nat), .int .i64 0]), .v (.bool (c.contains b)), .v (.bool ((usrL l b).contains a)), .b true, .b true] rfl ?_ ?_
            · (repeat' with_reducible apply AllP_cons) <;> try exact aC
              · show (texts c)[(IntKind.i64.wrap ((((texts c).length : Nat) : Int) - 1)).toNat]? = _
                rw [hw1]; exact c3
              · exact ⟨_, hU, harg _ b⟩
              · exact ⟨_, hD, harg _ a⟩
              · exact ⟨_, hHb, .cons (lend _ false _) (.cons (.refl .str) (.nil _))⟩
              · exact ⟨_, hHa, .cons (lend _ false _) (.cons (.refl .str) (.nil _))⟩
            refine S_retc .bool rfl trivial ?_
            show AV.bool (decide (((dpG l a : Nat) : Int) < (((texts c).length : Nat) : Int))) = .bool true
            rw [htc, decide_eq_true (by omega)]
        · have hov2 : outAV (usrL l b) (akE l b) = .tup [.sl true false 1 (texts []), .int .i64 5] := by unfold outAV; rw [hb5]; rfl
          rw [hov2] at hU
          refine pa [.b false, .b false, .v (.str a), .b false, .v (.tup [.sl true false 1 (texts []), .int .i64 5]), .b true, .b true, .b true] rfl ?_ ?_
          · (repeat' with_reducible apply AllP_cons) <;> try exact aC
            · show (texts c)[(IntKind.i64.wrap ((((texts c).length : Nat) : Int) - 1)).toNat]? = _
              rw [hw1]; exact c3
            · exact ⟨_, hU, harg _ b⟩
          exact S_retc .bool rfl trivial rfl
    · have hne := i64_ne h0
      have hov : outAV (ordC l a) (cE l a) = .tup [.sl true false 1 (texts []), .int .i64 (cE l a : Nat)] := by unfold outAV; rw [if_neg h0]
      rw [hov] at hO
      refine pa [.v (.bool true), .b false, .v (.tup [.sl true false 1 (texts []), .int .i64 (cE l a : Nat)]), .b true] rfl ?_ ?_
      · (repeat' with_reducible apply AllP_cons) <;> try exact aC
        · exact begun_ok
        · exact ⟨_, hO, harg _ a⟩
      exact S_retc .bool rfl trivial rfl
end Go.Proofs.YtnfalbdnkgaelaaDoor
end
