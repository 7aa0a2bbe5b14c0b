/-
  Texts of our own, in one file.
-/
import Derived.Test.YtopdpbcfgjijaaaGrpD
import Derived.WideShapes
section
set_option linter.unusedVariables false
set_option linter.unusedSimpArgs false
set_option maxRecDepth 20000
set_option maxHeartbeats 4000000
namespace Go.Proofs.Ytopdpbcfgjijaaa
open Go Go.Ab
structure PW (s : PB) : Prop where
  l1 : s.sts.length = s.names.length
  l2 : s.trs.length = s.names.length
  jn : ∀ x ∈ s.all, x.job ∈ s.names
def atP (s : PB) (job : Nm) : Nat := (s.names.findIdx? fun j => j == job).getD 0
theorem PW.at_ {s : PB} (h : PW s) {job : Nm} (hm : job ∈ s.names) : (s.names.findIdx? fun j => j == job) = some (atP s job) ∧ atP s job < s.names.length := by
  unfold atP
  cases hf : s.names.findIdx? fun j => j == job with
  | none =>
    have := List.findIdx?_eq_none_iff.1 hf job hm
    simp at this
  | some a =>
    obtain ⟨ha, _⟩ := List.findIdx?_eq_some_iff_getElem.1 hf
    exact ⟨rfl, ha⟩
theorem PW.drop {t : TM} {s : PB} (h : PW s) (i a : Nat) (job : Nm) : PW (pDrop t s i a job) := by
  unfold pDrop
  split
  · exact ⟨by show (s.sts.set a _).length = _; rw [List.length_set]; exact h.l1, h.l2, fun x hx => h.jn x (List.mem_of_mem_eraseIdx hx)⟩
  · exact ⟨h.l1, h.l2, fun x hx => h.jn x (List.mem_of_mem_eraseIdx hx)⟩
theorem pDrop_all (t : TM) (s : PB) (i a : Nat) (job : Nm) : (pDrop t s i a job).all = s.all.eraseIdx i ∧ (pDrop t s i a job).names = s.names := by
  unfold pDrop; split <;> exact ⟨rfl, rfl⟩
def pTl (t : TM) (n : Int) : Nat → PB → Nat → List Nm → PB × List Nm
  | 0, s, _, out => (s, out)
  | f + 1, s, i, out => match s.all[i]? with
    | none => (s, out)
    | some x => if x.tl ≥ n then pTl t n f s (i + 1) out
      else pTl t n f (pDrop t s i (atP s x.job) x.job) i (if pFree s i (atP s x.job) x.job = true then addT out x.job else out)
def pNow (s : PB) (n : Int) : PB := ⟨n, s.names, s.sts, s.trs, s.all⟩
def pTime (t : TM) (s : PB) (n : Int) : PB × List Nm := pTl t n s.all.length (pNow s n) 0 []
theorem addT_le (l : List Nm) (s : Nm) : (addT l s).length ≤ l.length + 1 := by
  unfold addT
  split
  · omega
  · rw [List.length_append, List.length_cons, List.length_take, List.length_drop]; omega
theorem PTime_bad (σ : Heap) (L : PL) (t : TM) (s : PB) (n w : Int) (h : PAt σ L t s) (he : errT n s.now [w] ≠ 0) :
    CallOk cx 19 [.ptr L.r 0 0, .int .i64 n, .int .i64 w] σ (fun o u => o = .ret (.tup [.nils, .int .i64 (errT n s.now [w])]) ∧ u = σ) :=
  callOk_intro (fun a w => Try.call19 a w) Try.func19 rfl Try.ntmps19 rfl fun B => by
    have e3 : (n < 0 ∨ n > 1000000000 ∨ w < 1 ∨ w > 50) → errT n s.now [w] = 3 := fun hc => by
      unfold errT
      by_cases h1 : [w].any wrkB = true
      · rw [if_pos h1]
      · rw [if_neg h1]
        have h2 : witB n 0 1000000000 = false := by
          have hw : ¬ (w < 1 ∨ w > 50) := fun hh => h1 (by
            unfold wrkB witB
            simp only [List.any_cons, List.any_nil, Bool.or_false, Bool.not_eq_true', Bool.and_eq_false_iff, decide_eq_false_iff_not]
            omega)
          unfold witB
          simp only [Bool.and_eq_false_iff, decide_eq_false_iff_not]
          omega
        rw [if_pos h2]
    by_cases c1 : n < 0
    · have d1 : decide (n < 0) = true := decide_eq_true c1
      refine pao [.b true, .b true, .b true, .b true] rfl ?_ ?_
      · (repeat' with_reducible apply AllP_cons) <;> try exact aC
      exact S_ret ⟨_, _, rfl, trivial, by rw [e3 (.inl c1)]; rfl, rfl⟩
    have d1 : decide (n < 0) = false := decide_eq_false c1
    by_cases c2 : n > 1000000000
    · have d2 : decide (n > 1000000000) = true := decide_eq_true c2
      refine pao [.b false, .b true, .b true, .b true] rfl ?_ ?_
      · (repeat' with_reducible apply AllP_cons) <;> try exact aC
      exact S_ret ⟨_, _, rfl, trivial, by rw [e3 (.inr (.inl c2))]; rfl, rfl⟩
    have d2 : decide (n > 1000000000) = false := decide_eq_false c2
    by_cases c3 : w < 1
    · have d3 : decide (w < 1) = true := decide_eq_true c3
      refine pao [.b false, .b false, .b true, .b true] rfl ?_ ?_
      · (repeat' with_reducible apply AllP_cons) <;> try exact aC
      exact S_ret ⟨_, _, rfl, trivial, by rw [e3 (.inr (.inr (.inl c3)))]; rfl, rfl⟩
    have d3 : decide (w < 1) = false := decide_eq_false c3
    by_cases c4 : w > 50
    · have d4 : decide (w > 50) = true := decide_eq_true c4
      refine pao [.b false, .b false, .b false, .b true] rfl ?_ ?_
      · (repeat' with_reducible apply AllP_cons) <;> try exact aC
      exact S_ret ⟨_, _, rfl, trivial, by rw [e3 (.inr (.inr (.inr c4)))]; rfl, rfl⟩
    have d4 : decide (w > 50) = false := decide_eq_false c4
    have e4 : errT n s.now [w] = if n < s.now then 4 else 0 := by
      unfold errT
      have h1 : ¬ [w].any wrkB = true := by
        unfold wrkB witB
        simp only [List.any_cons, List.any_nil, Bool.or_false, Bool.not_eq_true', Bool.and_eq_false_iff, decide_eq_false_iff_not]
        omega
      have h2 : ¬ witB n 0 1000000000 = false := by
        unfold witB
        simp only [Bool.and_eq_false_iff, decide_eq_false_iff_not]
        omega
      rw [if_neg h1, if_neg h2]
    by_cases c5 : n < s.now
    · have d5 : decide (n < s.now) = true := decide_eq_true c5
      rw [if_pos c5] at e4
      refine pao [.b false, .b false, .b false, .b false, .v (.int .i64 s.now), .b true] rfl ?_ ?_
      · (repeat' with_reducible apply AllP_cons) <;> try exact aC
        · exact OpSpec.loadP rfl rfl rfl rfl h.rb rfl
      exact S_ret ⟨_, _, rfl, trivial, by rw [e4]; rfl, rfl⟩
    · rw [if_neg c5] at e4
      exact absurd e4 he
theorem PAt.now {σ : Heap} {L : PL} {t : TM} {s : PB} (h : PAt σ L t s) (n : Int) : PAt (σ.set L.r (0, some (pbB t L (pNow s n)))) L t (pNow s n) := by
  have ap := h.ap
  exact ⟨Alive.set h.al _ _ _, set_eq h.rb, by rw [set_ne ap.rn.symm]; exact h.nb, by rw [set_ne ap.rs.symm]; exact h.sb, by rw [set_ne ap.rt.symm]; exact h.tb, by rw [set_ne ap.ra.symm]; exact h.ab, h.nd⟩
theorem PTime_ok (σ : Heap) (L : PL) (t : TM) (s : PB) (n w : Int) (h : PAt σ L t s) (hw : PW s) (hal : s.all.length ≤ 100000) (hnl : s.names.length ≤ 1000) (he : errT n s.now [w] = 0) :
    CallOk cx 19 [.ptr L.r 0 0, .int .i64 n, .int .i64 w] σ (fun o u => o = .ret (.tup [.sl true false 1 (texts (pTime t s n).2), .int .i64 0]) ∧ ∃ L', PAt u L' t (pTime t s n).1 ∧ PW (pTime t s n).1 ∧ L'.r = L.r ∧ QKeep σ u (OwnP L) (OwnP L')) :=
  callOk_intro (fun a w => Try.call19 a w) Try.func19 rfl Try.ntmps19 rfl fun B => by
    have hn := errT_n he
    have hwk : ¬ (w < 1 ∨ w > 50) := fun hh => by
      unfold errT at he
      have h1 : [w].any wrkB = true := by
        unfold wrkB witB
        simp only [List.any_cons, List.any_nil, Bool.or_false, Bool.not_eq_true', Bool.and_eq_false_iff, decide_eq_false_iff_not]
        omega
      rw [if_pos h1] at he; cases he
    have d1 : decide (n < 0) = false := decide_eq_false (by omega)
    have d2 : decide (n > 1000000000) = false := decide_eq_false (by omega)
    have d3 : decide (w < 1) = false := decide_eq_false (by omega)
    have d4 : decide (w > 50) = false := decide_eq_false (by omega)
    have d5 : decide (n < s.now) = false := decide_eq_false (by omega)
    obtain ⟨R1, hR1⟩ : ∃ R1 : Nat × Option Box, R1 = (0, some (pbB t L (pNow s n))) := ⟨_, rfl⟩
    have h1 := h.now n
    rw [← hR1] at h1
    refine pao [.b false, .b false, .b false, .b false, .v (.int .i64 s.now), .b false, .f (.tup []) (fun u => u.set L.r R1)] rfl ?_ ?_
    · (repeat' with_reducible apply AllP_cons) <;> try exact aC
      · exact OpSpec.loadP rfl rfl rfl rfl h.rb rfl
      · exact OpSpec.storeP (id := L.r) (gT := some 36) (cs := pbC t L s) (y := .int .i64 n) rfl rfl rfl rfl rfl rfl h.rb (lble rfl) (by rw [hR1]; rfl)
    refine S_nilF 8 1 true false rfl ⟨_, _, .inl rfl⟩ ?_
    refine S_while (α := (Heap × PL × PB) × Nat × List Nm) (fun u => [(0, .ptr L.r 0 0), (1, .int .i64 n), (8, .sl true false 1 (texts u.2.2)), (9, .int .i64 (u.2.1 : Nat))]) (fun u => u.1.1)
      (fun u => PAt u.1.1 u.1.2.1 t u.1.2.2 ∧ PW u.1.2.2 ∧ u.1.2.1.r = L.r ∧ QKeep σ u.1.1 (OwnP L) (OwnP u.1.2.1) ∧ u.2.1 ≤ u.1.2.2.all.length ∧ u.1.2.2.all.length ≤ 100000 ∧ u.1.2.2.names.length ≤ 1000 ∧ u.2.2.length + u.1.2.2.all.length ≤ 100000 ∧ pTl t n (u.1.2.2.all.length - u.2.1) u.1.2.2 u.2.1 u.2.2 = pTime t s n) (fun u => u.1.2.2.all.length - u.2.1) ((σ.set L.r R1, L, pNow s n), 0, [])
      ⟨h1, ⟨hw.l1, hw.l2, hw.jn⟩, rfl, keepP (ownP.2 (.inl rfl)), Nat.zero_le _, hal, hnl, by show 0 + s.all.length ≤ _; omega, rfl⟩ (.cons rfl (.cons rfl (.cons rfl (.cons rfl (.nil _))))) rfl ?_
    rintro ⟨⟨u, L1, s1⟩, i, out⟩ ⟨h2, hw2, hr, hk, hi, ha2, hn2, hol, hsp⟩
    simp only at h2 hw2 hr hk hi ha2 hn2 hol hsp
    have hrb := h2.rb
    rw [hr] at hrb
    by_cases hlt : i < s1.all.length
    · have c1 : decide ((i : Int) < (s1.all.length : Int)) = true := decide_eq_true (by omega)
      have hld2 := lsC_f hlt 2 (by decide)
      have hld0 := lsC_f hlt 0 (by decide)
      obtain ⟨f, hf⟩ : ∃ f, s1.all.length - i = f + 1 := ⟨s1.all.length - i - 1, by omega⟩
      have hx : s1.all[i]? = some s1.all[i] := List.getElem?_eq_getElem hlt
      rw [hf] at hsp
      unfold pTl at hsp
      simp only [hx] at hsp
      by_cases hg : s1.all[i].tl ≥ n
      · have c2 : decide (s1.all[i].tl ≥ n) = true := decide_eq_true hg
        rw [if_pos hg] at hsp
        have hi1 : AV.int .i64 (IntKind.i64.wrap ((i : Int) + 1)) = .int .i64 ((i + 1 : Nat) : Int) := ai64 rfl (by omega)
        refine pao [.v (.ms L1.aid L1.av 0 s1.all.length 3 false), .b true, .v (.ms L1.aid L1.av 0 s1.all.length 3 false), .v .top, .v (.int .i64 s1.all[i].tl), .b true] rfl ?_ ?_
        · (repeat' with_reducible apply AllP_cons) <;> try exact aC
          · exact OpSpec.loadP rfl rfl rfl rfl hrb rfl
          · exact OpSpec.loadP rfl rfl rfl rfl hrb rfl
          · exact OpSpec.loadE rfl rfl rfl rfl h2.ab hld2
        refine S_round ((u, L1, s1), i + 1, out) (by show s1.all.length - (i + 1) < s1.all.length - i; omega) ⟨h2, hw2, hr, hk, hlt, ha2, hn2, hol, ?_⟩ (.cons rfl (.cons rfl (.cons rfl (.cons hi1 (.nil _))))) rfl
        show pTl t n (s1.all.length - (i + 1)) s1 (i + 1) out = _
        rw [show s1.all.length - (i + 1) = f by omega]; exact hsp
      · have c2 : decide (s1.all[i].tl ≥ n) = false := decide_eq_false hg
        rw [if_neg hg] at hsp
        obtain ⟨g1, g2⟩ := hw2.at_ (hw2.jn _ (List.getElem_mem hlt))
        have hD := PDrop_ok u L1 t s1 i (atP s1 s1.all[i].job) s1.all[i].job h2 hlt ha2 rfl g1 (by rw [hw2.l1]; exact g2) (by rw [hw2.l2]; exact g2) hn2
        rw [hr] at hD
        refine pao [.v (.ms L1.aid L1.av 0 s1.all.length 3 false), .b true, .v (.ms L1.aid L1.av 0 s1.all.length 3 false), .v .top, .v (.int .i64 s1.all[i].tl), .b false, .v (.ms L1.aid L1.av 0 s1.all.length 3 false), .v .top, .v (.str s1.all[i].job)] rfl ?_ ?_
        · (repeat' with_reducible apply AllP_cons) <;> try exact aC
          · exact OpSpec.loadP rfl rfl rfl rfl hrb rfl
          · exact OpSpec.loadP rfl rfl rfl rfl hrb rfl
          · exact OpSpec.loadE rfl rfl rfl rfl h2.ab hld2
          · exact OpSpec.loadP rfl rfl rfl rfl hrb rfl
          · exact OpSpec.loadE rfl rfl rfl rfl h2.ab hld0
        refine S_call rfl rfl rfl hD (fun v u3 hR => ?_) (fun v u3 hR => by obtain ⟨hR, _⟩ := hR; cases hR)
        obtain ⟨hR, L3, h3, hr3, hk3⟩ := hR
        cases hR
        obtain ⟨p1, p2⟩ := pDrop_all t s1 i (atP s1 s1.all[i].job) s1.all[i].job
        have hel : (pDrop t s1 i (atP s1 s1.all[i].job) s1.all[i].job).all.length = s1.all.length - 1 := by rw [p1, List.length_eraseIdx_of_lt hlt]
        have hw3 := hw2.drop (t := t) i (atP s1 s1.all[i].job) s1.all[i].job
        cases hfr : pFree s1 i (atP s1 s1.all[i].job) s1.all[i].job with
        | true =>
          rw [hfr, if_pos rfl] at hsp
          have hAT := AddText_ok (fl := false) out s1.all[i].job (by omega)
          have hal2 := addT_le out s1.all[i].job
          refine pao [.b true, .v (.sl true false 1 (texts (addT out s1.all[i].job)))] rfl ?_ ?_
          · (repeat' with_reducible apply AllP_cons) <;> try exact aC
            · exact ⟨_, hAT, .cons (.refl (.sl (fun h => by cases h) (texts_any _))) (.cons (.refl .str) (.nil _))⟩
          refine S_round ((u3, L3, pDrop t s1 i (atP s1 s1.all[i].job) s1.all[i].job), i, addT out s1.all[i].job) (by show (pDrop t s1 i _ _).all.length - i < s1.all.length - i; rw [hel]; omega) ⟨h3, hw3, hr3, hk.trans hk3, by show i ≤ (pDrop t s1 i _ _).all.length; rw [hel]; omega, by show (pDrop t s1 i _ _).all.length ≤ _; rw [hel]; omega, by show (pDrop t s1 i _ _).names.length ≤ _; rw [p2]; exact hn2, by show (addT out _).length + (pDrop t s1 i _ _).all.length ≤ _; rw [hel]; omega, ?_⟩ (.cons rfl (.cons rfl (.cons rfl (.cons rfl (.nil _))))) rfl
          show pTl t n ((pDrop t s1 i _ _).all.length - i) _ i _ = _
          rw [hel, show s1.all.length - 1 - i = f by omega]; exact hsp
        | false =>
          rw [hfr, if_neg (by simp)] at hsp
          refine pao [.b false] rfl ?_ ?_
          · (repeat' with_reducible apply AllP_cons) <;> try exact aC
          refine S_round ((u3, L3, pDrop t s1 i (atP s1 s1.all[i].job) s1.all[i].job), i, out) (by show (pDrop t s1 i _ _).all.length - i < s1.all.length - i; rw [hel]; omega) ⟨h3, hw3, hr3, hk.trans hk3, by show i ≤ (pDrop t s1 i _ _).all.length; rw [hel]; omega, by show (pDrop t s1 i _ _).all.length ≤ _; rw [hel]; omega, by show (pDrop t s1 i _ _).names.length ≤ _; rw [p2]; exact hn2, by show out.length + (pDrop t s1 i _ _).all.length ≤ _; rw [hel]; omega, ?_⟩ (.cons rfl (.cons rfl (.cons rfl (.cons rfl (.nil _))))) rfl
          show pTl t n ((pDrop t s1 i _ _).all.length - i) _ i _ = _
          rw [hel, show s1.all.length - 1 - i = f by omega]; exact hsp
    · have c1 : decide ((i : Int) < (s1.all.length : Int)) = false := decide_eq_false (by omega)
      refine pao [.v (.ms L1.aid L1.av 0 s1.all.length 3 false), .b false] rfl ?_ ?_
      · (repeat' with_reducible apply AllP_cons) <;> try exact aC
        · exact OpSpec.loadP rfl rfl rfl rfl hrb rfl
      rw [show s1.all.length - i = 0 by omega] at hsp
      have hsp : (s1, out) = pTime t s n := hsp
      rw [← hsp]
      exact S_ret ⟨_, _, rfl, trivial, rfl, L1, h2, hw2, hr, hk⟩
end Go.Proofs.Ytopdpbcfgjijaaa
end
section
set_option linter.unusedVariables false
set_option linter.unusedSimpArgs false
set_option maxRecDepth 20000
set_option maxHeartbeats 4000000
namespace Go.Proofs.Ytopdpbcfgjijaaa
open Go Go.Ab
theorem lsC_setT : ∀ {l : List LE} {i : Nat} (h : i < l.length) (x : Int), (lsC l).set (i * 3 + 2) (.int .i64 x) = lsC (l.set i ⟨l[i].job, l[i].wk, x⟩)
  | f :: l, 0, h, x => rfl
  | f :: l, i + 1, h, x => by
    have ih := lsC_setT (l := l) (i := i) (Nat.lt_of_succ_lt_succ h) x
    have e1 : lsC (f :: l) = .str f.job :: .int .i64 f.wk :: .int .i64 f.tl :: lsC l := rfl
    rw [e1, show (i + 1) * 3 + 2 = (i * 3 + 2) + 3 by omega]
    show .str f.job :: .int .i64 f.wk :: .int .i64 f.tl :: (lsC l).set (i * 3 + 2) (.int .i64 x) = _
    rw [ih]; rfl
theorem lsC_rangeT {l : List LE} {i : Nat} (h : i < l.length) (x : Int) : setRange (lsC l) (offN 0 (mulN ((i : Int)).toNat 3) + 2) [.int .i64 x] = lsC (l.set i ⟨l[i].job, l[i].wk, x⟩) := by
  rw [offN_eq, mulN_eq, Int.toNat_natCast, Nat.zero_add, setRange_1 (by rw [lsC_len]; omega), lsC_setT h]
theorem PAt.setA {σ : Heap} {L : PL} {t : TM} {s : PB} (h : PAt σ L t s) (al : List LE) (hl : al.length = s.all.length) : PAt (σ.set L.aid (L.av, some (.cells (lsC al) ⟨false, none⟩))) L t ⟨s.now, s.names, s.sts, s.trs, al⟩ := by
  have ap := h.ap
  refine ⟨Alive.set h.al _ _ _, ?_, ?_, ?_, ?_, set_eq h.ab, h.nd⟩
  · rw [set_ne ap.ra, h.rb]
    unfold pbB pbC
    rw [hl]
  · rw [set_ne ap.na]; exact h.nb
  · rw [set_ne ap.sa]; exact h.sb
  · rw [set_ne ap.ta]; exact h.tb
def pBeat1 (t : TM) (s : PB) (n w : Int) (name : Nm) : Int × PB := match s.all.findIdx? (hasP name w) with
  | none => (5, s)
  | some i => match s.all[i]? with
    | none => (5, s)
    | some x => (0, ⟨s.now, s.names, s.sts, s.trs, s.all.set i ⟨x.job, x.wk, n + t.last⟩⟩)
def pBeat (t : TM) (s : PB) (n w : Int) (name : Nm) : Int × PB := if errT n s.now [w] = 0 then pBeat1 t (pTime t s n).1 n w name else (errT n s.now [w], s)
theorem pTl_le (t : TM) (n : Int) : ∀ (f : Nat) (s : PB) (i : Nat) (out : List Nm), (pTl t n f s i out).1.all.length ≤ s.all.length ∧ (pTl t n f s i out).1.names = s.names
  | 0, s, i, out => ⟨Nat.le_refl _, rfl⟩
  | f + 1, s, i, out => by
    unfold pTl
    split
    · exact ⟨Nat.le_refl _, rfl⟩
    · split
      · exact pTl_le t n f s (i + 1) out
      · obtain ⟨p1, p2⟩ := pDrop_all t s i (atP s (‹LE›).job) (‹LE›).job
        obtain ⟨q1, q2⟩ := pTl_le t n f (pDrop t s i (atP s (‹LE›).job) (‹LE›).job) i (if pFree s i (atP s (‹LE›).job) (‹LE›).job = true then addT out (‹LE›).job else out)
        refine ⟨Nat.le_trans q1 ?_, q2.trans p2⟩
        rw [p1]; exact List.length_eraseIdx_le ..
theorem PBeat_ok (σ : Heap) (L : PL) (t : TM) (s : PB) (n w : Int) (name : Nm) (h : PAt σ L t s) (hw : PW s) (hal : s.all.length ≤ 100000) (hnl : s.names.length ≤ 1000) (hl1 : 1 ≤ t.last) (hl2 : t.last ≤ 1000000000) :
    CallOk cx 15 [.ptr L.r 0 0, .str name, .int .i64 w, .int .i64 n] σ (fun o u => o = .ret (.int .i64 (pBeat t s n w name).1) ∧ ∃ L', PAt u L' t (pBeat t s n w name).2 ∧ L'.r = L.r ∧ QKeep σ u (OwnP L) (OwnP L')) :=
  callOk_intro (fun a w => Try.call15 a w) Try.func15 rfl Try.ntmps15 rfl fun B => by
    unfold pBeat
    by_cases he : errT n s.now [w] = 0
    · rw [if_pos he]
      obtain ⟨hn0, hn1, _⟩ := errT_n he
      have hT := PTime_ok σ L t s n w h hw hal hnl he
      obtain ⟨q1, q2⟩ := pTl_le t n s.all.length (pNow s n) 0 []
      have q1 : (pTime t s n).1.all.length ≤ s.all.length := q1
      refine pao [] rfl ?_ ?_
      · (repeat' with_reducible apply AllP_cons) <;> try exact aC
      refine S_call rfl rfl rfl hT (fun v u hR => ?_) (fun v u hR => by obtain ⟨hR, _⟩ := hR; cases hR)
      obtain ⟨hR, L1, h1, hw1, hr, hk⟩ := hR
      cases hR
      generalize (pTime t s n).1 = s1 at *
      have hH := Has_ok u L1 t s1 name w h1 (by omega)
      rw [hr] at hH
      have hrb := h1.rb
      rw [hr] at hrb
      unfold pBeat1
      cases hf : s1.all.findIdx? (hasP name w) with
      | none =>
        have c1 : decide (idxP (hasP name w) s1.all < 0) = true := by unfold idxP; rw [hf]; rfl
        refine pao [.b false, .k (.int .i64 (idxP (hasP name w) s1.all)), .b true] rfl ?_ ?_
        · (repeat' with_reducible apply AllP_cons) <;> try exact aC
        exact S_ret ⟨_, _, rfl, trivial, rfl, L1, h1, hr, hk⟩
      | some i =>
        obtain ⟨hi, _⟩ := List.findIdx?_eq_some_iff_getElem.1 hf
        have hix : idxP (hasP name w) s1.all = (i : Int) := by unfold idxP; rw [hf]
        rw [hix] at hH
        simp only [List.getElem?_eq_getElem hi]
        have c1 : decide ((i : Int) < 0) = false := decide_eq_false (by omega)
        have c2 : decide ((i : Int) < (s1.all.length : Int)) = true := decide_eq_true (by omega)
        obtain ⟨A, hA⟩ : ∃ A : Nat × Option Box, A = (L1.av, some (.cells (lsC (s1.all.set i ⟨s1.all[i].job, s1.all[i].wk, n + t.last⟩)) ⟨false, none⟩)) := ⟨_, rfl⟩
        have h2 := h1.setA (s1.all.set i ⟨s1.all[i].job, s1.all[i].wk, n + t.last⟩) (List.length_set ..)
        rw [← hA] at h2
        refine pao [.b false, .k (.int .i64 (i : Int)), .b false] rfl ?_ ?_
        · (repeat' with_reducible apply AllP_cons) <;> try exact aC
        refine S_drawO 12 [.ms L1.aid L1.av 0 s1.all.length 3 false, .int .i64 t.last] rfl rfl rfl rfl ?_ ?_
        · (repeat' with_reducible apply AllP_cons) <;> try exact aC
          · exact OpSpec.loadP rfl rfl rfl rfl hrb rfl
          · exact OpSpec.loadP rfl rfl rfl rfl hrb rfl
        refine pao [.v .top, .f (.tup []) (fun u => u.set L1.aid A)] rfl ?_ ?_
        · (repeat' with_reducible apply AllP_cons) <;> try exact aC
          · have hwn : IntKind.i64.wrap (n + t.last) = n + t.last := IntWalk.i64_in _ ⟨by omega, by omega⟩
            refine OpSpec.storeX (id := L1.aid) (off := offN 0 (mulN ((i : Int)).toNat 3) + 2) (cs := lsC s1.all) (y := .int .i64 (n + t.last)) rfl rfl rfl ?_ rfl rfl h1.ab (show offN 0 (mulN ((i : Int)).toNat 3) + 2 + 1 ≤ (lsC s1.all).length by rw [offN_eq, mulN_eq, Int.toNat_natCast, lsC_len]; omega) ?_
            · show AV.int .i64 (IntKind.i64.wrap (n + t.last)) = _
              rw [hwn]
            · have e0 := lsC_rangeT hi (n + t.last)
              rw [hA, ← e0]; rfl
        exact S_ret ⟨_, _, rfl, trivial, rfl, L1, h2, hr, hk.trans (keepP (ownP.2 (.inr (.inr (.inr (.inr rfl))))))⟩
    · rw [if_neg he]
      have hT := PTime_bad σ L t s n w h he
      have c1 : (errT n s.now [w] != 0) = true := by simp [he]
      refine pao [.k (.tup [.nils, .int .i64 (errT n s.now [w])]), .b true] rfl ?_ ?_
      · (repeat' with_reducible apply AllP_cons) <;> try exact aC
      exact S_ret ⟨_, _, rfl, trivial, rfl, L, h, rfl, QKeep.refl⟩
end Go.Proofs.Ytopdpbcfgjijaaa
end
section
set_option linter.unusedVariables false
set_option linter.unusedSimpArgs false
namespace Go.Ab
open Go
section
variable {cx : Cx} {n : Nat} {B : Bs} {k : List AI} {Q : Post} {fr : Fr} {σ : Heap}
def hp1 (σ σ1 : Heap) (j1 : Nat) (listed : Array Bool) : Heap := bif listed.getD j1 false then σ1 else σ
def chgW (cx : Cx) (n : Nat) (σ σ1 : Heap) (o : Oper) (fr : Fr) (v : AV) : Prop := match callA cx fr o.op with
  | some (f, args) => CallOk cx f args σ (fun out s => out = .ret v ∧ s = σ1)
  | none => OpSpec cx n fr σ o v σ1
theorem chgW_step {σ1 : Heap} {K : List Nat} {all : Array Oper} {o : Oper} {v : AV} (hd : dstOk n o.dst = true) (hg : guardA all o K fr = some true) (h : chgW cx n σ σ1 o fr v) : StepX cx n all σ σ1 K fr o v := by
  unfold chgW at h
  split at h
  · rename_i f args hc
    exact callC_step hd hg hc h
  · exact specC_step hd hg h
end
end Go.Ab
end
section
set_option linter.unusedVariables false
set_option linter.unusedSimpArgs false
set_option maxRecDepth 20000
set_option maxHeartbeats 4000000
namespace Go.Proofs.Ytopdpbcfgjijaaa
open Go Go.Ab
theorem PAt.putA {σ : Heap} {L : PL} {t : TM} {s : PB} (h : PAt σ L t s) {g gv : Nat} {al : List LE} (hg : σ[g]? = some (gv, some (.cells (lsC al) ⟨false, none⟩))) (hno : ¬ OwnP L g) {L' : PL} (hL : L' = ⟨L.r, L.nid, L.sid, L.tid, g, L.nv, L.sv, L.tv, gv⟩) :
    PAt (σ.set L.r (0, some (pbB t L' ⟨s.now, s.names, s.sts, s.trs, al⟩))) L' t ⟨s.now, s.names, s.sts, s.trs, al⟩ := by
  subst hL
  have ap := h.ap
  have n1 : L.r ≠ g := fun e => hno (ownP.2 (.inl e.symm))
  have n2 : L.nid ≠ g := fun e => hno (ownP.2 (.inr (.inl e.symm)))
  have n3 : L.sid ≠ g := fun e => hno (ownP.2 (.inr (.inr (.inl e.symm))))
  have n4 : L.tid ≠ g := fun e => hno (ownP.2 (.inr (.inr (.inr (.inl e.symm)))))
  refine ⟨Alive.set h.al _ _ _, set_eq h.rb, ?_, ?_, ?_, ?_, ?_⟩
  · show (σ.set L.r _)[L.nid]? = _
    rw [set_ne ap.rn.symm]; exact h.nb
  · show (σ.set L.r _)[L.sid]? = _
    rw [set_ne ap.rs.symm]; exact h.sb
  · show (σ.set L.r _)[L.tid]? = _
    rw [set_ne ap.rt.symm]; exact h.tb
  · show (σ.set L.r _)[g]? = _
    rw [set_ne n1.symm]; exact hg
  · show [L.r, L.nid, L.sid, L.tid, g].Nodup
    simp only [List.nodup_cons, List.mem_cons, List.not_mem_nil, or_false, not_or, not_false_eq_true, List.nodup_nil, and_true]
    exact ⟨⟨ap.rn, ap.rs, ap.rt, n1⟩, ⟨ap.ns, ap.nt, n2⟩, ⟨ap.st, n3⟩, n4⟩
def pDone1 (t : TM) (s : PB) (w : Int) (name : Nm) (good : Bool) : Int × PB := match s.all.findIdx? (hasP name w) with
  | none => (5, s)
  | some i => (0, if good = true then ⟨s.now, s.names, s.sts.set (atP s name) 3, s.trs, s.all.filter fun x => x.job != name⟩ else pDrop t s i (atP s name) name)
def pDone (t : TM) (s : PB) (n w : Int) (name : Nm) (good : Bool) : Int × PB := if errT n s.now [w] = 0 then pDone1 t (pTime t s n).1 w name good else (errT n s.now [w], s)
theorem PDone_ok (σ : Heap) (L : PL) (t : TM) (s : PB) (n w : Int) (name : Nm) (good : Bool) (h : PAt σ L t s) (hw : PW s) (hal : s.all.length ≤ 100000) (hnl : s.names.length ≤ 1000) :
    CallOk cx 17 [.ptr L.r 0 0, .str name, .int .i64 w, .int .i64 n, .bool good] σ (fun o u => o = .ret (.int .i64 (pDone t s n w name good).1) ∧ ∃ L', PAt u L' t (pDone t s n w name good).2 ∧ L'.r = L.r ∧ QKeep σ u (OwnP L) (OwnP L')) :=
  callOk_intro (fun a w => Try.call17 a w) Try.func17 rfl Try.ntmps17 rfl fun B => by
    unfold pDone
    by_cases he : errT n s.now [w] = 0
    · rw [if_pos he]
      have hT := PTime_ok σ L t s n w h hw hal hnl he
      obtain ⟨q1, q2⟩ := pTl_le t n s.all.length (pNow s n) 0 []
      have q1 : (pTime t s n).1.all.length ≤ s.all.length := q1
      have q2 : (pTime t s n).1.names = s.names := q2
      refine pao [] rfl ?_ ?_
      · (repeat' with_reducible apply AllP_cons) <;> try exact aC
      refine S_call rfl rfl rfl hT (fun v u hR => ?_) (fun v u hR => by obtain ⟨hR, _⟩ := hR; cases hR)
      obtain ⟨hR, L1, h1, hw1, hr, hk⟩ := hR
      cases hR
      generalize (pTime t s n).1 = s1 at *
      have hn1 : s1.names.length ≤ 1000 := by rw [q2]; exact hnl
      have ha1 : s1.all.length ≤ 100000 := by omega
      have hH := Has_ok u L1 t s1 name w h1 ha1
      rw [hr] at hH
      have hrb := h1.rb
      rw [hr] at hrb
      unfold pDone1
      cases hf : s1.all.findIdx? (hasP name w) with
      | none =>
        have c1 : decide (idxP (hasP name w) s1.all < 0) = true := by unfold idxP; rw [hf]; rfl
        refine pao [.b false, .k (.int .i64 (idxP (hasP name w) s1.all)), .b true] rfl ?_ ?_
        · (repeat' with_reducible apply AllP_cons) <;> try exact aC
        exact S_ret ⟨_, _, rfl, trivial, rfl, L1, h1, hr, hk⟩
      | some i =>
        obtain ⟨hi, hip, _⟩ := List.findIdx?_eq_some_iff_getElem.1 hf
        have hix : idxP (hasP name w) s1.all = (i : Int) := by unfold idxP; rw [hf]
        rw [hix] at hH
        have c1 : decide ((i : Int) < 0) = false := decide_eq_false (by omega)
        have hij : s1.all[i].job = name := by
          unfold hasP at hip
          rw [Bool.and_eq_true] at hip
          simpa using hip.1
        obtain ⟨g1, g2⟩ := hw1.at_ (job := name) (by rw [← hij]; exact hw1.jn _ (List.getElem_mem hi))
        cases good with
        | false =>
          have hD := PDrop_ok u L1 t s1 i (atP s1 name) name h1 hi ha1 hij g1 (by rw [hw1.l1]; exact g2) (by rw [hw1.l2]; exact g2) hn1
          rw [hr] at hD
          refine pao [.b false, .k (.int .i64 (i : Int)), .b false, .b true] rfl ?_ ?_
          · (repeat' with_reducible apply AllP_cons) <;> try exact aC
          refine S_call rfl rfl rfl hD (fun v u3 hR => ?_) (fun v u3 hR => by obtain ⟨hR, _⟩ := hR; cases hR)
          obtain ⟨hR, L3, h3, hr3, hk3⟩ := hR
          cases hR
          refine pao [] rfl ?_ ?_
          · (repeat' with_reducible apply AllP_cons) <;> try exact aC
          exact S_ret ⟨_, _, rfl, trivial, rfl, L3, h3, hr3.trans rfl, hk.trans hk3⟩
        | true =>
          have hA := At_ok u L1 t s1 name h1 hn1
          rw [hr] at hA
          have hia : idxP (fun j => j == name) s1.names = ((atP s1 name : Nat) : Int) := by unfold idxP; rw [g1]
          rw [hia] at hA
          have has : atP s1 name < s1.sts.length := by rw [hw1.l1]; exact g2
          generalize atP s1 name = a at *
          have c2 : decide ((a : Int) < (s1.sts.length : Int)) = true := decide_eq_true (by omega)
          obtain ⟨S1, hS1⟩ : ∃ S1 : Nat × Option Box, S1 = (L1.sv, some (.cells (intC (s1.sts.set a 3)) ⟨false, none⟩)) := ⟨_, rfl⟩
          have h2 := h1.setS (s1.sts.set a 3) (List.length_set ..)
          rw [← hS1] at h2
          have hk2 : QKeep σ (u.set L1.sid S1) (OwnP L) (OwnP L1) := hk.trans (keepP (ownP.2 (.inr (.inr (.inl rfl)))))
          refine pao [.b false, .k (.int .i64 (i : Int)), .b false, .b false] rfl ?_ ?_
          · (repeat' with_reducible apply AllP_cons) <;> try exact aC
          refine S_drawOC u 6 7 [.ms L1.sid L1.sv 0 s1.sts.length 1 false, .int .i64 (a : Int)] rfl rfl rfl rfl (fun t => rfl) (fun u' hu => ?_) (fun o v ho hv => ?_) ?_
          · have : u' = u := by rcases hu with rfl | rfl <;> rfl
            subst this
            (repeat' with_reducible apply AllP_cons) <;> try exact aC
            · exact OpSpec.loadP rfl rfl rfl rfl hrb rfl
          · cases ho; cases hv
            exact chgW_step rfl rfl hA
          refine pao [.v .top, .f (.tup []) (fun u => u.set L1.sid S1)] rfl ?_ ?_
          · (repeat' with_reducible apply AllP_cons) <;> try exact aC
            · refine OpSpec.storeX (id := L1.sid) (off := offN 0 (mulN ((a : Int)).toNat 1)) (cs := intC s1.sts) (y := .int .i64 3) rfl rfl rfl rfl rfl rfl h1.sb (show offN 0 (mulN ((a : Int)).toNat 1) + 1 ≤ (intC s1.sts).length by rw [offN_eq, mulN_eq, Int.toNat_natCast, intC_len]; omega) ?_
              have e0 := intC_set has 3
              rw [hS1, ← e0]; rfl
          refine S_heap (u.set L1.sid S1) rfl ?_
          generalize u.set L1.sid S1 = u2 at *
          have hno : ∀ id, u2.length ≤ id → ¬ OwnP L1 id := fun id hid ho => by have := h2.lt _ ho; omega
          refine S_ghostF (t := 14) (gid := u2.length) (gver := 0) (σ' := u2 ++ [(0, some (.cells [] ⟨false, none⟩))]) 3 ⟨false, none⟩ rfl (alloc_last h2.al _) ⟨_, _, .inl rfl⟩ ?_
          obtain ⟨pr, hpr⟩ : ∃ pr : LE → Bool, pr = fun x => x.job != name := ⟨_, rfl⟩
          refine S_while (α := Heap × Nat × List LE) (fun x => [(0, .ptr L.r 0 0), (1, .str name), (14, .ms u2.length x.2.2.length 0 x.2.2.length 3 false), (15, .int .i64 (x.2.1 : Nat))]) (fun x => x.1)
            (fun x => PAt x.1 L1 t ⟨s1.now, s1.names, s1.sts.set a 3, s1.trs, s1.all⟩ ∧ QKeep σ x.1 (OwnP L) (OwnP L1) ∧ x.1[u2.length]? = some (x.2.2.length, some (.cells (lsC x.2.2) ⟨false, none⟩)) ∧ x.2.1 ≤ s1.all.length ∧ x.2.2 = (s1.all.take x.2.1).filter pr) (fun x => s1.all.length - x.2.1) (u2 ++ [(0, some (.cells [] ⟨false, none⟩))], 0, [])
            ⟨h2.app _ _, hk2.trans QKeep.app, app_last, Nat.zero_le _, rfl⟩ (.cons rfl (.cons rfl (.cons rfl (.cons rfl (.nil _))))) rfl ?_
          rintro ⟨u3, k, lf⟩ ⟨h3, hk3, hg3, hki, hlf⟩
          simp only at h3 hk3 hg3 hki hlf
          have hrb3 := h3.rb
          rw [hr] at hrb3
          have hll : lf.length ≤ s1.all.length := by
            rw [hlf]
            exact Nat.le_trans (List.length_filter_le ..) (List.length_take_le' ..)
          by_cases hlt : k < s1.all.length
          · have e1 : decide ((k : Int) < (s1.all.length : Int)) = true := decide_eq_true (by omega)
            have hk1 : AV.int .i64 (IntKind.i64.wrap ((k : Int) + 1)) = .int .i64 ((k + 1 : Nat) : Int) := ai64 rfl (by omega)
            have hx0 := lsC_f hlt 0 (by decide)
            have htk : s1.all.take (k + 1) = s1.all.take k ++ [s1.all[k]] := List.take_succ_eq_append_getElem hlt
            have hab : u3[L1.aid]? = some (L1.av, some (.cells (lsC s1.all) ⟨false, none⟩)) := h3.ab
            cases hb : s1.all[k].job != name with
            | true =>
              obtain ⟨G, hG⟩ : ∃ G : Nat × Option Box, G = (lf.length + 1, some (.cells (lsC (lf ++ [s1.all[k]])) ⟨false, none⟩)) := ⟨_, rfl⟩
              have hl1 : (lf ++ [s1.all[k]]).length = lf.length + 1 := by simp
              obtain ⟨rr, hrr⟩ := lsC_at hlt
              have hdr : (lsC s1.all).drop (offN 0 (mulN ((k : Int)).toNat 3)) = .str s1.all[k].job :: .int .i64 s1.all[k].wk :: .int .i64 s1.all[k].tl :: rr := by rw [offN_eq, mulN_eq, Int.toNat_natCast, Nat.zero_add]; exact hrr
              refine pao [.v (.ms L1.aid L1.av 0 s1.all.length 3 false), .b true, .v (.ms L1.aid L1.av 0 s1.all.length 3 false), .v .top, .v (.str s1.all[k].job), .b true, .v (.ms L1.aid L1.av 0 s1.all.length 3 false), .v .top, .v (.agg (s1.all[k]).cells), .f (.ms u2.length (lf.length + 1) 0 (lf.length + 1) 3 false) (fun x => x.set u2.length G)] rfl ?_ ?_
              · (repeat' with_reducible apply AllP_cons) <;> try exact aC
                · exact OpSpec.loadP rfl rfl rfl rfl hrb3 rfl
                · exact OpSpec.loadP rfl rfl rfl rfl hrb3 rfl
                · exact OpSpec.loadE rfl rfl rfl rfl hab hx0
                · exact OpSpec.loadP rfl rfl rfl rfl hrb3 rfl
                · refine OpSpec.loadEA (cs := lsC s1.all) rfl rfl rfl rfl hab (show 3 ≤ ((lsC s1.all).drop (offN 0 (mulN ((k : Int)).toNat 3))).length by rw [hdr]; simp) ?_
                  show AV.agg (s1.all[k]).cells = AV.agg (List.take 3 ((lsC s1.all).drop (offN 0 (mulN ((k : Int)).toNat 3))))
                  rw [hdr]; rfl
                · refine OpSpec.appendX (id := u2.length) (ver := lf.length) (off := 0) (len := lf.length) (y := .agg (s1.all[k]).cells) (cs := lsC lf) rfl rfl rfl rfl rfl ?_ hg3 ?_ ?_ ?_ ?_
                  · intro z hz
                    have hz : z ∈ (s1.all[k]).cells := hz
                    exact lsC_one [s1.all[k]] z (by unfold lsC; simpa using hz)
                  · rw [lsC_len]; omega
                  · show (lf.length + 1) * 32 ≤ _; omega
                  · omega
                  · rw [hG, ← lsC_snoc]; rfl
              refine S_round (u3.set u2.length G, k + 1, lf ++ [s1.all[k]]) (by show s1.all.length - (k + 1) < s1.all.length - k; omega) ⟨?_, ?_, ?_, hlt, ?_⟩ (.cons rfl (.cons rfl (.cons (by rw [hl1]; rfl) (.cons hk1 (.nil _))))) rfl
              · exact h3.mono (Alive.set' h3.al (by rw [hG]; exact ⟨_, rfl⟩) _) fun id ho => set_ne fun e => hno _ (Nat.le_refl _) (e ▸ ho)
              · exact hk3.set hk2.len _
              · show (u3.set u2.length G)[u2.length]? = _
                rw [set_eq hg3, hG, hl1]
              · show lf ++ [s1.all[k]] = _
                rw [htk, List.filter_append, ← hlf, List.filter_cons_of_pos (by rw [hpr]; exact hb)]; rfl
            | false =>
              refine pao [.v (.ms L1.aid L1.av 0 s1.all.length 3 false), .b true, .v (.ms L1.aid L1.av 0 s1.all.length 3 false), .v .top, .v (.str s1.all[k].job), .b false] rfl ?_ ?_
              · (repeat' with_reducible apply AllP_cons) <;> try exact aC
                · exact OpSpec.loadP rfl rfl rfl rfl hrb3 rfl
                · exact OpSpec.loadP rfl rfl rfl rfl hrb3 rfl
                · exact OpSpec.loadE rfl rfl rfl rfl hab hx0
              refine S_round (u3, k + 1, lf) (by show s1.all.length - (k + 1) < s1.all.length - k; omega) ⟨h3, hk3, hg3, hlt, ?_⟩ (.cons rfl (.cons rfl (.cons rfl (.cons hk1 (.nil _))))) rfl
              show lf = _
              rw [htk, List.filter_append, ← hlf, List.filter_cons_of_neg (by rw [hpr]; simp [hb])]; simp
          · have e1 : decide ((k : Int) < (s1.all.length : Int)) = false := decide_eq_false (by omega)
            rw [List.take_of_length_le (by omega)] at hlf
            obtain ⟨L3, hL3⟩ : ∃ L3 : PL, L3 = ⟨L1.r, L1.nid, L1.sid, L1.tid, u2.length, L1.nv, L1.sv, L1.tv, lf.length⟩ := ⟨_, rfl⟩
            obtain ⟨R3, hR3⟩ : ∃ R3 : Nat × Option Box, R3 = (0, some (pbB t L3 ⟨s1.now, s1.names, s1.sts.set a 3, s1.trs, lf⟩)) := ⟨_, rfl⟩
            have h4 := h3.putA hg3 (hno _ (Nat.le_refl _)) hL3
            rw [hr, ← hR3] at h4
            refine pao [.v (.ms L1.aid L1.av 0 s1.all.length 3 false), .b false, .f (.tup []) (fun x => x.set L.r R3)] rfl ?_ ?_
            · (repeat' with_reducible apply AllP_cons) <;> try exact aC
              · exact OpSpec.loadP rfl rfl rfl rfl hrb3 rfl
              · refine OpSpec.storeP (id := L.r) (gT := some 36) (cs := pbC t L1 ⟨s1.now, s1.names, s1.sts.set a 3, s1.trs, s1.all⟩) (y := .ms u2.length lf.length 0 lf.length 3 false) rfl rfl rfl rfl rfl rfl hrb3 (lble rfl) ?_
                rw [hR3, hL3]; rfl
            have hlf : lf = s1.all.filter fun x => x.job != name := by rw [hlf, hpr]
            refine S_ret ⟨_, _, rfl, trivial, rfl, L3, ?_, by rw [hL3]; exact hr, ?_⟩
            · show PAt (u3.set L.r R3) L3 t ⟨s1.now, s1.names, s1.sts.set a 3, s1.trs, s1.all.filter fun x => x.job != name⟩
              rw [← hlf]; exact h4
            · have hk4 := hk3.trans (keepP (σ := u3) (L := L1) (x := R3) (id := L.r) (by rw [← hr]; exact ownP.2 (.inl rfl)))
              refine hk4.own fun id ho => ?_
              rw [hL3] at ho
              rcases ownP.1 ho with h' | h' | h' | h' | h'
              · exact .inl (ownP.2 (.inl h'))
              · exact .inl (ownP.2 (.inr (.inl h')))
              · exact .inl (ownP.2 (.inr (.inr (.inl h'))))
              · exact .inl (ownP.2 (.inr (.inr (.inr (.inl h')))))
              · refine .inr ?_
                have := hk2.len
                rw [h']; exact this
    · rw [if_neg he]
      have hT := PTime_bad σ L t s n w h he
      have c1 : (errT n s.now [w] != 0) = true := by simp [he]
      refine pao [.k (.tup [.nils, .int .i64 (errT n s.now [w])]), .b true] rfl ?_ ?_
      · (repeat' with_reducible apply AllP_cons) <;> try exact aC
      exact S_ret ⟨_, _, rfl, trivial, rfl, L, h, rfl, QKeep.refl⟩
end Go.Proofs.Ytopdpbcfgjijaaa
end
section
set_option linter.unusedVariables false
set_option linter.unusedSimpArgs false
set_option maxRecDepth 20000
set_option maxHeartbeats 4000000
namespace Go.Proofs.Ytopdpbcfgjijaaa
open Go Go.Ab
theorem PAt.setT {σ : Heap} {L : PL} {t : TM} {s : PB} (h : PAt σ L t s) (tr : List Int) (hl : tr.length = s.trs.length) : PAt (σ.set L.tid (L.tv, some (.cells (intC tr) ⟨false, none⟩))) L t ⟨s.now, s.names, s.sts, tr, s.all⟩ := by
  have ap := h.ap
  refine ⟨Alive.set h.al _ _ _, ?_, ?_, ?_, set_eq h.tb, ?_, h.nd⟩
  · rw [set_ne ap.rt, h.rb]
    unfold pbB pbC
    rw [hl]
  · rw [set_ne ap.nt]; exact h.nb
  · rw [set_ne ap.st]; exact h.sb
  · rw [set_ne ap.ta.symm]; exact h.ab
theorem PAt.appA {σ : Heap} {L : PL} {t : TM} {s : PB} (h : PAt σ L t s) (x : LE) {L' : PL} (hL : L' = ⟨L.r, L.nid, L.sid, L.tid, L.aid, L.nv, L.sv, L.tv, L.av + 1⟩) :
    PAt ((σ.set L.aid (L.av + 1, some (.cells (lsC (s.all ++ [x])) ⟨false, none⟩))).set L.r (0, some (pbB t L' ⟨s.now, s.names, s.sts, s.trs, s.all ++ [x]⟩))) L' t ⟨s.now, s.names, s.sts, s.trs, s.all ++ [x]⟩ := by
  subst hL
  have ap := h.ap
  refine ⟨Alive.set (Alive.set h.al _ _ _) _ _ _, set_eq ((set_ne ap.ra).trans h.rb), ?_, ?_, ?_, ?_, h.nd⟩
  · show ((σ.set L.aid _).set L.r _)[L.nid]? = _
    rw [set_ne ap.rn.symm, set_ne ap.na]; exact h.nb
  · show ((σ.set L.aid _).set L.r _)[L.sid]? = _
    rw [set_ne ap.rs.symm, set_ne ap.sa]; exact h.sb
  · show ((σ.set L.aid _).set L.r _)[L.tid]? = _
    rw [set_ne ap.rt.symm, set_ne ap.ta]; exact h.tb
  · show ((σ.set L.aid _).set L.r _)[L.aid]? = _
    rw [set_ne ap.ra.symm, set_eq h.ab]
def pGrC (t : TM) (s : PB) (w : Int) (name : Nm) (a : Nat) : Int := if s.sts.getD a 0 ≥ 3 then 4 else if (s.all.findIdx? (hasP name w)).isSome = true then 6 else if ((manyP s.all name : Nat) : Int) = t.twins ∨ s.trs.getD a 0 = t.tries then 2 else 0
def pGrant1 (t : TM) (s : PB) (n w : Int) (name : Nm) : Int × PB := match s.names.findIdx? fun j => j == name with
  | none => (5, s)
  | some a => if pGrC t s w name a = 0 then (0, ⟨s.now, s.names, s.sts.set a 2, s.trs.set a (s.trs.getD a 0 + 1), s.all ++ [⟨name, w, n + t.last⟩]⟩) else (pGrC t s w name a, s)
def pGrant (t : TM) (s : PB) (n w : Int) (name : Nm) : Int × PB := if errT n s.now [w] = 0 then pGrant1 t (pTime t s n).1 n w name else (errT n s.now [w], s)
end Go.Proofs.Ytopdpbcfgjijaaa
end
section
set_option linter.unusedVariables false
set_option linter.unusedSimpArgs false
set_option maxRecDepth 20000
set_option maxHeartbeats 4000000
namespace Go.Proofs.Ytopdpbcfgjijaaa
open Go Go.Ab
theorem PGrant_ok (σ : Heap) (L : PL) (t : TM) (s : PB) (n w : Int) (name : Nm) (h : PAt σ L t s) (hw : PW s) (hal : s.all.length ≤ 50000) (hnl : s.names.length ≤ 1000) (hl1 : 1 ≤ t.last) (hl2 : t.last ≤ 1000000000) (htr : ∀ x ∈ (pTime t s n).1.trs, 0 ≤ x ∧ x ≤ 1000000) :
    CallOk cx 13 [.ptr L.r 0 0, .str name, .int .i64 w, .int .i64 n] σ (fun o u => o = .ret (.int .i64 (pGrant t s n w name).1) ∧ ∃ L', PAt u L' t (pGrant t s n w name).2 ∧ L'.r = L.r ∧ QKeep σ u (OwnP L) (OwnP L')) :=
  callOk_intro (fun a w => Try.call13 a w) Try.func13 rfl Try.ntmps13 rfl fun B => by
    unfold pGrant
    by_cases he : errT n s.now [w] = 0
    · rw [if_pos he]
      obtain ⟨hn0, hn1, _⟩ := errT_n he
      have hT := PTime_ok σ L t s n w h hw (by omega) hnl he
      obtain ⟨q1, q2⟩ := pTl_le t n s.all.length (pNow s n) 0 []
      have q1 : (pTime t s n).1.all.length ≤ s.all.length := q1
      have q2 : (pTime t s n).1.names = s.names := q2
      refine pao [] rfl ?_ ?_
      · (repeat' with_reducible apply AllP_cons) <;> try exact aC
      refine S_call rfl rfl rfl hT (fun v u hR => ?_) (fun v u hR => by obtain ⟨hR, _⟩ := hR; cases hR)
      obtain ⟨hR, L1, h1, hw1, hr, hk⟩ := hR
      cases hR
      generalize (pTime t s n).1 = s1 at *
      have hn1' : s1.names.length ≤ 1000 := by rw [q2]; exact hnl
      have hA := At_ok u L1 t s1 name h1 hn1'
      have hH := Has_ok u L1 t s1 name w h1 (by omega)
      have hM := Many_ok u L1 t s1 name h1 (by omega)
      rw [hr] at hA hH hM
      have hrb := h1.rb
      rw [hr] at hrb
      unfold pGrant1
      cases hf : s1.names.findIdx? fun j => j == name with
      | none =>
        have c1 : decide (idxP (fun j => j == name) s1.names < 0) = true := by unfold idxP; rw [hf]; rfl
        refine pao [.b false, .k (.int .i64 (idxP (fun j => j == name) s1.names)), .b true] rfl ?_ ?_
        · (repeat' with_reducible apply AllP_cons) <;> try exact aC
        exact S_ret ⟨_, _, rfl, trivial, rfl, L1, h1, hr, hk⟩
      | some a =>
        obtain ⟨ha, _⟩ := List.findIdx?_eq_some_iff_getElem.1 hf
        have hia : idxP (fun j => j == name) s1.names = (a : Int) := by unfold idxP; rw [hf]
        rw [hia] at hA
        have has : a < s1.sts.length := by rw [hw1.l1]; exact ha
        have hat : a < s1.trs.length := by rw [hw1.l2]; exact ha
        have hgs : s1.sts.getD a 0 = s1.sts[a] := by simp [List.getD, has]
        have hgt : s1.trs.getD a 0 = s1.trs[a] := by simp [List.getD, hat]
        have hsx := intC_at has
        have htx := intC_at hat
        have c1 : decide ((a : Int) < 0) = false := decide_eq_false (by omega)
        have c2 : decide ((a : Int) < (s1.sts.length : Int)) = true := decide_eq_true (by omega)
        have c2' : decide ((a : Int) < (s1.trs.length : Int)) = true := decide_eq_true (by omega)
        simp only
        by_cases g1 : s1.sts[a] ≥ 3
        · have c3 : decide (s1.sts[a] ≥ 3) = true := decide_eq_true g1
          have hg : pGrC t s1 w name a = 4 := by unfold pGrC; rw [hgs, if_pos g1]
          refine pao [.b false, .k (.int .i64 (a : Int)), .b false, .v (.ms L1.sid L1.sv 0 s1.sts.length 1 false), .v .top, .v (.int .i64 s1.sts[a]), .b true] rfl ?_ ?_
          · (repeat' with_reducible apply AllP_cons) <;> try exact aC
            · exact OpSpec.loadP rfl rfl rfl rfl hrb rfl
            · exact OpSpec.loadE rfl rfl rfl rfl h1.sb hsx
          rw [hg, if_neg (by decide)]
          exact S_ret ⟨_, _, rfl, trivial, rfl, L1, h1, hr, hk⟩
        have c3 : decide (s1.sts[a] ≥ 3) = false := decide_eq_false g1
        cases hh : s1.all.findIdx? (hasP name w) with
        | some q =>
          have c4 : decide (idxP (hasP name w) s1.all ≥ 0) = true := by unfold idxP; rw [hh]; exact decide_eq_true (by show (q : Int) ≥ 0; omega)
          have hg : pGrC t s1 w name a = 6 := by unfold pGrC; rw [hgs, if_neg g1, if_pos (by rw [hh]; rfl)]
          refine pao [.b false, .k (.int .i64 (a : Int)), .b false, .v (.ms L1.sid L1.sv 0 s1.sts.length 1 false), .v .top, .v (.int .i64 s1.sts[a]), .b false, .k (.int .i64 (idxP (hasP name w) s1.all)), .b true] rfl ?_ ?_
          · (repeat' with_reducible apply AllP_cons) <;> try exact aC
            · exact OpSpec.loadP rfl rfl rfl rfl hrb rfl
            · exact OpSpec.loadE rfl rfl rfl rfl h1.sb hsx
          rw [hg, if_neg (by decide)]
          exact S_ret ⟨_, _, rfl, trivial, rfl, L1, h1, hr, hk⟩
        | none =>
          have c4 : decide (idxP (hasP name w) s1.all ≥ 0) = false := by unfold idxP; rw [hh]; rfl
          refine pao [.b false, .k (.int .i64 (a : Int)), .b false, .v (.ms L1.sid L1.sv 0 s1.sts.length 1 false), .v .top, .v (.int .i64 s1.sts[a]), .b false, .k (.int .i64 (idxP (hasP name w) s1.all)), .b false] rfl ?_ ?_
          · (repeat' with_reducible apply AllP_cons) <;> try exact aC
            · exact OpSpec.loadP rfl rfl rfl rfl hrb rfl
            · exact OpSpec.loadE rfl rfl rfl rfl h1.sb hsx
          by_cases g2 : ((manyP s1.all name : Nat) : Int) = t.twins
          · have c5 : (((manyP s1.all name : Nat) : Int) == t.twins) = true := by simp [g2]
            have hg : pGrC t s1 w name a = 2 := by unfold pGrC; rw [hgs, if_neg g1, if_neg (by rw [hh]; simp), if_pos (.inl g2)]
            refine S_drawOC u 2 25 [.int .i64 (manyP s1.all name : Nat), .int .i64 t.twins, .bool true] rfl rfl rfl rfl (fun t => rfl) (fun u' hu => ?_) (fun o v ho hv => ?_) ?_
            · have : u' = u := by rcases hu with rfl | rfl <;> rfl
              subst this
              (repeat' with_reducible apply AllP_cons) <;> try exact aC
              all_goals exact OpSpec.loadP rfl rfl rfl rfl hrb rfl
            · cases ho; cases hv
              exact chgW_step rfl rfl hM
            refine pao [.b true] rfl ?_ ?_
            · (repeat' with_reducible apply AllP_cons) <;> try exact aC
            rw [hg, if_neg (by decide)]
            exact S_ret ⟨_, _, rfl, trivial, rfl, L1, h1, hr, hk⟩
          have c5 : (((manyP s1.all name : Nat) : Int) == t.twins) = false := by simp [g2]
          refine S_drawOC u 2 25 [.int .i64 (manyP s1.all name : Nat), .int .i64 t.twins, .bool false, .ms L1.tid L1.tv 0 s1.trs.length 1 false, .top, .int .i64 s1.trs[a], .int .i64 t.tries] rfl rfl rfl rfl (fun t => rfl) (fun u' hu => ?_) (fun o v ho hv => ?_) ?_
          · have : u' = u := by rcases hu with rfl | rfl <;> rfl
            subst this
            (repeat' with_reducible apply AllP_cons) <;> try exact aC
            all_goals first | exact OpSpec.loadE rfl rfl rfl rfl h1.tb htx | exact OpSpec.loadP rfl rfl rfl rfl hrb rfl
          · cases ho; cases hv
            exact chgW_step rfl rfl hM
          by_cases g3 : s1.trs[a] = t.tries
          · have c6 : (s1.trs[a] == t.tries) = true := by simp [g3]
            have hg : pGrC t s1 w name a = 2 := by unfold pGrC; rw [hgs, if_neg g1, if_neg (by rw [hh]; simp), if_pos (.inr (by rw [hgt]; exact g3))]
            refine pao [.b true] rfl ?_ ?_
            · (repeat' with_reducible apply AllP_cons) <;> try exact aC
            rw [hg, if_neg (by decide)]
            exact S_ret ⟨_, _, rfl, trivial, rfl, L1, h1, hr, hk⟩
          have c6 : (s1.trs[a] == t.tries) = false := by simp [g3]
          have hg : pGrC t s1 w name a = 0 := by unfold pGrC; rw [hgs, if_neg g1, if_neg (by rw [hh]; simp), if_neg (by rw [hgt]; simp [g2, g3])]
          rw [hg, if_pos rfl, hgt]
          obtain ⟨htr0, htr1⟩ := htr s1.trs[a] (List.getElem_mem hat)
          have hwt : IntKind.i64.wrap (s1.trs[a] + 1) = s1.trs[a] + 1 := IntWalk.i64_in _ ⟨by omega, by omega⟩
          have hwn : IntKind.i64.wrap (n + t.last) = n + t.last := IntWalk.i64_in _ ⟨by omega, by omega⟩
          obtain ⟨S2, hS2⟩ : ∃ S2 : Nat × Option Box, S2 = (L1.sv, some (.cells (intC (s1.sts.set a 2)) ⟨false, none⟩)) := ⟨_, rfl⟩
          obtain ⟨T2, hT2⟩ : ∃ T2 : Nat × Option Box, T2 = (L1.tv, some (.cells (intC (s1.trs.set a (s1.trs[a] + 1))) ⟨false, none⟩)) := ⟨_, rfl⟩
          have h2 := h1.setS (s1.sts.set a 2) (List.length_set ..)
          rw [← hS2] at h2
          have h3 := h2.setT (s1.trs.set a (s1.trs[a] + 1)) (List.length_set ..)
          rw [← hT2] at h3
          have hrb2 : (u.set L1.sid S2)[L.r]? = some (0, some (.cells (pbC t L1 ⟨s1.now, s1.names, s1.sts.set a 2, s1.trs, s1.all⟩) ⟨false, some 36⟩)) := by rw [← hr]; exact h2.rb
          have hrb3 : ((u.set L1.sid S2).set L1.tid T2)[L.r]? = some (0, some (.cells (pbC t L1 ⟨s1.now, s1.names, s1.sts.set a 2, s1.trs.set a (s1.trs[a] + 1), s1.all⟩) ⟨false, some 36⟩)) := by rw [← hr]; exact h3.rb
          have htb2 : (u.set L1.sid S2)[L1.tid]? = some (L1.tv, some (.cells (intC s1.trs) ⟨false, none⟩)) := h2.tb
          have hab3 : ((u.set L1.sid S2).set L1.tid T2)[L1.aid]? = some (L1.av, some (.cells (lsC s1.all) ⟨false, none⟩)) := h3.ab
          refine pao [.b false, .v (.ms L1.sid L1.sv 0 s1.sts.length 1 false), .v .top, .f (.tup []) (fun x => x.set L1.sid S2), .v (.ms L1.tid L1.tv 0 s1.trs.length 1 false), .v .top, .v (.int .i64 s1.trs[a]), .v .top, .f (.tup []) (fun x => x.set L1.tid T2)] rfl ?_ ?_
          · (repeat' with_reducible apply AllP_cons) <;> try exact aC
            · exact OpSpec.loadP rfl rfl rfl rfl hrb rfl
            · refine OpSpec.storeX (id := L1.sid) (off := offN 0 (mulN ((a : Int)).toNat 1)) (cs := intC s1.sts) (y := .int .i64 2) rfl rfl rfl rfl rfl rfl h1.sb (show offN 0 (mulN ((a : Int)).toNat 1) + 1 ≤ (intC s1.sts).length by rw [offN_eq, mulN_eq, Int.toNat_natCast, intC_len]; omega) ?_
              have e0 := intC_set has 2
              rw [hS2, ← e0]; rfl
            · exact OpSpec.loadP rfl rfl rfl rfl hrb2 rfl
            · exact OpSpec.loadE rfl rfl rfl rfl htb2 htx
            · refine OpSpec.storeX (id := L1.tid) (off := offN 0 (mulN ((a : Int)).toNat 1)) (cs := intC s1.trs) (y := .int .i64 (s1.trs[a] + 1)) rfl rfl rfl ?_ rfl rfl htb2 (show offN 0 (mulN ((a : Int)).toNat 1) + 1 ≤ (intC s1.trs).length by rw [offN_eq, mulN_eq, Int.toNat_natCast, intC_len]; omega) ?_
              · show AV.int .i64 (IntKind.i64.wrap (s1.trs[a] + 1)) = _
                rw [hwt]
              · have e0 := intC_set hat (s1.trs[a] + 1)
                rw [hT2, ← e0]; rfl
          obtain ⟨x, hx⟩ : ∃ x : LE, x = ⟨name, w, n + t.last⟩ := ⟨_, rfl⟩
          obtain ⟨A2, hA2⟩ : ∃ A2 : Nat × Option Box, A2 = (L1.av + 1, some (.cells (lsC (s1.all ++ [x])) ⟨false, none⟩)) := ⟨_, rfl⟩
          obtain ⟨L3, hL3⟩ : ∃ L3 : PL, L3 = ⟨L1.r, L1.nid, L1.sid, L1.tid, L1.aid, L1.nv, L1.sv, L1.tv, L1.av + 1⟩ := ⟨_, rfl⟩
          obtain ⟨R3, hR3⟩ : ∃ R3 : Nat × Option Box, R3 = (0, some (pbB t L3 ⟨s1.now, s1.names, s1.sts.set a 2, s1.trs.set a (s1.trs[a] + 1), s1.all ++ [x]⟩)) := ⟨_, rfl⟩
          have h4 := h3.appA x hL3
          rw [← hA2, ← hR3, hr] at h4
          refine S_heap ((u.set L1.sid S2).set L1.tid T2) rfl ?_
          have hkk : QKeep σ ((u.set L1.sid S2).set L1.tid T2) (OwnP L) (OwnP L1) := (hk.trans (keepP (ownP.2 (.inr (.inr (.inl rfl)))))).trans (keepP (ownP.2 (.inr (.inr (.inr (.inl rfl))))))
          have hra : L.r ≠ L1.aid := by rw [← hr]; exact h1.ap.ra
          generalize (u.set L1.sid S2).set L1.tid T2 = u3 at *
          refine S_drawOC (u3.set L1.aid A2) 16 17 [.ms L1.aid L1.av 0 s1.all.length 3 false, .int .i64 t.last, .ms L1.aid (L1.av + 1) 0 (s1.all.length + 1) 3 false] rfl rfl rfl rfl (fun t => rfl) (fun u' hu => ?_) (fun o v ho hv => ?_) ?_
          · have hlr : u'[L.r]? = some (0, some (.cells (pbC t L1 ⟨s1.now, s1.names, s1.sts.set a 2, s1.trs.set a (s1.trs[a] + 1), s1.all⟩) ⟨false, some 36⟩)) := by
              rcases hu with rfl | rfl
              · exact hrb3
              · rw [set_ne hra]; exact hrb3
            (repeat' with_reducible apply AllP_cons) <;> try exact aC
            all_goals exact OpSpec.loadP rfl rfl rfl rfl hlr rfl
          · cases ho; cases hv
            refine specC_step rfl rfl (OpSpec.appendX (st := true) (fl := true) (id := L1.aid) (ver := L1.av) (off := 0) (len := s1.all.length) (y := .agg x.cells) (cs := lsC s1.all) rfl rfl rfl rfl ?_ ?_ hab3 ?_ ?_ ?_ ?_)
            · show AV.sl true true 3 [.agg [.str name, .int .i64 w, .int .i64 (IntKind.i64.wrap (n + t.last))]] = .sl true true 3 [.agg x.cells]
              rw [hwn, hx]; rfl
            · intro z hz
              have hz : z ∈ x.cells := hz
              exact lsC_one [x] z (by unfold lsC; simpa using hz)
            · rw [lsC_len]; omega
            · show (s1.all.length + 1) * 32 ≤ _; omega
            · omega
            · rw [hA2, ← lsC_snoc]; rfl
          refine pao [.f (.tup []) (fun x => x.set L.r R3)] rfl ?_ ?_
          · (repeat' with_reducible apply AllP_cons) <;> try exact aC
            · refine OpSpec.storeP (id := L.r) (gT := some 36) (cs := pbC t L1 ⟨s1.now, s1.names, s1.sts.set a 2, s1.trs.set a (s1.trs[a] + 1), s1.all⟩) (y := .ms L1.aid (L1.av + 1) 0 (s1.all.length + 1) 3 false) rfl rfl rfl rfl rfl rfl ((set_ne hra).trans hrb3) (lble rfl) ?_
              rw [hR3, hL3]
              unfold pbB pbC
              simp only [List.length_append, List.length_cons, List.length_nil, List.length_set]
              rfl
          have hid : idsP L3 = idsP L1 := by rw [hL3]; rfl
          have hO : OwnP L3 = OwnP L1 := by funext id; unfold OwnP; rw [hid]
          refine S_ret ⟨_, _, rfl, trivial, rfl, L3, ?_, by rw [hL3]; exact hr, ?_⟩
          · rw [← hx]; exact h4
          · rw [hO]
            exact (hkk.trans (keepP (ownP.2 (.inr (.inr (.inr (.inr rfl))))))).trans (keepP (by rw [← hr]; exact ownP.2 (.inl rfl)))
    · rw [if_neg he]
      have hT := PTime_bad σ L t s n w h he
      have c1 : (errT n s.now [w] != 0) = true := by simp [he]
      refine pao [.k (.tup [.nils, .int .i64 (errT n s.now [w])]), .b true] rfl ?_ ?_
      · (repeat' with_reducible apply AllP_cons) <;> try exact aC
      exact S_ret ⟨_, _, rfl, trivial, rfl, L, h, rfl, QKeep.refl⟩
end Go.Proofs.Ytopdpbcfgjijaaa
end
section
set_option linter.unusedVariables false
set_option linter.unusedSimpArgs false
set_option maxRecDepth 20000
set_option maxHeartbeats 4000000
namespace Go.Proofs.Ytopdpbcfgjijaaa
open Go Go.Ab
theorem termOk_iff (t : TM) : termOk t = (((((decide (t.last ≥ 1) && decide (t.last ≤ 1000000000)) && decide (t.tries ≥ 1)) && decide (t.tries ≤ 10)) && decide (t.twins ≥ 1)) && decide (t.twins ≤ 5)) := by
  unfold termOk witB
  simp only [Bool.and_assoc]
theorem RightTerms_ok (t : TM) : Calc cx 8 [termA t] (.bool (termOk t)) :=
  pure_intro (fun a w => Try.call8 a w) Try.func8 rfl Try.ntmps8 rfl .bool fun B => by
    rw [termOk_iff]
    have hbx : ∀ {n fr o}, o.op = .box 23 (.tmp 0) → ev cx fr (.tmp 0) = termA t → OpSpec cx n fr [] o (.ptr 0 0 0) ([] ++ [termB t]) := fun ho he => OpSpec.boxE ho he rfl rfl (fun e he => by cases he)
    have hx : ([termB t] : Heap)[0]? = some (termB t) := rfl
    cases e1 : decide (t.last ≥ 1) with
    | false =>
      refine pao [.f (.ptr 0 0 0) (fun s => s ++ [termB t]), .v (.int .i64 t.last), .b false, .b false, .b false, .b false, .b false] rfl ?_ ?_
      · (repeat' with_reducible apply AllP_cons) <;> try exact aC
        · exact hbx rfl rfl
        · exact OpSpec.loadP (id := 0) rfl rfl rfl rfl hx rfl
      exact S_ret ⟨_, _, rfl, trivial, _, rfl, .refl .bool⟩
    | true =>
      cases e2 : decide (t.last ≤ 1000000000) with
      | false =>
        refine pao [.f (.ptr 0 0 0) (fun s => s ++ [termB t]), .v (.int .i64 t.last), .b true, .v (.int .i64 t.last), .b false, .b false, .b false, .b false] rfl ?_ ?_
        · (repeat' with_reducible apply AllP_cons) <;> try exact aC
          · exact hbx rfl rfl
          · exact OpSpec.loadP (id := 0) rfl rfl rfl rfl hx rfl
          · exact OpSpec.loadP (id := 0) rfl rfl rfl rfl hx rfl
        exact S_ret ⟨_, _, rfl, trivial, _, rfl, .refl .bool⟩
      | true =>
        cases e3 : decide (t.tries ≥ 1) with
        | false =>
          refine pao [.f (.ptr 0 0 0) (fun s => s ++ [termB t]), .v (.int .i64 t.last), .b true, .v (.int .i64 t.last), .b true, .v (.int .i64 t.tries), .b false, .b false, .b false] rfl ?_ ?_
          · (repeat' with_reducible apply AllP_cons) <;> try exact aC
            · exact hbx rfl rfl
            all_goals exact OpSpec.loadP (id := 0) rfl rfl rfl rfl hx rfl
          exact S_ret ⟨_, _, rfl, trivial, _, rfl, .refl .bool⟩
        | true =>
          cases e4 : decide (t.tries ≤ 10) with
          | false =>
            refine pao [.f (.ptr 0 0 0) (fun s => s ++ [termB t]), .v (.int .i64 t.last), .b true, .v (.int .i64 t.last), .b true, .v (.int .i64 t.tries), .b true, .v (.int .i64 t.tries), .b false, .b false] rfl ?_ ?_
            · (repeat' with_reducible apply AllP_cons) <;> try exact aC
              · exact hbx rfl rfl
              all_goals exact OpSpec.loadP (id := 0) rfl rfl rfl rfl hx rfl
            exact S_ret ⟨_, _, rfl, trivial, _, rfl, .refl .bool⟩
          | true =>
            cases e5 : decide (t.twins ≥ 1) with
            | false =>
              refine pao [.f (.ptr 0 0 0) (fun s => s ++ [termB t]), .v (.int .i64 t.last), .b true, .v (.int .i64 t.last), .b true, .v (.int .i64 t.tries), .b true, .v (.int .i64 t.tries), .b true, .v (.int .i64 t.twins), .b false] rfl ?_ ?_
              · (repeat' with_reducible apply AllP_cons) <;> try exact aC
                · exact hbx rfl rfl
                all_goals exact OpSpec.loadP (id := 0) rfl rfl rfl rfl hx rfl
              exact S_ret ⟨_, _, rfl, trivial, _, rfl, .refl .bool⟩
            | true =>
              refine pao [.f (.ptr 0 0 0) (fun s => s ++ [termB t]), .v (.int .i64 t.last), .b true, .v (.int .i64 t.last), .b true, .v (.int .i64 t.tries), .b true, .v (.int .i64 t.tries), .b true, .v (.int .i64 t.twins), .b true, .v (.int .i64 t.twins)] rfl ?_ ?_
              · (repeat' with_reducible apply AllP_cons) <;> try exact aC
                · exact hbx rfl rfl
                all_goals exact OpSpec.loadP (id := 0) rfl rfl rfl rfl hx rfl
              exact S_ret ⟨_, _, rfl, trivial, _, rfl, .refl .bool⟩
end Go.Proofs.Ytopdpbcfgjijaaa
end
section
set_option linter.unusedVariables false
set_option linter.unusedSimpArgs false
set_option maxRecDepth 20000
namespace Go.Proofs.Ytopdpbcfgjijaaa
open Go Go.Ab
theorem ltL_uniq : ∀ {a b : List LE}, a.Perm b → a.Pairwise ltL → b.Pairwise ltL → a = b
  | [], b, hp, _, _ => (List.nil_perm.1 hp).symm
  | x :: a, [], hp, _, _ => absurd hp.length_eq (by simp)
  | x :: a, y :: b, hp, ha, hb => by
    obtain ⟨a1, a2⟩ := List.pairwise_cons.1 ha
    obtain ⟨b1, b2⟩ := List.pairwise_cons.1 hb
    have hxy : x = y := by
      rcases List.mem_cons.1 (hp.mem_iff.1 (List.mem_cons_self ..)) with h | h
      · exact h
      · rcases List.mem_cons.1 (hp.mem_iff.2 (List.mem_cons_self ..)) with h' | h'
        · exact h'.symm
        · exact absurd (ltL_trans (b1 x h) (a1 y h')) (ltL_irr y)
    subst hxy
    rw [ltL_uniq (List.Perm.cons_inv hp) a2 b2]
end Go.Proofs.Ytopdpbcfgjijaaa
end
section
set_option linter.unusedVariables false
set_option linter.unusedSimpArgs false
set_option maxRecDepth 20000
namespace Go.Proofs.Ytopdpbcfgjijaaa
open Go Go.Ab
def erE (e : JE) (j : Nat) : JE := { e with till := e.till.eraseIdx j }
theorem tick_er (a n : Int) (e : JE) {j : Nat} (hj : j < e.till.length) (hx : e.till[j].2 < n) : tickE a n (freeE a (erE e j)) = tickE a n e := by
  have hl : liv n (e.till.eraseIdx j) = liv n e.till := filter_eraseIdx _ _ _ hj (by simpa using hx)
  have ht : tillE n (erE e j) = tillE n e := by
    show ({ e with till := liv n (e.till.eraseIdx j) } : JE) = { e with till := liv n e.till }
    rw [hl]
  cases hf : frees (erE e j) with
  | false =>
    have : freeE a (erE e j) = erE e j := by unfold freeE; rw [hf]; rfl
    rw [this]
    unfold tickE
    rw [ht]
  | true =>
    have hf' := hf
    unfold frees at hf'
    rw [Bool.and_eq_true] at hf'
    have hst : e.st = 2 := by simpa [erE] using hf'.1
    have h0 : e.till.eraseIdx j = [] := List.isEmpty_iff.1 hf'.2
    have hlv : liv n e.till = [] := by rw [← hl, h0]; rfl
    have e1 : freeE a (erE e j) = { e with st := if e.tried = a then 4 else 1, till := [] } := by
      unfold freeE
      rw [hf, if_pos rfl]
      show ({ e with st := if e.tried = a then 4 else 1, till := e.till.eraseIdx j } : JE) = _
      rw [h0]
    have e2 : tickE a n e = { e with st := if e.tried = a then 4 else 1, till := [] } := by
      have hfr : frees (tillE n e) = true := by
        unfold frees tillE
        rw [hlv, hst]; rfl
      unfold tickE freeE
      rw [hfr, if_pos rfl]
      show ({ e with st := if e.tried = a then 4 else 1, till := liv n e.till } : JE) = _
      rw [hlv]
    rw [e1, e2]
    have hfr : frees (tillE n { e with st := if e.tried = a then 4 else 1, till := [] }) = false := by
      unfold frees tillE
      show ((if e.tried = a then (4 : Int) else 1) == 2 && _) = false
      split <;> rfl
    unfold tickE freeE
    rw [hfr]; rfl
theorem tick_id {t : TM} {n : Int} {e : JE} (h : EOk t e) (hl : ∀ p ∈ e.till, ¬ p.2 < n) : tickE t.tries n e = e := by
  have hlv : liv n e.till = e.till := by
    unfold liv
    rw [List.filter_eq_self]
    intro p hp
    exact decide_eq_true (hl p hp)
  have ht : tillE n e = e := by
    show ({ e with till := liv n e.till } : JE) = e
    rw [hlv]
  unfold tickE
  rw [ht]
  unfold freeE
  have hf : frees e = false := by
    unfold frees
    by_cases h2 : e.st = 2
    · have := h.le h2
      simp [h2, this]
    · simp [h2]
  rw [hf]; rfl
end Go.Proofs.Ytopdpbcfgjijaaa
end
section
set_option linter.unusedVariables false
set_option linter.unusedSimpArgs false
set_option maxRecDepth 20000
set_option maxHeartbeats 1000000
namespace Go.Proofs.Ytopdpbcfgjijaaa
open Go Go.Ab
theorem blt_lt2 (a b : Nm) : Op.bytesLess a b = true ↔ a < b := by rw [bl_eq]; simp
theorem bll_le2 {a b : Nm} (h : ¬ Op.bytesLess a b = true) : b ≤ a := by
  rw [bl_eq] at h
  simp only [decide_eq_true_eq] at h
  exact List.not_lt.1 h
theorem addT_fresh {m : List Nm} {s : Nm} (hs : s ∉ m) : addT (sortT m) s = sortT (m ++ [s]) := by
  obtain ⟨l, hl⟩ : ∃ l, l = sortT m := ⟨_, rfl⟩
  have hmem : ∀ x, x ∈ l ↔ x ∈ m := fun x => by rw [hl]; exact (sortT_perm m).mem_iff
  have hpw : l.Pairwise (fun x y => x ≤ y) := by rw [hl]; exact sortT_pw m
  have hpg : ∀ i j (hi : i < l.length) (hj : j < l.length), i ≤ j → l[i] ≤ l[j] := fun i j hi hj hij => by
    rcases Nat.lt_or_ge i j with h | h
    · exact List.pairwise_iff_getElem.1 hpw i j hi hj h
    · have : i = j := by omega
      subst this; exact List.le_refl _
  rw [← hl]
  have hsl : ¬ l[lessN s l]? = some s := fun h => hs ((hmem s).1 (List.mem_of_getElem? h))
  have hbefore : ∀ i (hi : i < l.length), i < lessN s l → l[i] < s := fun i hi h => (blt_lt2 _ _).1 (lessN_lt hi h)
  have hafter : ∀ i (hi : i < l.length), lessN s l ≤ i → s ≤ l[i] := fun i hi h => by
    have hk2 : lessN s l < l.length := by omega
    have h1 := lessN_at hk2
    exact List.le_trans (bll_le2 (by rw [h1]; simp)) (hpg _ _ hk2 hi h)
  rw [addT, if_neg hsl]
  refine perm_sorted ?_ ?_ (sortT_pw _)
  · refine List.perm_middle.trans ?_
    rw [List.take_append_drop]
    refine List.Perm.trans ?_ (sortT_perm _).symm
    rw [hl]
    refine ((sortT_perm m).cons s).trans ?_
    exact (List.perm_append_singleton s m).symm
  · rw [List.pairwise_append]
    refine ⟨hpw.sublist (List.take_sublist _ _), ?_, ?_⟩
    · rw [List.pairwise_cons]
      refine ⟨fun x hx => ?_, hpw.sublist (List.drop_sublist _ _)⟩
      obtain ⟨i, hi, rfl⟩ := List.getElem_of_mem hx
      rw [List.getElem_drop]
      rw [List.length_drop] at hi
      exact hafter _ (by omega) (by omega)
    · intro x hx y hy
      obtain ⟨i, hi, rfl⟩ := List.getElem_of_mem hx
      rw [List.length_take] at hi
      rw [List.getElem_take]
      have h1 := List.le_of_lt (hbefore i (by omega) (by omega))
      rcases List.mem_cons.1 hy with rfl | hy
      · exact h1
      · obtain ⟨j, hj, rfl⟩ := List.getElem_of_mem hy
        rw [List.length_drop] at hj
        rw [List.getElem_drop]
        exact List.le_trans h1 (hafter _ (by omega) (by omega))
end Go.Proofs.Ytopdpbcfgjijaaa
end
section
set_option linter.unusedVariables false
set_option linter.unusedSimpArgs false
set_option maxRecDepth 20000
set_option maxHeartbeats 1000000
namespace Go.Proofs.Ytopdpbcfgjijaaa
open Go Go.Ab
theorem era_map {α β : Type} (f : α → β) : ∀ (l : List α) (j : Nat), (l.map f).eraseIdx j = (l.eraseIdx j).map f
  | [], j => rfl
  | x :: l, 0 => rfl
  | x :: l, j + 1 => by simp [era_map f l j]
theorem era_perm {α : Type} : ∀ {l : List α} {i : Nat} (h : i < l.length), (l[i] :: l.eraseIdx i).Perm l
  | x :: l, 0, h => .refl _
  | x :: l, i + 1, h => by
    have ih := era_perm (l := l) (i := i) (by simpa using h)
    simp only [List.getElem_cons_succ, List.eraseIdx_cons_succ]
    exact (List.Perm.swap _ _ _).trans (ih.cons x)
structure SimP (s : PB) (now : Int) (es : List JE) : Prop where
  nw : s.now = now
  nm : s.names = es.map JE.name
  st : s.sts = es.map JE.st
  tr : s.trs = es.map JE.tried
  al : s.all.Perm (allL es)
  s4 : ∀ e ∈ es, e.st = 1 ∨ e.st = 2 ∨ e.st = 3 ∨ e.st = 4
theorem mem_leJ {e : JE} {x : LE} : x ∈ leJ e ↔ ∃ p ∈ e.till, x = ⟨e.name, p.1, p.2⟩ := by
  unfold leJ
  rw [List.mem_map]
  constructor
  · rintro ⟨p, hp, rfl⟩; exact ⟨p, hp, rfl⟩
  · rintro ⟨p, hp, rfl⟩; exact ⟨p, hp, rfl⟩
theorem mem_allL {es : List JE} {x : LE} : x ∈ allL es ↔ ∃ e ∈ es, ∃ p ∈ e.till, x = ⟨e.name, p.1, p.2⟩ := by
  unfold allL
  rw [List.mem_flatMap]
  exact ⟨fun ⟨e, he, h⟩ => ⟨e, he, mem_leJ.1 h⟩, fun ⟨e, he, h⟩ => ⟨e, he, mem_leJ.2 h⟩⟩
theorem SimP.pw {s : PB} {now : Int} {es : List JE} (h : SimP s now es) : PW s := by
  refine ⟨?_, ?_, fun x hx => ?_⟩
  · rw [h.st, h.nm]; simp
  · rw [h.tr, h.nm]; simp
  · obtain ⟨e, he, p, _, rfl⟩ := mem_allL.1 (h.al.mem_iff.1 hx)
    rw [h.nm]; exact List.mem_map_of_mem he
theorem SimP.find {s : PB} {now : Int} {es : List JE} (h : SimP s now es) (job : Nm) : (s.names.findIdx? fun j => j == job) = atL es job := by
  rw [h.nm, List.findIdx?_map]; rfl
theorem atL_of {t : TM} {es : List JE} (hb : BOk t es) {a : Nat} (ha : a < es.length) : atL es es[a].name = some a := by
  unfold atL
  rw [List.findIdx?_eq_some_iff_getElem]
  refine ⟨ha, by simp, fun j hj => ?_⟩
  have hj2 : j < es.length := by omega
  simp only [beq_iff_eq]
  intro e
  have := nodup_inj hb.nn (i := j) (k := a) (by simpa using hj2) (by simpa using ha) (by simpa using e)
  omega
theorem split_l {α : Type} {l : List α} {a : Nat} (h : a < l.length) : ∃ p q, l = p ++ l[a] :: q ∧ ∀ y, l.set a y = p ++ y :: q := by
  refine ⟨l.take a, l.drop (a + 1), ?_, fun y => ?_⟩
  · rw [List.getElem_cons_drop, List.take_append_drop]
  · rw [List.set_eq_take_append_cons_drop, if_pos h]
theorem allL_mid (p q : List JE) (e : JE) : allL (p ++ e :: q) = allL p ++ (leJ e ++ allL q) := by
  unfold allL; rw [List.flatMap_append, List.flatMap_cons]
theorem leJ_er (e : JE) (j : Nat) : leJ (erE e j) = (leJ e).eraseIdx j := by
  unfold leJ
  exact (era_map _ _ _).symm
theorem leJ_free (a : Int) (e : JE) : leJ (freeE a e) = leJ e := by
  obtain ⟨_, _, h3, h4, _⟩ := freeE_jid a e
  unfold leJ; rw [h3, h4]
theorem er_perm {es : List JE} {a j : Nat} (ha : a < es.length) (hj : j < es[a].till.length) : (⟨es[a].name, es[a].till[j].1, es[a].till[j].2⟩ :: allL (es.set a (erE es[a] j))).Perm (allL es) := by
  obtain ⟨p, q, h1, h2⟩ := split_l ha
  have hjl : j < (leJ es[a]).length := by unfold leJ; rw [List.length_map]; exact hj
  have hx : (⟨es[a].name, es[a].till[j].1, es[a].till[j].2⟩ : LE) = (leJ es[a])[j] := by
    simp [leJ, leP]
  have e1 : allL es = allL p ++ (leJ es[a] ++ allL q) := by conv => lhs; rw [h1, allL_mid]
  rw [h2, allL_mid, leJ_er, hx, e1]
  refine List.perm_middle.symm.trans (List.Perm.append_left _ ?_)
  rw [← List.cons_append]
  exact (era_perm hjl).append_right _
theorem set_map {es : List JE} {a : Nat} (ha : a < es.length) {β : Type} (f : JE → β) {e : JE} (h : f e = f es[a]) : (es.set a e).map f = es.map f := by
  obtain ⟨p, q, h1, h2⟩ := split_l ha
  rw [h2]
  conv => rhs; rw [h1]
  simp [h]
theorem EOk.er {t : TM} {e : JE} (h : EOk t e) (j : Nat) : EW t (erE e j) := by
  have hs : (e.till.eraseIdx j).Sublist e.till := List.eraseIdx_sublist ..
  refine ⟨?_, h.t0, h.t1, fun hn => h.ho fun h0 => hn ?_, h.tk.sublist (hs.map _)⟩
  · have := hs.length_le; have := h.tw
    show ((e.till.eraseIdx j).length : Int) ≤ _
    omega
  · show e.till.eraseIdx j = []
    rw [h0]; rfl
theorem free_s4 {a : Int} {e : JE} (h : e.st = 1 ∨ e.st = 2 ∨ e.st = 3 ∨ e.st = 4) : (freeE a e).st = 1 ∨ (freeE a e).st = 2 ∨ (freeE a e).st = 3 ∨ (freeE a e).st = 4 := by
  unfold freeE
  split
  · show (if e.tried = a then (4 : Int) else 1) = 1 ∨ _
    by_cases h1 : e.tried = a
    · simp [h1]
    · simp [h1]
  · exact h
theorem s4_set {es : List JE} {a : Nat} {e : JE} (h : ∀ e ∈ es, e.st = 1 ∨ e.st = 2 ∨ e.st = 3 ∨ e.st = 4) (he : e.st = 1 ∨ e.st = 2 ∨ e.st = 3 ∨ e.st = 4) : ∀ x ∈ es.set a e, x.st = 1 ∨ x.st = 2 ∨ x.st = 3 ∨ x.st = 4 := fun x hx => by
  rcases List.mem_or_eq_of_mem_set hx with hx | rfl
  · exact h x hx
  · exact he
theorem SimP.drop {t : TM} {s : PB} {now : Int} {es : List JE} (h : SimP s now es) (hb : BOk t es) {i a j : Nat} (hi : i < s.all.length) (ha : a < es.length) (hj : j < es[a].till.length) (hx : s.all[i] = ⟨es[a].name, es[a].till[j].1, es[a].till[j].2⟩) :
    pFree s i a es[a].name = frees (erE es[a] j) ∧ SimP (pDrop t s i a es[a].name) now (es.set a (freeE t.tries (erE es[a] j))) ∧ BOk t (es.set a (freeE t.tries (erE es[a] j))) := by
  obtain ⟨f1, f2, f3, f4, f5⟩ := freeE_jid t.tries (erE es[a] j)
  have hb' := (hb.set ha (e := freeE t.tries (erE es[a] j)) f3 ((hb.eo _ (List.getElem_mem ha)).er j).free)
  have hset : allL (es.set a (freeE t.tries (erE es[a] j))) = allL (es.set a (erE es[a] j)) := by
    obtain ⟨p, q, h1, h2⟩ := split_l ha
    rw [h2, h2, allL_mid, allL_mid, leJ_free]
  have hp : (s.all.eraseIdx i).Perm (allL (es.set a (erE es[a] j))) := by
    have h1 := (era_perm hi).trans (h.al.trans (er_perm ha hj).symm)
    rw [hx] at h1
    exact h1.cons_inv
  have hn0 : ((es.set a (erE es[a] j)).map JE.name).Nodup := by rw [set_map ha JE.name (e := erE es[a] j) rfl]; exact hb.nn
  have hmany : manyP (s.all.eraseIdx i) es[a].name = (erE es[a] j).till.length := by
    unfold manyP
    rw [hp.countP_eq]
    exact many_of hn0 (erE es[a] j) (List.mem_iff_getElem.2 ⟨a, by rw [List.length_set]; exact ha, List.getElem_set_self ..⟩)
  have hst : s.sts.getD a 0 = es[a].st := by rw [h.st]; simp [List.getD, ha]
  have htr : s.trs.getD a 0 = es[a].tried := by rw [h.tr]; simp [List.getD, ha]
  have hfr : pFree s i a es[a].name = frees (erE es[a] j) := by
    unfold pFree frees
    rw [hmany, hst]
    show (_ && es[a].st == 2) = (es[a].st == 2 && _)
    rw [Bool.and_comm]
    congr 1
    cases (erE es[a] j).till <;> rfl
  refine ⟨hfr, ?_, hb'.1⟩
  have hnm : (es.set a (freeE t.tries (erE es[a] j))).map JE.name = es.map JE.name := set_map ha JE.name f3
  have htm : (es.set a (freeE t.tries (erE es[a] j))).map JE.tried = es.map JE.tried := set_map ha JE.tried f5
  have h4 : ∀ e ∈ es.set a (freeE t.tries (erE es[a] j)), e.st = 1 ∨ e.st = 2 ∨ e.st = 3 ∨ e.st = 4 := s4_set h.s4 (free_s4 (e := erE es[a] j) (h.s4 es[a] (List.getElem_mem ha)))
  unfold pDrop
  rw [hfr, htr]
  cases hf : frees (erE es[a] j) with
  | true =>
    rw [if_pos rfl]
    refine ⟨h.nw, h.nm.trans hnm.symm, ?_, h.tr.trans htm.symm, by rw [hset]; exact hp, h4⟩
    show s.sts.set a _ = _
    rw [h.st, List.map_set]
    congr 1
    unfold freeE
    rw [hf]; rfl
  | false =>
    rw [if_neg (by simp)]
    refine ⟨h.nw, h.nm.trans hnm.symm, ?_, h.tr.trans htm.symm, by rw [hset]; exact hp, h4⟩
    show s.sts = _
    rw [h.st, set_map ha JE.st]
    unfold freeE
    rw [hf]; rfl
theorem SimP.where_ {t : TM} {s : PB} {now : Int} {es : List JE} (h : SimP s now es) (hb : BOk t es) {i : Nat} (hi : i < s.all.length) : ∃ a, ∃ ha : a < es.length, ∃ j, ∃ hj : j < es[a].till.length, s.all[i] = ⟨es[a].name, es[a].till[j].1, es[a].till[j].2⟩ ∧ atP s s.all[i].job = a := by
  obtain ⟨e, he, p, hp, hx⟩ := mem_allL.1 (h.al.mem_iff.1 (List.getElem_mem hi))
  obtain ⟨a, ha, rfl⟩ := List.getElem_of_mem he
  obtain ⟨j, hj, rfl⟩ := List.getElem_of_mem hp
  refine ⟨a, ha, j, hj, hx, ?_⟩
  unfold atP
  rw [h.find, hx]
  show (atL es es[a].name).getD 0 = a
  rw [atL_of hb ha]; rfl
theorem gone_er (n : Int) (a : Int) (e : JE) {j : Nat} (hj : j < e.till.length) (hx : e.till[j].2 < n) : goneE n e = (frees (erE e j) || goneE n (freeE a (erE e j))) := by
  have hl : liv n (e.till.eraseIdx j) = liv n e.till := filter_eraseIdx _ _ _ hj (by simpa using hx)
  have ht : tillE n (erE e j) = tillE n e := by
    show ({ e with till := liv n (e.till.eraseIdx j) } : JE) = { e with till := liv n e.till }
    rw [hl]
  cases hf : frees (erE e j) with
  | false =>
    have : freeE a (erE e j) = erE e j := by unfold freeE; rw [hf]; rfl
    rw [this, Bool.false_or]
    unfold goneE
    rw [ht]
  | true =>
    have hf' := hf
    unfold frees at hf'
    rw [Bool.and_eq_true] at hf'
    have h0 : e.till.eraseIdx j = [] := List.isEmpty_iff.1 hf'.2
    rw [Bool.true_or]
    unfold goneE frees
    show (e.st == 2 && (liv n e.till).isEmpty) = true
    rw [← hl, h0, Bool.and_eq_true]
    exact ⟨hf'.1, rfl⟩
theorem gone_free (n a : Int) (e : JE) (h : frees e = true) : goneE n (freeE a e) = false := by
  unfold goneE freeE
  rw [h, if_pos rfl]
  unfold frees
  show ((if e.tried = a then (4 : Int) else 1) == 2 && _) = false
  split <;> rfl
theorem gone_no {t : TM} {n : Int} {e : JE} (h : EOk t e) (hl : ∀ p ∈ e.till, ¬ p.2 < n) : goneE n e = false := by
  have hlv : liv n e.till = e.till := by
    unfold liv
    rw [List.filter_eq_self]
    intro p hp
    exact decide_eq_true (hl p hp)
  unfold goneE tillE
  rw [hlv]
  unfold frees
  by_cases h2 : e.st = 2
  · have := h.le h2
    simp [h2, this]
  · simp [h2]
theorem pTl_sim (t : TM) (n now : Int) : ∀ (f : Nat) (s : PB) (es : List JE) (i : Nat) (m : List Nm), SimP s now es → BOk t es → s.all.length ≤ i + f → (∀ k (h : k < s.all.length), k < i → s.all[k].tl ≥ n) → (∀ e ∈ es, goneE n e = true → e.name ∉ m) →
    SimP (pTl t n f s i (sortT m)).1 now (es.map (tickE t.tries n)) ∧ (pTl t n f s i (sortT m)).2 = sortT (m ++ (es.filter (goneE n)).map JE.name)
  | 0, s, es, i, m, h, hb, hf, hk, hm => by
    have hlv : ∀ e ∈ es, ∀ p ∈ e.till, ¬ p.2 < n := fun e he p hp => by
      have hx : (⟨e.name, p.1, p.2⟩ : LE) ∈ s.all := h.al.mem_iff.2 (mem_allL.2 ⟨e, he, p, hp, rfl⟩)
      obtain ⟨k, hk1, hk2⟩ := List.getElem_of_mem hx
      have := hk k hk1 (by omega)
      rw [hk2] at this
      have : p.2 ≥ n := this
      omega
    have e1 : es.map (tickE t.tries n) = es := by
      conv => rhs; rw [← List.map_id es]
      exact List.map_congr_left fun e he => tick_id (hb.eo e he) (hlv e he)
    have e2 : es.filter (goneE n) = [] := by
      rw [List.filter_eq_nil_iff]
      intro e he
      rw [gone_no (hb.eo e he) (hlv e he)]; simp
    rw [e1, e2, List.map_nil, List.append_nil]
    exact ⟨h, rfl⟩
  | f + 1, s, es, i, m, h, hb, hf, hk, hm => by
    unfold pTl
    by_cases hi : i < s.all.length
    · simp only [List.getElem?_eq_getElem hi]
      by_cases hg : s.all[i].tl ≥ n
      · rw [if_pos hg]
        refine pTl_sim t n now f s es (i + 1) m h hb (by omega) (fun k h hki => ?_) hm
        rcases Nat.lt_or_ge k i with h' | h'
        · exact hk k h h'
        · obtain rfl : k = i := by omega
          exact hg
      · rw [if_neg hg]
        obtain ⟨a, ha, j, hj, hx, hat⟩ := h.where_ hb hi
        have hjob : s.all[i].job = es[a].name := by rw [hx]
        have htl : es[a].till[j].2 < n := by
          rw [hx] at hg
          have hg : ¬ es[a].till[j].2 ≥ n := hg
          omega
        obtain ⟨d1, d2, d3⟩ := h.drop hb hi ha hj hx
        rw [hat, hjob, d1]
        obtain ⟨p1, _⟩ := pDrop_all t s i a es[a].name
        obtain ⟨f1, f2, f3, f4, f5⟩ := freeE_jid t.tries (erE es[a] j)
        have f3 : (freeE t.tries (erE es[a] j)).name = es[a].name := f3
        have hge := gone_er n t.tries es[a] hj htl
        have hgf := gone_free n t.tries (erE es[a] j)
        have htick : (es.set a (freeE t.tries (erE es[a] j))).map (tickE t.tries n) = es.map (tickE t.tries n) := set_map ha _ (tick_er t.tries n es[a] hj htl)
        have hlen : (pDrop t s i a es[a].name).all.length ≤ i + f := by rw [p1, List.length_eraseIdx_of_lt hi]; omega
        have hkk : ∀ k (h : k < (pDrop t s i a es[a].name).all.length), k < i → (pDrop t s i a es[a].name).all[k].tl ≥ n := fun k h hki => by
          simp only [p1] at h ⊢
          rw [List.getElem_eraseIdx_of_lt _ hki]
          exact hk k (by rw [List.length_eraseIdx_of_lt hi] at h; omega) hki
        obtain ⟨p, q, h1, h2⟩ := split_l ha
        have hfl : ∀ y, (es.set a y).filter (goneE n) = p.filter (goneE n) ++ ((if goneE n y = true then [y] else []) ++ q.filter (goneE n)) := fun y => by
          rw [h2, List.filter_append, List.filter_cons]
          split <;> rfl
        have hfe : es.filter (goneE n) = p.filter (goneE n) ++ ((if goneE n es[a] = true then [es[a]] else []) ++ q.filter (goneE n)) := by
          conv => lhs; rw [h1]
          rw [List.filter_append, List.filter_cons]
          split <;> rfl
        have hnn : ∀ x, (x ∈ p ∨ x ∈ q) → x.name ≠ es[a].name := fun x hx he => by
          have hn := hb.nn
          rw [h1, List.map_append, List.map_cons] at hn
          obtain ⟨n1, n2, n3⟩ := List.nodup_append.1 hn
          rcases hx with hx | hx
          · exact n3 _ (List.mem_map_of_mem hx) _ (List.mem_cons_self ..) he
          · exact (List.nodup_cons.1 n2).1 (he ▸ List.mem_map_of_mem hx)
        have hpq : ∀ x, (x ∈ p ∨ x ∈ q) → x ∈ es := fun x hx => by
          rw [h1]
          rcases hx with hx | hx
          · exact List.mem_append_left _ hx
          · exact List.mem_append_right _ (List.mem_cons_of_mem _ hx)
        have hmem : ∀ y, ∀ x ∈ es.set a y, x = y ∨ (x ∈ p ∨ x ∈ q) := fun y x hx => by
          rw [h2] at hx
          rcases List.mem_append.1 hx with hx | hx
          · exact .inr (.inl hx)
          · rcases List.mem_cons.1 hx with hx | hx
            · exact .inl hx
            · exact .inr (.inr hx)
        cases hfr : frees (erE es[a] j) with
        | true =>
          have hg1 : goneE n es[a] = true := by rw [hge, hfr]; rfl
          have hg2 := hgf hfr
          rw [if_pos rfl, addT_fresh (hm _ (List.getElem_mem ha) hg1)]
          obtain ⟨r1, r2⟩ := pTl_sim t n now f (pDrop t s i a es[a].name) (es.set a (freeE t.tries (erE es[a] j))) i (m ++ [es[a].name]) d2 d3 hlen hkk fun e he hge' hmm => by
            rcases hmem _ e he with rfl | hpq'
            · rw [hg2] at hge'; cases hge'
            · rcases List.mem_append.1 hmm with hmm | hmm
              · exact hm e (hpq e hpq') hge' hmm
              · exact hnn e hpq' (by simpa using hmm)
          refine ⟨by rw [← htick]; exact r1, r2.trans (sortT_eq ?_)⟩
          rw [hfl, hfe, hg1, hg2, if_neg (by simp), if_pos rfl]
          simp only [List.map_append, List.map_cons, List.map_nil, List.nil_append, List.append_assoc]
          refine List.Perm.append_left _ ?_
          simp only [List.singleton_append]
          exact List.perm_middle.symm
        | false =>
          have hg1 : goneE n es[a] = goneE n (freeE t.tries (erE es[a] j)) := by rw [hge, hfr]; rfl
          rw [if_neg (by simp)]
          obtain ⟨r1, r2⟩ := pTl_sim t n now f (pDrop t s i a es[a].name) (es.set a (freeE t.tries (erE es[a] j))) i m d2 d3 hlen hkk fun e he hge' hmm => by
            rcases hmem _ e he with rfl | hpq'
            · rw [f3] at hmm
              exact hm _ (List.getElem_mem ha) (by rw [hg1]; exact hge') hmm
            · exact hm e (hpq e hpq') hge' hmm
          refine ⟨by rw [← htick]; exact r1, r2.trans (congrArg sortT ?_)⟩
          rw [hfl, hfe, hg1]
          simp only [List.map_append]
          congr 2
          split
          · simp [f3]
          · rfl
    · have h0 := pTl_sim t n now 0 s es i m h hb (by omega) hk hm
      rw [List.getElem?_eq_none (by omega)]
      exact h0
theorem pTime_sim {t : TM} {s : PB} {now n : Int} {es : List JE} (h : SimP s now es) (hb : BOk t es) : SimP (pTime t s n).1 n (es.map (tickE t.tries n)) ∧ (pTime t s n).2 = goneL n es :=
by
  have h1 := pTl_sim t n n s.all.length (pNow s n) es 0 [] ⟨rfl, h.nm, h.st, h.tr, h.al, h.s4⟩ hb (by show s.all.length ≤ _; omega) (fun k _ hk => by omega) (fun e _ _ => List.not_mem_nil)
  have e0 : sortT ([] : List Nm) = [] := by unfold sortT; simp
  rw [e0, List.nil_append] at h1
  exact h1
end Go.Proofs.Ytopdpbcfgjijaaa
end
section
set_option linter.unusedVariables false
set_option linter.unusedSimpArgs false
namespace Go.Ab
open Go
section
variable {cx : Cx} {n : Nat} {fr : Fr} {σ : Heap}
theorem OpSpec.append0S {o : Oper} {s x : Operand} {t u : TypeId} {e sz by_ : Nat} {st fl : Bool} {xs : List AV} {y : AV} {C : List Prop} (ho : o.op = .call { callee := .builtin .append, args := #[s, x], argTypes := #[t, u] }) (hel : elemInfo cx.P t = some (e, sz, by_)) (hnt : notInt cx.P u = true)
    (hs : ev cx fr s = .sl st fl sz xs) (hx : ev cx fr x = y) (hy : aSrc sz y σ = some (C, 0, [])) (hC : AllP C) : OpSpec cx n fr σ o (.sl st fl sz xs) σ := by
  intro r ac w hi hf
  have h1 := ev_rel hi hf s
  have h2 := ev_rel hi hf x
  rw [hs] at h1
  rw [hx] at h2
  obtain ⟨dst, op, ty, pos, after, guard⟩ := o
  simp only at ho
  subst ho
  obtain ⟨i, z, hu, hinfo, hz, hz1, hz2, hz3⟩ := elemInfo_some hel
  obtain ⟨d, hd, hdk⟩ := notInt_some hnt
  obtain ⟨bs, hbs⟩ := run_len_call cx.P w ac.eval .append #[s, x] #[t, u] dst ty pos after guard
  have key : ∀ (a b : Value), VRel r w a (.sl st fl sz xs) → VRel r w b y → (Builtin.append_ #[t, u] ty #[a, b]).run cx.P w = .ok a w := by
    intro a b ha hb
    obtain ⟨hl1, hl2, news, hl3, hl4⟩ := aSrc_run hi hy hC hb
    have hnews : news = [] := List.eq_nil_of_length_eq_zero (by rw [hl3.1]; rfl)
    subst hnews
    cases a with
    | slice p n' cap =>
      obtain ⟨q1, q2, _, _⟩ := sl_cells ha
      exact run_append_room' (P := cx.P) (w := w) (ty := ty) (base := p) (sLen := n') (sCap := cap) hu hd hdk hinfo hz2 hl1 hl4 (by omega) (w2 := w) (stO_nil _ _ _ _)
    | _ => cases ha
  refine ⟨r, w, ac.eval s, .inl ?_, h1, hi, Ext.refl _ _ _⟩
  rw [hbs]
  simp only [builtin, List.map_toArray, List.map_cons, List.map_nil]
  exact exec_v (key _ _ h1 h2)
theorem OpSpec.appendS {o : Oper} {s x : Operand} {t u : TypeId} {e sz by_ m : Nat} {xs ys zs : List AV} {st : Bool} {y : AV} {C : List Prop} (ho : o.op = .call { callee := .builtin .append, args := #[s, x], argTypes := #[t, u] }) (hel : elemInfo cx.P t = some (e, sz, by_)) (hnt : notInt cx.P u = true)
    (hs : ev cx fr s = .sl st true sz xs) (hx : ev cx fr x = y) (hy : aSrc sz y σ = some (C, m, ys)) (hC : AllP C) (hy1 : ∀ z ∈ ys, z.one = true) (hx1 : ∀ z ∈ flatA sz xs, z.one = true) (hm : m ≠ 0 ∨ xs = []) (hσ : Alive σ)
    (hb1 : (xs.length + m) * by_ ≤ 140737488355328) (hb2 : xs.length + m ≤ 9223372036854775807) (hz : flatA sz xs ++ ys = zs) :
    OpSpec cx n fr σ o (.ms σ.length 0 0 (xs.length + m) sz false) (σ ++ [(0, some (.cells zs ⟨false, tyU8 cx.P e⟩))]) := by
  subst hz
  refine OpSpec.aop (C := C ++ [∀ y ∈ ys, y.one = true, sz = sz, ∀ y ∈ flatA sz xs, y.one = true, m ≠ 0 ∨ xs = [], (xs.length + m) * by_ ≤ 140737488355328, xs.length + m ≤ 9223372036854775807]) ?_ (AllP_app hC ⟨hy1, rfl, hx1, hm, hb1, hb2, trivial⟩)
  rw [ho]
  show aAppend cx.P t u (ev cx fr s) (ev cx fr x) σ = _
  rw [hs, hx]
  unfold aAppend
  rw [hel]
  simp only [hnt, cond_true, hy, hσ.alloc]
end
end Go.Ab
end
section
set_option linter.unusedVariables false
set_option linter.unusedSimpArgs false
set_option maxRecDepth 20000
set_option maxHeartbeats 4000000
namespace Go.Proofs.Ytopdpbcfgjijaaa
open Go Go.Ab
def ltB (y x : LE) : Bool := if Op.bytesLess y.job x.job = true then true else if y.job == x.job then decide (y.wk < x.wk) else false
theorem ltB_iff (y x : LE) : ltB y x = true ↔ ltL y x := by
  unfold ltB ltL
  rw [bl_eq]
  by_cases h1 : y.job < x.job
  · simp [h1]
  · by_cases h2 : y.job = x.job
    · simp [h1, h2]
    · simp [h1, h2]
def lessL (x : LE) : List LE → Nat
  | [] => 0
  | y :: r => if ltB y x = true then lessL x r + 1 else 0
def insL (l : List LE) (x : LE) : List LE := l.take (lessL x l) ++ x :: l.drop (lessL x l)
def sortP (l : List LE) : List LE := l.foldl insL []
theorem lessL_le (x : LE) : ∀ l : List LE, lessL x l ≤ l.length
  | [] => Nat.le_refl _
  | y :: r => by
    rw [lessL]
    split
    · have := lessL_le x r; rw [List.length_cons]; omega
    · exact Nat.zero_le _
theorem lessL_lt {x : LE} : ∀ {l : List LE} {i : Nat} (hi : i < l.length), i < lessL x l → ltB l[i] x = true
  | y :: r, i, hi, h => by
    rw [lessL] at h
    split at h
    · rename_i hx
      cases i with
      | zero => exact hx
      | succ i => exact lessL_lt (l := r) (by simpa using hi) (by omega)
    · omega
theorem lessL_at {x : LE} : ∀ {l : List LE} (h : lessL x l < l.length), ltB l[lessL x l] x = false
  | y :: r, h => by
    by_cases hx : ltB y x = true
    · have e : lessL x (y :: r) = lessL x r + 1 := by rw [lessL, if_pos hx]
      have h' : lessL x r < r.length := by rw [e, List.length_cons] at h; omega
      have := lessL_at h'
      simp only [e, List.getElem_cons_succ]
      exact this
    · have e : lessL x (y :: r) = 0 := by rw [lessL, if_neg hx]
      simp only [e, List.getElem_cons_zero]
      simpa using hx
theorem insL_perm (l : List LE) (x : LE) : (insL l x).Perm (l ++ [x]) := by
  unfold insL
  refine List.perm_middle.trans ?_
  rw [List.take_append_drop]
  exact (List.perm_append_singleton x l).symm
theorem sortP_go : ∀ (l a : List LE), (l.foldl insL a).Perm (a ++ l)
  | [], a => by simp
  | x :: l, a => by
    refine (sortP_go l (insL a x)).trans ?_
    have := (insL_perm a x).append_right l
    rw [List.append_assoc] at this
    exact this
theorem sortP_perm (l : List LE) : (sortP l).Perm l := sortP_go l []
theorem sortP_take {l : List LE} {i : Nat} (h : i < l.length) : sortP (l.take (i + 1)) = insL (sortP (l.take i)) l[i] := by
  unfold sortP
  rw [List.take_succ_eq_append_getElem h, List.foldl_append]; rfl
theorem sortP_len (l : List LE) : (sortP l).length = l.length := (sortP_perm l).length_eq
theorem PSorted_ok (σ : Heap) (L : PL) (t : TM) (s : PB) (h : PAt σ L t s) (hal : s.all.length ≤ 100000) :
    CallOk cx 24 [.ptr L.r 0 0] σ (fun o u => ∃ w, o = .ret (.ms w 0 0 (sortP s.all).length 3 false) ∧ σ.length ≤ w ∧ u[w]? = some (0, some (.cells (lsC (sortP s.all)) ⟨false, none⟩)) ∧ PAt u L t s ∧ QKeep σ u (OwnP L) (OwnP L)) :=
  callOk_intro (fun a w => Try.call24 a w) Try.func24 rfl Try.ntmps24 rfl fun B => by
    refine pao [] rfl ?_ ?_
    · (repeat' with_reducible apply AllP_cons) <;> try exact aC
    refine S_ghostF (t := 3) (gid := σ.length) (gver := 0) (σ' := σ ++ [(0, some (.cells [] ⟨false, none⟩))]) 3 ⟨false, none⟩ rfl (alloc_last h.al _) ⟨_, _, .inl rfl⟩ ?_
    refine S_while (α := Heap × Nat × Nat × List LE) (fun x => [(0, .ptr L.r 0 0), (3, .ms x.2.1 0 0 x.2.2.2.length 3 false), (4, .int .i64 (x.2.2.1 : Nat))]) (fun x => x.1)
      (fun x => PAt x.1 L t s ∧ QKeep σ x.1 (OwnP L) (OwnP L) ∧ σ.length ≤ x.2.1 ∧ x.1[x.2.1]? = some (0, some (.cells (lsC x.2.2.2) ⟨false, none⟩)) ∧ x.2.2.1 ≤ s.all.length ∧ x.2.2.2 = sortP (s.all.take x.2.2.1)) (fun x => s.all.length - x.2.2.1) (σ ++ [(0, some (.cells [] ⟨false, none⟩))], σ.length, 0, [])
      ⟨h.app _ _, QKeep.app, Nat.le_refl _, app_last, Nat.zero_le _, rfl⟩ (.cons rfl (.cons rfl (.cons rfl (.nil _)))) rfl ?_
    rintro ⟨u, w, i, out⟩ ⟨h1, hk1, hw, hg, hi, hout⟩
    simp only at h1 hk1 hw hg hi hout
    have hol : out.length = i := by rw [hout, sortP_len, List.length_take]; omega
    by_cases hlt : i < s.all.length
    · have c1 : decide ((i : Int) < (s.all.length : Int)) = true := decide_eq_true (by omega)
      have hi1 : AV.int .i64 (IntKind.i64.wrap ((i : Int) + 1)) = .int .i64 ((i + 1 : Nat) : Int) := ai64 rfl (by omega)
      obtain ⟨x, hx⟩ : ∃ x, x = s.all[i] := ⟨_, rfl⟩
      have hsx : sortP (s.all.take (i + 1)) = insL out x := by rw [sortP_take hlt, ← hout, hx]
      obtain ⟨rr, hrr⟩ := lsC_at hlt
      have hdr : (lsC s.all).drop (offN 0 (mulN ((i : Int)).toNat 3)) = .str x.job :: .int .i64 x.wk :: .int .i64 x.tl :: rr := by rw [offN_eq, mulN_eq, Int.toNat_natCast, Nat.zero_add, hx]; exact hrr
      obtain ⟨z0, hz0⟩ : ∃ z0 : Nat × Option Box, z0 = (0, some (.cells [.str [], .int .i64 0, .int .i64 0] ⟨false, some 52⟩)) := ⟨_, rfl⟩
      obtain ⟨X, hX⟩ : ∃ X : Nat × Option Box, X = (0, some (.cells x.cells ⟨false, some 52⟩)) := ⟨_, rfl⟩
      refine pao [.v (.ms L.aid L.av 0 s.all.length 3 false), .b true, .v (.ms L.aid L.av 0 s.all.length 3 false), .v .top, .v (.agg x.cells), .f (.ptr u.length 0 0) (fun t => t ++ [z0]), .f (.tup []) (fun _ => u ++ [X])] rfl ?_ ?_
      · (repeat' with_reducible apply AllP_cons) <;> try exact aC
        · exact OpSpec.loadP rfl rfl rfl rfl h1.rb rfl
        · exact OpSpec.loadP rfl rfl rfl rfl h1.rb rfl
        · refine OpSpec.loadEA (cs := lsC s.all) rfl rfl rfl rfl h1.ab (show 3 ≤ ((lsC s.all).drop (offN 0 (mulN ((i : Int)).toNat 3))).length by rw [hdr]; simp) ?_
          show AV.agg x.cells = AV.agg (List.take 3 ((lsC s.all).drop (offN 0 (mulN ((i : Int)).toNat 3))))
          rw [hdr]; rfl
        · rw [hz0]; exact OpSpec.allocE rfl rfl rfl rfl h1.al
        · refine OpSpec.storeP (id := u.length) (gT := some 52) (cs := [.str [], .int .i64 0, .int .i64 0]) (y := .agg x.cells) rfl rfl rfl rfl rfl rfl (by rw [app_last, hz0]) (lble rfl) ?_
          rw [List.set_append_right _ _ (Nat.le_refl _), Nat.sub_self, hX]; rfl
      refine S_heap (u ++ [X]) rfl ?_
      have hwl := lt_of_get hg
      have h2 : PAt (u ++ [X]) L t s := by rw [hX]; exact h1.app _ _
      have hk2 : QKeep σ (u ++ [X]) (OwnP L) (OwnP L) := hk1.trans QKeep.app
      have hg2 : (u ++ [X])[w]? = some (0, some (.cells (lsC out) ⟨false, none⟩)) := app_get hg
      have hx2 : (u ++ [X])[u.length]? = some (0, some (.cells x.cells ⟨false, some 52⟩)) := by rw [app_last, hX]
      have hwn : w ≠ u.length := by omega
      have hpn : ∀ id, OwnP L id → id ≠ u.length := fun id ho => by have := h1.lt id ho; omega
      have hle := lessL_le x out
      generalize hu2 : u ++ [X] = u2 at *
      have hul : u2.length = u.length + 1 := by rw [← hu2]; simp
      refine S_while (α := Nat) (fun a => [(0, .ptr L.r 0 0), (3, .ms w 0 0 out.length 3 false), (4, .int .i64 (i : Nat)), (5, .ptr u.length 0 0), (6, .int .i64 (a : Nat))]) (fun _ => u2) (fun a => a ≤ lessL x out) (fun a => out.length - a) 0
        (Nat.zero_le _) (.cons rfl (.cons rfl (.cons rfl (.cons rfl (.cons rfl (.nil _)))))) rfl ?_
      intro a ha
      have ha : a ≤ lessL x out := ha
      refine pao [] rfl ?_ ?_
      · (repeat' with_reducible apply AllP_cons) <;> try exact aC
      have hb0 : ∀ {k : Nat}, k ≤ 100000 → (k + 1) * 32 ≤ 140737488355328 := fun h => by omega
      have hxc : ∀ z ∈ x.cells, z.one = true := fun z hz => lsC_one [x] z (by unfold lsC; simpa using hz)
      have hxl : lsC [x] = x.cells := by unfold lsC; simp
      have hone2 : ∀ z ∈ flatA 3 [AV.agg x.cells], z.one = true := fun z hz => hxc z (by have hz : z ∈ x.cells ++ [] := hz; simpa using hz)
      have hfl : flatA 3 [AV.agg x.cells] = x.cells := by show x.cells ++ [] = _; simp
      have hlo : (lsC out).length = out.length * 3 := lsC_len out
      have hbx : ∀ v : Heap, v[w]? = some (0, some (.cells (lsC out) ⟨false, none⟩)) → boxAt v w = some (0, lsC out, ⟨false, none⟩) := fun v hv => by simp [boxAt, hv]
      by_cases hal2 : a < out.length
      · have d1 : decide ((a : Int) < (out.length : Int)) = true := decide_eq_true (by omega)
        have ho0 := lsC_f hal2 0 (by decide)
        have ho1 := lsC_f hal2 1 (by decide)
        by_cases hll : a < lessL x out
        · have hb := lessL_lt hal2 hll
          unfold ltB at hb
          have ha1 : AV.int .i64 (IntKind.i64.wrap ((a : Int) + 1)) = .int .i64 ((a + 1 : Nat) : Int) := ai64 rfl (by omega)
          by_cases b1 : Op.bytesLess out[a].job x.job = true
          · refine S_drawO 34 [.bool true, .top, .str out[a].job, .str x.job, .bool true] rfl rfl rfl rfl ?_ ?_
            · (repeat' with_reducible apply AllP_cons) <;> try exact aC
              · exact OpSpec.loadE rfl rfl rfl rfl hg2 ho0
              · exact OpSpec.loadP rfl rfl rfl rfl hx2 rfl
            refine pao [.b true] rfl ?_ ?_
            · (repeat' with_reducible apply AllP_cons) <;> try exact aC
            exact S_round (a + 1) (by show out.length - (a + 1) < out.length - a; omega) hll (.cons rfl (.cons rfl (.cons rfl (.cons rfl (.cons ha1 (.nil _)))))) rfl
          · rw [if_neg b1] at hb
            have b1 : Op.bytesLess out[a].job x.job = false := by simpa using b1
            have b2 : (out[a].job == x.job) = true := by
              cases h : out[a].job == x.job with
              | true => rfl
              | false => rw [h] at hb; cases hb
            rw [b2, if_pos rfl] at hb
            refine S_drawO 34 [.bool true, .top, .str out[a].job, .str x.job, .bool false, .top, .str out[a].job, .str x.job, .bool true, .top, .int .i64 out[a].wk, .int .i64 x.wk] rfl rfl rfl rfl ?_ ?_
            · (repeat' with_reducible apply AllP_cons) <;> try exact aC
              all_goals first | exact OpSpec.loadE rfl rfl rfl rfl hg2 ho0 | exact OpSpec.loadE rfl rfl rfl rfl hg2 ho1 | exact OpSpec.loadP rfl rfl rfl rfl hx2 rfl
            refine pao [.b true] rfl ?_ ?_
            · (repeat' with_reducible apply AllP_cons) <;> try exact aC
            exact S_round (a + 1) (by show out.length - (a + 1) < out.length - a; omega) hll (.cons rfl (.cons rfl (.cons rfl (.cons rfl (.cons ha1 (.nil _)))))) rfl
        · have hae : a = lessL x out := by omega
          have hb : ltB out[a] x = false := by subst hae; exact lessL_at hal2
          have hins : insL out x = out.take a ++ x :: out.drop a := by unfold insL; rw [← hae]
          unfold ltB at hb
          have b1 : Op.bytesLess out[a].job x.job = false := by
            cases h : Op.bytesLess out[a].job x.job with
            | false => rfl
            | true => rw [h] at hb; cases hb
          rw [b1, if_neg (by simp)] at hb
          obtain ⟨V1, hV1⟩ : ∃ V1 : Nat × Option Box, V1 = (0, some (.cells (lsC (x :: out.drop a)) ⟨false, none⟩)) := ⟨_, rfl⟩
          obtain ⟨V2, hV2⟩ : ∃ V2 : Nat × Option Box, V2 = (0, some (.cells (lsC (insL out x)) ⟨false, none⟩)) := ⟨_, rfl⟩
          have hgw3 : (u2 ++ [V1])[w]? = some (0, some (.cells (lsC out) ⟨false, none⟩)) := app_get hg2
          have hx3 : (u2 ++ [V1])[u.length]? = some (0, some (.cells x.cells ⟨false, some 52⟩)) := app_get hx2
          have hx4 : (u2 ++ [V1] ++ [V2])[u.length]? = some (0, some (.cells x.cells ⟨false, some 52⟩)) := app_get hx3
          have hal3 : Alive (u2 ++ [V1]) := by rw [hV1]; exact Alive.app h2.al _ _
          have hv3 : (u2 ++ [V1])[u2.length]? = some (0, some (.cells (lsC (x :: out.drop a)) ⟨false, none⟩)) := by rw [app_last, hV1]
          have hul3 : (u2 ++ [V1]).length = u2.length + 1 := by simp
          have hT1 : (lsC out).drop (a * 3) = lsC (out.drop a) := lsC_drop out (by omega)
          have hT2 : (lsC out).take (a * 3) = lsC (out.take a) := lsC_take out (by omega)
          have hld : (lsC (out.drop a)).length = (out.length - a) * 3 := by rw [lsC_len, List.length_drop]
          have hld1 : (lsC (x :: out.drop a)).length = (1 + (out.length - a)) * 3 := by rw [lsC_len, List.length_cons, List.length_drop]; omega
          cases b2 : out[a].job == x.job with
          | false =>
            refine S_drawO 34 [.bool true, .top, .str out[a].job, .str x.job, .bool false, .top, .str out[a].job, .str x.job, .bool false] rfl rfl rfl rfl ?_ ?_
            · (repeat' with_reducible apply AllP_cons) <;> try exact aC
              all_goals first | exact OpSpec.loadE rfl rfl rfl rfl hg2 ho0 | exact OpSpec.loadE rfl rfl rfl rfl hg2 ho1 | exact OpSpec.loadP rfl rfl rfl rfl hx2 rfl
            refine pao [.b false] rfl ?_ ?_
            · (repeat' with_reducible apply AllP_cons) <;> try exact aC
            refine S_drawOL [(9, u2 ++ [V1]), (10, u2 ++ [V1] ++ [V2])] _ 11 [.agg x.cells, .ms u2.length 0 0 (1 + (out.length - a)) 3 false, .ms (u2.length + 1) 0 0 (a + (1 + (out.length - a))) 3 false] _ _ rfl rfl rfl rfl rfl rfl ⟨⟨_, rfl, ?_⟩, ⟨_, rfl, ?_⟩, ⟨_, rfl, ?_⟩, trivial⟩ ⟨fun o v ho hv => ?_, fun o v ho hv => ?_, trivial⟩ rfl ?_
            · (repeat' with_reducible apply AllP_cons) <;> try exact aC
              all_goals exact OpSpec.loadPA rfl rfl rfl rfl hx2 (lble rfl) rfl
            · (repeat' with_reducible apply AllP_cons) <;> try exact aC
              all_goals exact OpSpec.loadPA rfl rfl rfl rfl hx3 (lble rfl) rfl
            · (repeat' with_reducible apply AllP_cons) <;> try exact aC
              all_goals exact OpSpec.loadPA rfl rfl rfl rfl hx4 (lble rfl) rfl
            · cases ho; cases hv
              refine specC_step rfl rfl ?_
              rw [hV1]
              show OpSpec cx _ _ u2 _ (.ms u2.length 0 0 ([AV.agg x.cells].length + (out.length - a)) 3 false) _
              refine OpSpec.appendS (e := 52) (cx := cx) (st := true) (m := out.length - a) (xs := [.agg x.cells]) (y := .ms w 0 (a * 3) (out.length - a) 3 false) (ys := lsC (out.drop a)) (C := [0 = 0, 3 = 3, a * 3 + (out.length - a) * 3 ≤ (lsC out).length]) rfl ?_ ?_ ?_ ?_ ?_ ⟨rfl, rfl, by omega, trivial⟩ (lsC_one _) hone2 (.inl (by omega)) h2.al (by show (1 + (out.length - a)) * 32 ≤ _; omega) (by show 1 + (out.length - a) ≤ _; omega) ?_
              · rfl
              · rfl
              · rfl
              · show AV.ms w 0 (0 + (Option.getD (some (a : Int)) (0 : Int)).toNat * 3) ((Option.getD none (out.length : Int)).toNat - (Option.getD (some (a : Int)) (0 : Int)).toNat) 3 false = _
                simp
              · simp only [aSrc, hbx u2 hg2, dropA_eq]
                rw [hT1, List.take_of_length_le (by omega)]
              · rw [hfl]; rfl
            · cases ho; cases hv
              refine specC_step rfl rfl ?_
              rw [hV2, show u2.length + 1 = (u2 ++ [V1]).length from hul3.symm]
              refine OpSpec.appendF (e := 52) (m := 1 + (out.length - a)) (cs := lsC out) (off := 0) (len := a) (y := .ms u2.length 0 0 (1 + (out.length - a)) 3 false) (ys := lsC (x :: out.drop a)) (C := [0 = 0, 3 = 3, 0 + (1 + (out.length - a)) * 3 ≤ (lsC (x :: out.drop a)).length]) rfl rfl rfl ?_ rfl ?_ ⟨rfl, rfl, ?_, trivial⟩ (lsC_one _) (.inl (by omega)) hal3 hgw3 ?_ (by show (a + (1 + (out.length - a))) * 32 ≤ _; omega) (by omega) ?_
              · show AV.ms w 0 (0 + (Option.getD none (0 : Int)).toNat * 3) ((Option.getD (some (a : Int)) (out.length : Int)).toNat - (Option.getD none (0 : Int)).toNat) 3 true = _
                simp
              · simp only [aSrc, boxAt, hv3, dropA_eq]
                rw [List.drop_zero, List.take_of_length_le (by rw [hld1]; exact Nat.le_refl _)]
              · rw [hld1]; omega
              · rw [hlo]; omega
              · rw [hins, lsC_app, List.drop_zero, hT2]
            refine pao [] rfl ?_ ?_
            · (repeat' with_reducible apply AllP_cons) <;> try exact aC
            have hl1 : (insL out x).length = a + (1 + (out.length - a)) := by rw [hins, List.length_append, List.length_cons, List.length_take, List.length_drop]; omega
            refine S_round (u2 ++ [V1] ++ [V2], u2.length + 1, i + 1, insL out x) (by show s.all.length - (i + 1) < s.all.length - i; omega) ⟨?_, ?_, ?_, ?_, hlt, hsx.symm⟩ (.cons rfl (.cons (by rw [hl1]; rfl) (.cons hi1 (.nil _)))) rfl
            · rw [hV2]; exact PAt.app (by rw [hV1]; exact h2.app _ _) _ _
            · exact (hk2.trans QKeep.app).trans QKeep.app
            · have := hk2.len; show σ.length ≤ u2.length + 1; omega
            · show (u2 ++ [V1] ++ [V2])[u2.length + 1]? = _
              rw [← hul3, app_last, hV2]
          | true =>
            rw [b2, if_pos rfl] at hb
            refine S_drawO 34 [.bool true, .top, .str out[a].job, .str x.job, .bool false, .top, .str out[a].job, .str x.job, .bool true, .top, .int .i64 out[a].wk, .int .i64 x.wk] rfl rfl rfl rfl ?_ ?_
            · (repeat' with_reducible apply AllP_cons) <;> try exact aC
              all_goals first | exact OpSpec.loadE rfl rfl rfl rfl hg2 ho0 | exact OpSpec.loadE rfl rfl rfl rfl hg2 ho1 | exact OpSpec.loadP rfl rfl rfl rfl hx2 rfl
            refine pao [.b false] rfl ?_ ?_
            · (repeat' with_reducible apply AllP_cons) <;> try exact aC
            refine S_drawOL [(9, u2 ++ [V1]), (10, u2 ++ [V1] ++ [V2])] _ 11 [.agg x.cells, .ms u2.length 0 0 (1 + (out.length - a)) 3 false, .ms (u2.length + 1) 0 0 (a + (1 + (out.length - a))) 3 false] _ _ rfl rfl rfl rfl rfl rfl ⟨⟨_, rfl, ?_⟩, ⟨_, rfl, ?_⟩, ⟨_, rfl, ?_⟩, trivial⟩ ⟨fun o v ho hv => ?_, fun o v ho hv => ?_, trivial⟩ rfl ?_
            · (repeat' with_reducible apply AllP_cons) <;> try exact aC
              all_goals exact OpSpec.loadPA rfl rfl rfl rfl hx2 (lble rfl) rfl
            · (repeat' with_reducible apply AllP_cons) <;> try exact aC
              all_goals exact OpSpec.loadPA rfl rfl rfl rfl hx3 (lble rfl) rfl
            · (repeat' with_reducible apply AllP_cons) <;> try exact aC
              all_goals exact OpSpec.loadPA rfl rfl rfl rfl hx4 (lble rfl) rfl
            · cases ho; cases hv
              refine specC_step rfl rfl ?_
              rw [hV1]
              show OpSpec cx _ _ u2 _ (.ms u2.length 0 0 ([AV.agg x.cells].length + (out.length - a)) 3 false) _
              refine OpSpec.appendS (e := 52) (cx := cx) (st := true) (m := out.length - a) (xs := [.agg x.cells]) (y := .ms w 0 (a * 3) (out.length - a) 3 false) (ys := lsC (out.drop a)) (C := [0 = 0, 3 = 3, a * 3 + (out.length - a) * 3 ≤ (lsC out).length]) rfl ?_ ?_ ?_ ?_ ?_ ⟨rfl, rfl, by omega, trivial⟩ (lsC_one _) hone2 (.inl (by omega)) h2.al (by show (1 + (out.length - a)) * 32 ≤ _; omega) (by show 1 + (out.length - a) ≤ _; omega) ?_
              · rfl
              · rfl
              · rfl
              · show AV.ms w 0 (0 + (Option.getD (some (a : Int)) (0 : Int)).toNat * 3) ((Option.getD none (out.length : Int)).toNat - (Option.getD (some (a : Int)) (0 : Int)).toNat) 3 false = _
                simp
              · simp only [aSrc, hbx u2 hg2, dropA_eq]
                rw [hT1, List.take_of_length_le (by omega)]
              · rw [hfl]; rfl
            · cases ho; cases hv
              refine specC_step rfl rfl ?_
              rw [hV2, show u2.length + 1 = (u2 ++ [V1]).length from hul3.symm]
              refine OpSpec.appendF (e := 52) (m := 1 + (out.length - a)) (cs := lsC out) (off := 0) (len := a) (y := .ms u2.length 0 0 (1 + (out.length - a)) 3 false) (ys := lsC (x :: out.drop a)) (C := [0 = 0, 3 = 3, 0 + (1 + (out.length - a)) * 3 ≤ (lsC (x :: out.drop a)).length]) rfl rfl rfl ?_ rfl ?_ ⟨rfl, rfl, ?_, trivial⟩ (lsC_one _) (.inl (by omega)) hal3 hgw3 ?_ (by show (a + (1 + (out.length - a))) * 32 ≤ _; omega) (by omega) ?_
              · show AV.ms w 0 (0 + (Option.getD none (0 : Int)).toNat * 3) ((Option.getD (some (a : Int)) (out.length : Int)).toNat - (Option.getD none (0 : Int)).toNat) 3 true = _
                simp
              · simp only [aSrc, boxAt, hv3, dropA_eq]
                rw [List.drop_zero, List.take_of_length_le (by rw [hld1]; exact Nat.le_refl _)]
              · rw [hld1]; omega
              · rw [hlo]; omega
              · rw [hins, lsC_app, List.drop_zero, hT2]
            refine pao [] rfl ?_ ?_
            · (repeat' with_reducible apply AllP_cons) <;> try exact aC
            have hl1 : (insL out x).length = a + (1 + (out.length - a)) := by rw [hins, List.length_append, List.length_cons, List.length_take, List.length_drop]; omega
            refine S_round (u2 ++ [V1] ++ [V2], u2.length + 1, i + 1, insL out x) (by show s.all.length - (i + 1) < s.all.length - i; omega) ⟨?_, ?_, ?_, ?_, hlt, hsx.symm⟩ (.cons rfl (.cons (by rw [hl1]; rfl) (.cons hi1 (.nil _)))) rfl
            · rw [hV2]; exact PAt.app (by rw [hV1]; exact h2.app _ _) _ _
            · exact (hk2.trans QKeep.app).trans QKeep.app
            · have := hk2.len; show σ.length ≤ u2.length + 1; omega
            · show (u2 ++ [V1] ++ [V2])[u2.length + 1]? = _
              rw [← hul3, app_last, hV2]
      · have d1 : decide ((a : Int) < (out.length : Int)) = false := decide_eq_false (by omega)
        have hae : a = out.length := by omega
        have hin : lessL x out = out.length := by omega
        have hins : insL out x = out ++ [x] := by unfold insL; rw [hin, List.take_length, List.drop_length]
        obtain ⟨V2, hV2⟩ : ∃ V2 : Nat × Option Box, V2 = (0, some (.cells (lsC (out ++ [x])) ⟨false, none⟩)) := ⟨_, rfl⟩
        refine S_drawO 34 [.bool false] rfl rfl rfl rfl ?_ ?_
        · (repeat' with_reducible apply AllP_cons) <;> try exact aC
        refine pao [.b false] rfl ?_ ?_
        · (repeat' with_reducible apply AllP_cons) <;> try exact aC
        refine S_drawOC (u2 ++ [V2]) 10 11 [.agg x.cells, .sl true true 3 [.agg x.cells], .ms u2.length 0 0 (out.length + 1) 3 false] rfl rfl rfl rfl (fun t => rfl) (fun u' hu => ?_) (fun o v ho hv => ?_) ?_
        · have hgu : u'[w]? = some (0, some (.cells (lsC out) ⟨false, none⟩)) := by
            rcases hu with rfl | rfl
            · exact hg2
            · exact app_get hg2
          have hxu : u'[u.length]? = some (0, some (.cells x.cells ⟨false, some 52⟩)) := by
            rcases hu with rfl | rfl
            · exact hx2
            · exact app_get hx2
          have hsr : aSrc 3 (.ms w 0 (out.length * 3) 0 3 false) u' = some ([0 = 0, 3 = 3, out.length * 3 + 0 * 3 ≤ (lsC out).length], 0, []) := by
            simp only [aSrc, hbx u' hgu, Nat.zero_mul, List.take_zero]
          (repeat' with_reducible apply AllP_cons) <;> try exact aC
          · exact OpSpec.loadPA rfl rfl rfl rfl hxu (lble rfl) rfl
          · refine OpSpec.append0S (y := .ms w 0 (out.length * 3) 0 3 false) rfl rfl rfl rfl ?_ hsr ⟨rfl, rfl, by omega, trivial⟩
            show AV.ms w 0 (0 + (Option.getD (some (a : Int)) (0 : Int)).toNat * 3) ((Option.getD none (out.length : Int)).toNat - (Option.getD (some (a : Int)) (0 : Int)).toNat) 3 false = _
            rw [hae]; simp
        · cases ho; cases hv
          refine specC_step rfl rfl ?_
          rw [hV2]
          refine OpSpec.appendF (e := 52) (m := 1) (cs := lsC out) (off := 0) (len := out.length) (y := .sl true true 3 [.agg x.cells]) (ys := x.cells) (C := [3 = 3, ∀ y ∈ flatA 3 [AV.agg x.cells], y.one = true]) rfl rfl rfl ?_ rfl ?_ ⟨rfl, hone2, trivial⟩ hxc (.inl (by decide)) h2.al hg2 (by show 0 + out.length * 3 ≤ _; rw [hlo]; omega) (hb0 (by omega)) (by omega) ?_
          · show AV.ms w 0 (0 + (Option.getD none (0 : Int)).toNat * 3) ((Option.getD (some (a : Int)) (out.length : Int)).toNat - (Option.getD none (0 : Int)).toNat) 3 true = _
            rw [hae]; simp
          · show some ([3 = 3, ∀ y ∈ flatA 3 [AV.agg x.cells], y.one = true], 1, flatA 3 [AV.agg x.cells]) = _
            rw [hfl]
          · rw [lsC_app, hxl, List.drop_zero, ← hlo, List.take_of_length_le (Nat.le_refl _)]
        refine pao [] rfl ?_ ?_
        · (repeat' with_reducible apply AllP_cons) <;> try exact aC
        have hl1 : (out ++ [x]).length = out.length + 1 := by simp
        refine S_round (u2 ++ [V2], u2.length, i + 1, out ++ [x]) (by show s.all.length - (i + 1) < s.all.length - i; omega) ⟨?_, ?_, ?_, ?_, hlt, ?_⟩ (.cons rfl (.cons (by rw [hl1]; rfl) (.cons hi1 (.nil _)))) rfl
        · rw [hV2]; exact h2.app _ _
        · exact hk2.trans QKeep.app
        · have := hk2.len; exact this
        · rw [app_last, hV2]
        · rw [hsx, hins]
    · have c1 : decide ((i : Int) < (s.all.length : Int)) = false := decide_eq_false (by omega)
      refine pao [.v (.ms L.aid L.av 0 s.all.length 3 false), .b false] rfl ?_ ?_
      · (repeat' with_reducible apply AllP_cons) <;> try exact aC
        · exact OpSpec.loadP rfl rfl rfl rfl h1.rb rfl
      rw [List.take_of_length_le (by omega)] at hout
      subst hout
      exact S_ret ⟨_, _, rfl, trivial, w, rfl, hw, hg, h1, hk1⟩
end Go.Proofs.Ytopdpbcfgjijaaa
end
section
set_option linter.unusedVariables false
set_option linter.unusedSimpArgs false
set_option maxRecDepth 20000
set_option maxHeartbeats 1000000
namespace Go.Proofs.Ytopdpbcfgjijaaa
open Go Go.Ab
theorem set_perm {α : Type} {l : List α} {i : Nat} (h : i < l.length) (y : α) : (l.set i y).Perm (y :: l.eraseIdx i) := by
  have h1 := era_perm (l := l.set i y) (i := i) (by rw [List.length_set]; exact h)
  rw [List.getElem_set_self, List.eraseIdx_set_eq] at h1
  exact h1.symm
theorem SimP.aErr {s : PB} {now : Int} {es : List JE} (h : SimP s now es) (name : Nm) : pAddE s name = addE es name := by
  unfold pAddE addE
  rw [h.find, h.nm, List.length_map]
theorem SimP.aAdd {s : PB} {now : Int} {es : List JE} (h : SimP s now es) (name : Nm) (m : Nat) (he : addE es name = 0) : SimP (pAdd s name) now (es ++ [newJ name m]) := by
  unfold pAdd
  rw [if_pos ((h.aErr name).trans he)]
  refine ⟨h.nw, ?_, ?_, ?_, ?_, fun e hm => ?_⟩
  · show s.names ++ [name] = _
    rw [h.nm, List.map_append]; rfl
  · show s.sts ++ [1] = _
    rw [h.st, List.map_append]; rfl
  · show s.trs ++ [0] = _
    rw [h.tr, List.map_append]; rfl
  · have : allL (es ++ [newJ name m]) = allL es := by
      unfold allL; rw [List.flatMap_append]
      show _ ++ (([] : List LE) ++ []) = _
      simp
    rw [this]; exact h.al
  · rcases List.mem_append.1 hm with hm | hm
    · exact h.s4 e hm
    · rw [List.mem_singleton.1 hm]; exact .inl rfl
theorem SimP.aNo {s : PB} {now : Int} {es : List JE} (h : SimP s now es) (name : Nm) (he : addE es name ≠ 0) : pAdd s name = s := by
  unfold pAdd
  rw [if_neg (by rw [h.aErr]; exact he)]
theorem hasW_of {l : List (Int × Int)} (hn : (l.map Prod.fst).Nodup) {j : Nat} (hj : j < l.length) : hasW l l[j].1 = some j := by
  unfold hasW
  rw [List.findIdx?_eq_some_iff_getElem]
  refine ⟨hj, by simp, fun k hk => ?_⟩
  have hk2 : k < l.length := by omega
  simp only [beq_iff_eq]
  intro e
  have := nodup_inj hn (i := k) (k := j) (by simpa using hk2) (by simpa using hj) (by simpa using e)
  omega
theorem hasP_iff {name : Nm} {w : Int} {x : LE} : hasP name w x = true ↔ x.job = name ∧ x.wk = w := by
  unfold hasP
  simp
theorem SimP.has {t : TM} {s : PB} {now : Int} {es : List JE} (h : SimP s now es) (hb : BOk t es) {name : Nm} {w : Int} {i : Nat} (hf : s.all.findIdx? (hasP name w) = some i) :
    ∃ hi : i < s.all.length, ∃ a, ∃ ha : a < es.length, ∃ j, ∃ hj : j < es[a].till.length, s.all[i] = ⟨es[a].name, es[a].till[j].1, es[a].till[j].2⟩ ∧ es[a].name = name ∧ es[a].till[j].1 = w ∧ atP s name = a ∧ atL es name = some a ∧ hasW es[a].till w = some j ∧ fndL es name w = some a := by
  obtain ⟨hi, hp, _⟩ := List.findIdx?_eq_some_iff_getElem.1 hf
  obtain ⟨a, ha, j, hj, hx, hat⟩ := h.where_ hb hi
  rw [hx] at hp
  obtain ⟨h1, h2⟩ := hasP_iff.1 hp
  have h1 : es[a].name = name := h1
  have h2 : es[a].till[j].1 = w := h2
  have h3 : atL es name = some a := by rw [← h1]; exact atL_of hb ha
  have h4 : hasW es[a].till w = some j := by rw [← h2]; exact hasW_of (hb.eo _ (List.getElem_mem ha)).tk hj
  have hjob : s.all[i].job = name := by rw [hx]; exact h1
  refine ⟨hi, a, ha, j, hj, hx, h1, h2, by rw [← hjob]; exact hat, h3, h4, ?_⟩
  unfold fndL
  rw [h3]
  simp only [List.getElem?_eq_getElem ha, h4]
theorem SimP.hasno {t : TM} {s : PB} {now : Int} {es : List JE} (h : SimP s now es) {name : Nm} {w : Int} (hf : s.all.findIdx? (hasP name w) = none) {a : Nat} (ha : atL es name = some a) : hasW (es[a]'(atL_some ha).1).till w = none := by
  obtain ⟨hl, hnm⟩ := atL_some ha
  cases hh : hasW es[a].till w with
  | none => rfl
  | some j =>
    obtain ⟨hj, hw⟩ := hasW_some hh
    have hx : (⟨es[a].name, es[a].till[j].1, es[a].till[j].2⟩ : LE) ∈ s.all := h.al.mem_iff.2 (mem_allL.2 ⟨_, List.getElem_mem hl, _, List.getElem_mem hj, rfl⟩)
    have := List.findIdx?_eq_none_iff.1 hf _ hx
    rw [hasP_iff.2 ⟨hnm, hw⟩] at this
    cases this
theorem SimP.fno {t : TM} {s : PB} {now : Int} {es : List JE} (h : SimP s now es) {name : Nm} {w : Int} (hf : s.all.findIdx? (hasP name w) = none) : fndL es name w = none := by
  unfold fndL
  cases ha : atL es name with
  | none => rfl
  | some a =>
    obtain ⟨hl, _⟩ := atL_some ha
    simp only [List.getElem?_eq_getElem hl, h.hasno (t := t) hf ha]
theorem SimP.put {s : PB} {now : Int} {es : List JE} (h : SimP s now es) {a : Nat} (ha : a < es.length) (e : JE) (hn : e.name = es[a].name) (h4 : e.st = 1 ∨ e.st = 2 ∨ e.st = 3 ∨ e.st = 4) {al : List LE} (hal : al.Perm (allL (es.set a e))) {st tr : List Int} (hst : st = s.sts.set a e.st) (htr : tr = s.trs.set a e.tried) :
    SimP ⟨s.now, s.names, st, tr, al⟩ now (es.set a e) := by
  refine ⟨h.nw, ?_, ?_, ?_, hal, s4_set h.s4 h4⟩
  · show s.names = _
    rw [set_map ha JE.name hn]; exact h.nm
  · show st = _
    rw [hst, h.st, List.map_set]
  · show tr = _
    rw [htr, h.tr, List.map_set]
theorem set_same {l : List Int} {a : Nat} {x : Int} (h : a < l.length) (hx : l[a] = x) : l.set a x = l := by
  subst hx; exact List.set_getElem_self ..
theorem SimP.stx {s : PB} {now : Int} {es : List JE} (h : SimP s now es) {a : Nat} (ha : a < es.length) : s.sts.getD a 0 = es[a].st ∧ s.trs.getD a 0 = es[a].tried ∧ s.sts.set a es[a].st = s.sts ∧ s.trs.set a es[a].tried = s.trs := by
  refine ⟨by rw [h.st]; simp [List.getD, ha], by rw [h.tr]; simp [List.getD, ha], ?_, ?_⟩
  · refine set_same (by rw [h.st, List.length_map]; exact ha) ?_
    simp [h.st]
  · refine set_same (by rw [h.tr, List.length_map]; exact ha) ?_
    simp [h.tr]
theorem SimP.grant {t : TM} {s : PB} {now : Int} {es : List JE} (h : SimP s now es) (hb : BOk t es) (n w : Int) (name : Nm) :
    (pGrant t s n w name).1 = codeS (grantS t now n w name es) ∧ SimP (pGrant t s n w name).2 (nowS (grantS t now n w name es)) (esS (grantS t now n w name es)) := by
  unfold pGrant grantS
  rw [h.nw]
  by_cases he : errT n now [w] = 0
  case neg => rw [if_neg he, if_neg he]; exact ⟨rfl, h⟩
  rw [if_pos he, if_pos he]
  obtain ⟨h1, _⟩ := pTime_sim (n := n) h hb
  have hbT := hb.tick n
  generalize (pTime t s n).1 = s1 at *
  generalize es.map (tickE t.tries n) = T at *
  unfold pGrant1
  rw [h1.find]
  cases ha : atL T name with
  | none => exact ⟨rfl, h1⟩
  | some a =>
    obtain ⟨hal, hnm⟩ := atL_some ha
    simp only [List.getElem?_eq_getElem hal]
    obtain ⟨q1, q2, q3, q4⟩ := h1.stx hal
    have hmn : manyP s1.all name = T[a].till.length := by
      unfold manyP
      rw [h1.al.countP_eq, ← hnm]
      exact many_of hbT.nn _ (List.getElem_mem hal)
    have hhs : (s1.all.findIdx? (hasP name w)).isSome = (hasW T[a].till w).isSome := by
      cases hf : s1.all.findIdx? (hasP name w) with
      | none => rw [h1.hasno (t := t) hf ha]
      | some i =>
        obtain ⟨_, a', ha', j, hj, _, _, _, _, h3, h4, _⟩ := h1.has hbT hf
        rw [ha] at h3
        cases h3
        rw [h4]; rfl
    have hs4 := h1.s4 _ (List.getElem_mem hal)
    have hc : pGrC t s1 w name a = grC t w T[a] := by
      unfold pGrC grC
      rw [q1, q2, hhs, hmn]
      have : (T[a].st ≥ 3) = (T[a].st = 3 ∨ T[a].st = 4) := by
        apply propext; omega
      simp only [this]
    rw [hc]
    by_cases hg : grC t w T[a] = 0
    · rw [if_pos hg, if_pos hg]
      refine ⟨rfl, h1.put hal (grE t n w T[a]) rfl (.inr (.inl rfl)) ?_ rfl (by rw [q2]; rfl)⟩
      obtain ⟨p, q, e1, e2⟩ := split_l hal
      have e3 : leJ (grE t n w T[a]) = leJ T[a] ++ [⟨name, w, n + t.last⟩] := by
        unfold leJ grE
        rw [List.map_append]
        show _ ++ [leP T[a].name (w, n + t.last)] = _
        rw [hnm]; rfl
      rw [e2, allL_mid, e3]
      have e4 : allL T = allL p ++ (leJ T[a] ++ allL q) := by conv => lhs; rw [e1, allL_mid]
      refine (h1.al.append_right _).trans ?_
      rw [e4, List.append_assoc, List.append_assoc]
      refine List.Perm.append_left _ ?_
      rw [List.append_assoc]
      refine List.Perm.append_left _ ?_
      exact List.perm_append_comm
    · rw [if_neg hg, if_neg hg]
      exact ⟨rfl, h1⟩
theorem erE_beE {t : TM} {n w : Int} {e : JE} {j : Nat} (hj : hasW e.till w = some j) : erE (beE t n w e) j = erE e j := by
  have e1 : (beE t n w e).till = e.till.set j (w, n + t.last) := by unfold beE; simp only [hj]
  unfold erE
  rw [e1, List.eraseIdx_set_eq]
  rfl
theorem SimP.beat {t : TM} {s : PB} {now : Int} {es : List JE} (h : SimP s now es) (hb : BOk t es) (n w : Int) (name : Nm) :
    (pBeat t s n w name).1 = codeS (actS (beE t n w) t now n w name es) ∧ SimP (pBeat t s n w name).2 (nowS (actS (beE t n w) t now n w name es)) (esS (actS (beE t n w) t now n w name es)) := by
  unfold pBeat actS
  rw [h.nw]
  by_cases he : errT n now [w] = 0
  case neg => rw [if_neg he, if_neg he]; exact ⟨rfl, h⟩
  rw [if_pos he, if_pos he]
  obtain ⟨h1, _⟩ := pTime_sim (n := n) h hb
  have hbT := hb.tick n
  generalize (pTime t s n).1 = s1 at *
  generalize es.map (tickE t.tries n) = T at *
  unfold pBeat1
  cases hf : s1.all.findIdx? (hasP name w) with
  | none => rw [h1.fno (t := t) hf]; exact ⟨rfl, h1⟩
  | some i =>
    obtain ⟨hi, a, ha, j, hj, hx, hnm, hw, _, h3, h4, h5⟩ := h1.has hbT hf
    rw [h5]
    simp only [List.getElem?_eq_getElem hi, List.getElem?_eq_getElem ha]
    obtain ⟨q1, q2, q3, q4⟩ := h1.stx ha
    have hal : (beE t n w T[a]).till = T[a].till.set j (w, n + t.last) := by unfold beE; simp only [h4]
    refine ⟨rfl, h1.put ha (beE t n w T[a]) rfl (h1.s4 T[a] (List.getElem_mem ha)) ?_ q3.symm q4.symm⟩
    have hla : a < (T.set a (beE t n w T[a])).length := by rw [List.length_set]; exact ha
    have hge : (T.set a (beE t n w T[a]))[a] = beE t n w T[a] := List.getElem_set_self ..
    have hjl : j < (T.set a (beE t n w T[a]))[a].till.length := by rw [hge, hal, List.length_set]; exact hj
    have hp := er_perm hla hjl
    simp only [hge, List.set_set, erE_beE h4, hal, List.getElem_set_self] at hp
    refine (set_perm hi _).trans (List.Perm.trans ?_ hp)
    have hp0 := (era_perm hi).trans (h1.al.trans (er_perm ha hj).symm)
    rw [hx] at hp0
    have := hp0.cons_inv
    rw [hx]
    show ((⟨T[a].name, T[a].till[j].1, n + t.last⟩ : LE) :: s1.all.eraseIdx i).Perm _
    rw [hw]
    exact this.cons _
theorem SimP.done {t : TM} {s : PB} {now : Int} {es : List JE} (h : SimP s now es) (hb : BOk t es) (n w : Int) (name : Nm) (good : Bool) :
    (pDone t s n w name good).1 = codeS (actS (dnE t w good) t now n w name es) ∧ SimP (pDone t s n w name good).2 (nowS (actS (dnE t w good) t now n w name es)) (esS (actS (dnE t w good) t now n w name es)) := by
  unfold pDone actS
  rw [h.nw]
  by_cases he : errT n now [w] = 0
  case neg => rw [if_neg he, if_neg he]; exact ⟨rfl, h⟩
  rw [if_pos he, if_pos he]
  obtain ⟨h1, _⟩ := pTime_sim (n := n) h hb
  have hbT := hb.tick n
  generalize (pTime t s n).1 = s1 at *
  generalize es.map (tickE t.tries n) = T at *
  unfold pDone1
  cases hf : s1.all.findIdx? (hasP name w) with
  | none => rw [h1.fno (t := t) hf]; exact ⟨rfl, h1⟩
  | some i =>
    obtain ⟨hi, a, ha, j, hj, hx, hnm, hw, hat, h3, h4, h5⟩ := h1.has hbT hf
    rw [h5, hat]
    simp only [List.getElem?_eq_getElem ha]
    cases good with
    | false =>
      refine ⟨rfl, ?_⟩
      rw [if_neg (by simp)]
      have hd := (h1.drop hbT hi ha hj hx).2.1
      rw [hnm] at hd
      have e1 : dnE t w false T[a] = freeE t.tries (erE T[a] j) := by
        show freeE t.tries (dlE w T[a]) = _
        have : dlE w T[a] = erE T[a] j := by unfold dlE erE; simp only [h4]
        rw [this]
      show SimP _ n (T.set a (dnE t w false T[a]))
      rw [e1]; exact hd
    | true =>
      refine ⟨rfl, ?_⟩
      rw [if_pos rfl]
      obtain ⟨q1, q2, q3, q4⟩ := h1.stx ha
      refine h1.put ha (dnE t w true T[a]) rfl (.inr (.inr (.inl rfl))) ?_ rfl q4.symm
      obtain ⟨p, q, e1, e2⟩ := split_l ha
      have e4 : allL T = allL p ++ (leJ T[a] ++ allL q) := by conv => lhs; rw [e1, allL_mid]
      refine (h1.al.filter _).trans ?_
      rw [e2, allL_mid, e4, List.filter_append, List.filter_append]
      have hnn : ∀ x, (x ∈ p ∨ x ∈ q) → x.name ≠ T[a].name := fun x hx he => by
        have hn := hbT.nn
        rw [e1, List.map_append, List.map_cons] at hn
        obtain ⟨n1, n2, n3⟩ := List.nodup_append.1 hn
        rcases hx with hx | hx
        · exact n3 _ (List.mem_map_of_mem hx) _ (List.mem_cons_self ..) he
        · exact (List.nodup_cons.1 n2).1 (he ▸ List.mem_map_of_mem hx)
      have f1 : ∀ l : List JE, (∀ x ∈ l, x.name ≠ T[a].name) → (allL l).filter (fun x => x.job != name) = allL l := fun l hl => by
        rw [List.filter_eq_self]
        intro x hx
        obtain ⟨e, he, pp, _, rfl⟩ := mem_allL.1 hx
        have := hl e he
        rw [hnm] at this
        simpa using this
      have f2 : (leJ T[a]).filter (fun x => x.job != name) = [] := by
        rw [List.filter_eq_nil_iff]
        intro x hx
        obtain ⟨pp, _, rfl⟩ := mem_leJ.1 hx
        simp [hnm]
      rw [f1 p fun x hx => hnn x (.inl hx), f1 q fun x hx => hnn x (.inr hx), f2]
      exact List.Perm.refl _
theorem insL_pw {l : List LE} {x : LE} (hp : l.Pairwise ltL) (hk : ∀ y ∈ l, y.job ≠ x.job ∨ y.wk ≠ x.wk) : (insL l x).Pairwise ltL := by
  unfold insL
  rw [List.pairwise_append]
  have hbefore : ∀ i (hi : i < l.length), i < lessL x l → ltL l[i] x := fun i hi h => (ltB_iff _ _).1 (lessL_lt hi h)
  have hpg : ∀ i j (hi : i < l.length) (hj : j < l.length), i < j → ltL l[i] l[j] := fun i j hi hj hij => List.pairwise_iff_getElem.1 hp i j hi hj hij
  have hafter : ∀ i (hi : i < l.length), lessL x l ≤ i → ltL x l[i] := fun i hi h => by
    have hk2 : lessL x l < l.length := by omega
    have h1 := lessL_at hk2
    have h2 : ltL x l[lessL x l] := by
      refine ltL_tot ?_ fun h => ?_
      · rcases hk _ (List.getElem_mem hk2) with h | h
        · exact .inl h.symm
        · exact .inr h.symm
      · rw [(ltB_iff _ _).2 h] at h1; cases h1
    rcases Nat.lt_or_ge (lessL x l) i with h' | h'
    · exact ltL_trans h2 (hpg _ _ hk2 hi h')
    · have : i = lessL x l := by omega
      subst this; exact h2
  refine ⟨hp.sublist (List.take_sublist _ _), ?_, ?_⟩
  · rw [List.pairwise_cons]
    refine ⟨fun y hy => ?_, hp.sublist (List.drop_sublist _ _)⟩
    obtain ⟨i, hi, rfl⟩ := List.getElem_of_mem hy
    rw [List.getElem_drop]
    rw [List.length_drop] at hi
    exact hafter _ (by omega) (by omega)
  · intro y hy z hz
    obtain ⟨i, hi, rfl⟩ := List.getElem_of_mem hy
    rw [List.length_take] at hi
    rw [List.getElem_take]
    have h1 := hbefore i (by omega) (by omega)
    rcases List.mem_cons.1 hz with rfl | hz
    · exact h1
    · obtain ⟨j, hj, rfl⟩ := List.getElem_of_mem hz
      rw [List.length_drop] at hj
      rw [List.getElem_drop]
      exact ltL_trans h1 (hafter _ (by omega) (by omega))
theorem sortP_pw : ∀ (l a : List LE), a.Pairwise ltL → ((a ++ l).map fun x => (x.job, x.wk)).Nodup → (l.foldl insL a).Pairwise ltL
  | [], a, ha, _ => ha
  | x :: l, a, ha, hn => by
    have hax : ∀ y ∈ a, y.job ≠ x.job ∨ y.wk ≠ x.wk := fun y hy => by
      rw [List.map_append, List.map_cons] at hn
      have h3 := (List.nodup_append.1 hn).2.2 _ (List.mem_map_of_mem hy) _ (List.mem_cons_self ..)
      by_cases h : y.job = x.job
      · exact .inr fun hw => h3 (by rw [h, hw])
      · exact .inl h
    refine sortP_pw l (insL a x) (insL_pw ha hax) ?_
    have hpm : (insL a x ++ l).Perm (a ++ x :: l) := by
      have := (insL_perm a x).append_right l
      rw [List.append_assoc] at this
      exact this
    exact (hpm.map fun x => (x.job, x.wk)).nodup_iff.2 hn
theorem SimP.sorted {t : TM} {s : PB} {now : Int} {es : List JE} (h : SimP s now es) (hb : BOk t es) {out : List LE} (hp : out.Perm (allL es)) (hw : out.Pairwise ltL) : sortP s.all = out := by
  have hn := allL_nd hb.nn fun e he => (hb.eo e he).tk
  refine ltL_uniq ((sortP_perm _).trans (h.al.trans hp.symm)) (sortP_pw s.all [] .nil ?_) hw
  rw [List.nil_append]
  exact (h.al.map fun x => (x.job, x.wk)).nodup_iff.2 hn
end Go.Proofs.Ytopdpbcfgjijaaa
end
section
set_option linter.unusedVariables false
set_option linter.unusedSimpArgs false
set_option maxRecDepth 20000
namespace Go.Proofs.Ytopdpbcfgjijaaa
open Go Go.Ab
theorem SameTexts_ok {st st' fl fl' : Bool} (a b : List (List UInt8)) (hl : a.length ≤ 9223372036854775806) (hb : b.length ≤ 9223372036854775807) : Calc cx 36 [.sl st fl 1 (texts a), .sl st' fl' 1 (texts b)] (.bool (a == b)) :=
  pure_intro (fun a w => Try.call36 a w) Try.func36 rfl Try.ntmps36 rfl .bool fun B => by
    refine ab 1000 rfl trivial ?_
    refine S_bne rfl (fun h => ?_) (fun h => ?_)
    · refine ab 1000 rfl trivial ?_
      refine S_retc .bool rfl trivial ?_
      have hne : a ≠ b := by
        intro e; subst e; exact h rfl
      rw [show (a == b) = false by simpa using hne]; rfl
    · have hlen : a.length = b.length := by simp [texts] at h; omega
      refine ab 1000 rfl trivial ?_
      refine S_while (α := Nat) (fun i => [(0, .sl st fl 1 (texts a)), (1, .sl st' fl' 1 (texts b)), (5, .int .i64 i)]) (fun _ => []) (fun i => i ≤ a.length ∧ a.take i = b.take i) (fun i => a.length - i) 0
        ⟨by simp, by simp⟩ (.cons rfl (.cons rfl (.cons rfl (.nil _)))) rfl ?_
      rintro i ⟨hi, hN⟩
      refine ab 1000 rfl trivial ?_
      refine S_dec rfl (fun h => ?_) (fun h => ?_)
      · have hil : i < a.length := by simp [texts] at h; omega
        have hil' : i < b.length := by omega
        refine ab 1000 rfl trivial ?_
        refine S_draw 9 [] [.str a[i], .str b[i]] rfl rfl rfl rfl ⟨rfl, rfl, rfl, by omega, by simp [texts, List.getElem?_eq_getElem hil], rfl, rfl, rfl, rfl, by omega, by simp [texts, List.getElem?_eq_getElem hil'], rfl, rfl, trivial⟩ ?_
        refine ab 1000 rfl trivial ?_
        refine S_cond rfl (fun h => ?_) (fun h => ?_)
        · have hne : a[i] ≠ b[i] := by simpa using h
          refine ab 1000 rfl trivial ?_
          refine S_retc .bool rfl trivial ?_
          have hne : a ≠ b := by
            intro e; subst e; exact hne rfl
          rw [show (a == b) = false by simpa using hne]; rfl
        · have he : a[i] = b[i] := by simpa using h
          refine ab 1000 rfl trivial ?_
          refine S_round (i + 1) (by show a.length - (i + 1) < a.length - i; omega) ⟨hil, ?_⟩ (.cons rfl (.cons rfl (.cons (ai64 rfl (by omega)) (.nil _)))) rfl
          rw [List.take_succ_eq_append_getElem hil, List.take_succ_eq_append_getElem hil', hN, he]
      · have hil : i = a.length := by simp [texts] at h; omega
        refine ab 1000 rfl trivial ?_
        refine S_retc .bool rfl trivial ?_
        have he : a = b := by
          rw [← List.take_of_length_le (l := a) (i := i) (by omega), ← List.take_of_length_le (l := b) (i := i) (by omega)]; exact hN
        rw [show (a == b) = true by simpa using he]; rfl
end Go.Proofs.Ytopdpbcfgjijaaa
end
section
set_option linter.unusedVariables false
set_option linter.unusedSimpArgs false
set_option maxRecDepth 20000
namespace Go.Proofs.Ytopdpbcfgjijaaa
open Go Go.Ab
theorem textsAre_ok {st fl st' fl' : Bool} (p q : List (List UInt8)) (e w : Nat) (hp : p.length ≤ 9223372036854775806) (hq : q.length ≤ 9223372036854775806) : Calc cx 20 [.sl st fl 1 (texts p), .int .i64 e, .int .i64 w, .sl st' fl' 1 (texts q)] (.bool (e == w && p == (if w = 0 then q else []))) :=
  pure_intro (fun a w => Try.call20 a w) Try.func20 rfl Try.ntmps20 rfl .bool fun B => by
    have lend : ∀ σ : Heap, Frz false σ (.sl st fl 1 (texts p)) (.sl st fl 1 (texts p)) := fun σ => .refl (.sl (fun h => by cases h) (texts_any p))
    have lend' : ∀ σ : Heap, Frz false σ (.sl st' fl' 1 (texts q)) (.sl st' fl' 1 (texts q)) := fun σ => .refl (.sl (fun h => by cases h) (texts_any q))
    refine ab 1000 rfl trivial ?_
    have fin : ∀ (B : Bool), ((e : Int) == (w : Int)) = (e == w) := by
      intro _
      by_cases h : e = w
      · subst h; simp
      · have : (e : Int) ≠ w := by omega
        rw [beq_eq_false_iff_ne.2 this, beq_eq_false_iff_ne.2 h]
    refine S_bne rfl (fun h => ?_) (fun h => ?_)
    · have hw : w ≠ 0 := by omega
      rw [if_neg hw]
      refine ab 1000 rfl trivial ?_
      refine S_guard rfl rfl rfl rfl (fun hg => ?_) (fun hg => ?_)
      · refine ab 1000 rfl trivial ?_
        refine S_pure rfl rfl rfl (SameTexts_ok (st := st) (st' := false) (fl := fl) (fl' := false) p [] hp (by decide)) (.cons (lend _) (.cons .nils (.nil _))) ?_
        refine ab 1000 rfl trivial ?_
        refine S_retc .bool rfl trivial ?_
        rw [← fin true, hg]; rfl
      · refine ab 1000 rfl trivial ?_
        refine S_retc .bool rfl trivial ?_
        rw [← fin true, hg]; rfl
    · have hw : w = 0 := by omega
      rw [if_pos hw]
      refine ab 1000 rfl trivial ?_
      refine S_guard rfl rfl rfl rfl (fun hg => ?_) (fun hg => ?_)
      · refine ab 1000 rfl trivial ?_
        refine S_pure rfl rfl rfl (SameTexts_ok (st := st) (st' := st') (fl := fl) (fl' := fl') p q hp (by omega)) (.cons (lend _) (.cons (lend' _) (.nil _))) ?_
        refine ab 1000 rfl trivial ?_
        refine S_retc .bool rfl trivial ?_
        rw [← fin true, hg]; rfl
      · refine ab 1000 rfl trivial ?_
        refine S_retc .bool rfl trivial ?_
        rw [← fin true, hg]; rfl
end Go.Proofs.Ytopdpbcfgjijaaa
end
section
set_option linter.unusedVariables false
set_option linter.unusedSimpArgs false
namespace Go.Ab
open Go Go.WideShapes
def laidB (P : Program) : List Field → Nat → Option Nat
  | [], o => some o
  | f :: r, o => match Nat.beq f.offset o with
    | true => laidB P r (o + P.cellsOf f.type)
    | false => none
mutual
def plainB (P : Program) : Nat → TypeId → Bool
  | 0, _ => false
  | n + 1, t => match P.underlying t with
    | some .bool => Nat.beq (P.cellsOf t) 1
    | some (.int _) => Nat.beq (P.cellsOf t) 1
    | some .string => Nat.beq (P.cellsOf t) 1
    | some (.slice e) => match Nat.beq (P.cellsOf t) 1, Nat.beq (P.cellsOf e) 0 with
      | true, false => plainB P n e
      | _, _ => false
    | some (.struct fs) => match laidB P fs.toList 0 with
      | some m => match Nat.beq (P.cellsOf t) m with
        | true => plainAll P n fs.toList
        | false => false
      | none => false
    | _ => false
def plainAll (P : Program) : Nat → List Field → Bool
  | 0, _ => false
  | n + 1, fs => match fs with
    | [] => true
    | f :: r => match plainB P n f.type with
      | true => plainAll P n r
      | false => false
end
inductive RdD (P : Program) {H : Type} : TypeId → DataW H → AV → Prop
  | bool {t b} (ht : P.underlying t = some .bool) : RdD P t (.lit (.bool b)) (.bool b)
  | int {t k n} (ht : P.underlying t = some (.int k)) (hw : (Lit.int k n).wf = true) : RdD P t (.lit (.int k n)) (.int k n)
  | str {t s} (ht : P.underlying t = some .string) (hs : s.length ≤ maxLen) : RdD P t (.lit (.string s)) (.str s)
  | nils {t e} (ht : P.underlying t = some (.slice e)) : RdD P t .nil (.sl true false (P.cellsOf e) [])
  | sl {t e} {ds rest : List (DataW H)} {xs : List AV} (ht : P.underlying t = some (.slice e)) (hl : xs.length = ds.length) (hm : xs.length ≤ maxLen) (h : ∀ i (h1 : i < ds.length) (h2 : i < xs.length), RdD P e ds[i] xs[i]) : RdD P t (.slice ds rest) (.sl true false (P.cellsOf e) xs)
  | st {t} {fs : Array Field} {ds : List (DataW H)} {xs : List AV} (ht : P.underlying t = some (.struct fs)) (hd : ds.length = fs.size) (hx : xs.length = fs.size) (h : ∀ i (h1 : i < ds.length) (h2 : i < xs.length) (h3 : i < fs.size), RdD P fs[i].type ds[i] xs[i]) : RdD P t (.agg ds) (.agg (xs.flatMap AV.cells))
def CellsV (w : World) (cs : List Value) (az : List AV) : Prop := cs.length = az.length ∧ ∀ i (h1 : i < cs.length) (h2 : i < az.length), VRel (Rl.old w) w cs[i] az[i]
theorem CellsV.one {w : World} {v : Value} {a : AV} (h : VRel (Rl.old w) w v a) : CellsV w [v] [a] := by
  refine ⟨rfl, fun i h1 h2 => ?_⟩
  obtain rfl : i = 0 := by simpa using h1
  exact h
theorem laidB_flat {P : Program} : ∀ (fs : List Field) (o m : Nat) (w : World) (cs : List Value) (xs : List AV), laidB P fs o = some m → xs.length = fs.length → (∀ i (h1 : i < fs.length) (h2 : i < xs.length), CellsV w ((cs.drop fs[i].offset).take (P.cellsOf fs[i].type)) xs[i].cells ∧ xs[i].cells.length = P.cellsOf fs[i].type) →
    cs.length = m → o ≤ m ∧ CellsV w (cs.drop o) (xs.flatMap AV.cells)
  | [], o, m, w, cs, xs, h, hl, hc, hm => by
    simp only [laidB, Option.some.injEq] at h
    obtain rfl : xs = [] := List.eq_nil_of_length_eq_zero hl
    subst h
    refine ⟨Nat.le_refl _, ?_⟩
    rw [List.drop_of_length_le (by omega)]
    exact ⟨rfl, fun i h => absurd h (by simp)⟩
  | f :: r, o, m, w, cs, xs, h, hl, hc, hm => by
    rw [laidB] at h
    split at h
    case h_2 => cases h
    rename_i hb
    have ho := Nat.eq_of_beq_eq_true hb
    obtain ⟨x, xs, rfl⟩ : ∃ x xs', xs = x :: xs' := by
      cases xs with
      | nil => simp at hl
      | cons x xs => exact ⟨x, xs, rfl⟩
    have h0 := hc 0 (by simp) (by simp)
    simp only [List.getElem_cons_zero] at h0
    obtain ⟨h1, h2⟩ := laidB_flat r (o + P.cellsOf f.type) m w cs xs h (by simpa using hl) (fun i k1 k2 => hc (i + 1) (Nat.succ_lt_succ k1) (Nat.succ_lt_succ k2)) hm
    refine ⟨by omega, ?_⟩
    obtain ⟨⟨e1, e2⟩, e3⟩ := h0
    rw [ho] at e1 e2
    rw [List.flatMap_cons]
    have hsplit : cs.drop o = (cs.drop o).take (P.cellsOf f.type) ++ cs.drop (o + P.cellsOf f.type) := by
      rw [← List.drop_drop, List.take_append_drop]
    rw [hsplit]
    refine ⟨by rw [List.length_append, List.length_append, e1, h2.1], fun i k1 k2 => ?_⟩
    by_cases hi : i < x.cells.length
    · rw [List.getElem_append_left (by omega), List.getElem_append_left hi]
      exact e2 i (by omega) hi
    · rw [List.getElem_append_right (by omega), List.getElem_append_right (by omega)]
      have : i - ((cs.drop o).take (P.cellsOf f.type)).length = i - x.cells.length := by omega
      simp only [this]
      exact h2.2 _ _ _
theorem read_cells {H : Type} {enc : TypeId × Value → H} {P : Program} {W : World} : ∀ (fuel n : Nat) (t : TypeId) (cs : List Value) (d : DataW H) (ps : List MemPlace), DataW.trod enc P W 0 (fun _ => true) true fuel t cs = some (d, ps) → plainB P n t = true →
    ∃ a, RdD P t d a ∧ a.cells.length = P.cellsOf t ∧ CellsV W cs a.cells ∧ (∀ v, (∃ xs, v = .agg xs ∧ xs.toList = cs ∧ aggT P t = some true) ∨ ([v] = cs ∧ aggT P t = some false) → VRel (Rl.old W) W v a) := by
  intro fuel
  induction fuel with
  | zero => intro n t cs d ps h _; simp [DataW.trod] at h
  | succ fuel ih =>
    intro n t cs d ps h hp
    have hall : ∀ (n : Nat) (fs : List Field), plainAll P n fs = true → ∀ i (hi : i < fs.length), ∃ m, plainB P m fs[i].type = true := by
      intro n
      induction n with
      | zero => intro fs h; simp [plainAll] at h
      | succ n ihn =>
        intro fs h i hi
        cases fs with
        | nil => simp at hi
        | cons f r =>
          rw [plainAll] at h
          split at h
          · rename_i hb
            cases i with
            | zero => exact ⟨n, hb⟩
            | succ i => exact ihn r h i (by simpa using hi)
          · cases h
    cases n with
    | zero => simp [plainB] at hp
    | succ n =>
      rw [plainB] at hp
      split at hp
      ·
        rename_i ht
        obtain ⟨b, rfl, hx⟩ := DataW.trod_bool ht h
        cases hx
        refine ⟨.bool b, .bool ht, (Nat.eq_of_beq_eq_true hp).symm, .one .bool, ?_⟩
        rintro v (⟨xs, rfl, h1, h2⟩ | ⟨h1, h2⟩)
        · simp [aggT, ht] at h2
        · cases h1; exact .bool
      · rename_i k ht
        obtain ⟨m, rfl, hx, hw⟩ := DataW.trod_int ht h
        cases hx
        refine ⟨.int _ m, .int ht hw, (Nat.eq_of_beq_eq_true hp).symm, .one .int, ?_⟩
        rintro v (⟨xs, rfl, h1, h2⟩ | ⟨h1, h2⟩)
        · simp [aggT, ht] at h2
        · cases h1; exact .int
      · rename_i ht
        obtain ⟨s, rfl, hx, hw⟩ := DataW.trod_string ht h
        cases hx
        refine ⟨.str s.data.toList, .str ht (by rw [Array.length_toList]; exact hw), (Nat.eq_of_beq_eq_true hp).symm, .one (.str rfl), ?_⟩
        rintro v (⟨xs, rfl, h1, h2⟩ | ⟨h1, h2⟩)
        · simp [aggT, ht] at h2
        · cases h1; exact .str rfl
      ·
        rename_i e ht
        split at hp
        case h_2 => cases hp
        rename_i hc1 hc0
        have hc1 := Nat.eq_of_beq_eq_true hc1
        have hpos : 0 < P.cellsOf e := by
          rcases Nat.eq_zero_or_pos (P.cellsOf e) with h0 | h0
          · rw [h0] at hc0; cases hc0
          · exact h0
        rcases DataW.trod_slice ht h with ⟨rfl, hx⟩ | ⟨a, len, cap, elems, rest, fu, hfu, rfl, hx, _, hl, hm, hlen, hel, hsp, hns⟩
        · cases hx
          refine ⟨_, .nils ht, hc1.symm, .one (.sl0 (fun h => by cases h)), ?_⟩
          rintro v (⟨xs, rfl, h1, h2⟩ | ⟨h1, h2⟩)
          · simp [aggT, ht] at h2
          · cases h1; exact .sl0 (fun h => by cases h)
        · cases hx
          obtain rfl : fuel = fu := by omega
          have each : ∀ i (hi : i < elems.length), ∃ x, RdD P e (elems[i]).1 x ∧ x.cells.length = P.cellsOf e ∧ ∃ ecs : List Value, W.cells? 0 (a.add (i * P.cellsOf e)) (P.cellsOf e) = some ecs ∧ CellsV W ecs x.cells := by
            intro i hi
            have h1 := hel i (by omega)
            rw [List.getElem?_eq_getElem hi, Option.bind_eq_some_iff] at h1
            obtain ⟨ecs, h2, h3⟩ := h1
            obtain ⟨x, k1, k2, k3, _⟩ := ih n e ecs (elems[i]).1 (elems[i]).2 h3 hp
            exact ⟨x, k1, k2, ecs, h2, k3⟩
          have : ∃ xs : List AV, xs.length = elems.length ∧ ∀ i (hi : i < elems.length) (hx : i < xs.length), RdD P e (elems[i]).1 xs[i] ∧ xs[i].cells.length = P.cellsOf e ∧ ∃ ecs : List Value, W.cells? 0 (a.add (i * P.cellsOf e)) (P.cellsOf e) = some ecs ∧ CellsV W ecs xs[i].cells := by
            refine ⟨(List.finRange elems.length).map fun i => Classical.choose (each i.1 i.2), by simp, fun i hi hx => ?_⟩
            simp only [List.getElem_map, List.getElem_finRange]
            exact Classical.choose_spec (each i hi)
          obtain ⟨xs, hxl, hxs⟩ := this
          have hv : VRel (Rl.old W) W (.slice (some a) len cap) (.sl true false (P.cellsOf e) xs) := by
            rcases Nat.eq_zero_or_pos len with h0 | h0
            · subst h0
              obtain rfl : xs = [] := List.eq_nil_of_length_eq_zero (by omega)
              exact .sl0 (fun h => by cases h)
            · obtain ⟨b, o, sp⟩ := a
              obtain ⟨_, _, ecs0, hc, _⟩ := hxs 0 (by omega) (by omega)
              obtain ⟨_, hcl, hcc⟩ := World.cells?_some hc
              have hcell0 := hcc 0 hpos
              rw [List.getElem?_eq_getElem (by omega)] at hcell0
              have hsp : sp = none := by
                cases sp with
                | none => rfl
                | some s =>
                  simp [Addr.add, World.cell?] at hcell0
                  split at hcell0 <;> cases hcell0
              subst hsp
              have hb : b < W.heap.size := by
                rw [Addr.add_lit] at hcell0
                rcases Nat.lt_or_ge b W.heap.size with h | h
                · exact h
                · simp [World.cell?, Addr.add, Array.getElem?_eq_none h] at hcell0
              have hcel : ∀ i, i < xs.length → ∀ j, j < P.cellsOf e → ∃ v, W.cell? ⟨b, o + i * P.cellsOf e + j, none⟩ = some v ∧ ∀ (hi : i < xs.length) (hj : j < (AV.cells xs[i]).length), VRel (Rl.old W) W v (AV.cells xs[i])[j] := by
                intro i hi j hj
                obtain ⟨_, hxc, ecs, hc, hcv⟩ := hxs i (by omega) hi
                obtain ⟨_, hcl, hcc⟩ := World.cells?_some hc
                have h1 := hcc j hj
                rw [List.getElem?_eq_getElem (by omega)] at h1
                rw [Addr.add_lit, Addr.add_lit] at h1
                refine ⟨ecs[j], h1, fun _ hj' => hcv.2 j _ hj'⟩
              refine .sl (by omega) hl (fun h => by cases h) hb (fun _ => hb) (fun x hx => ?_) (fun i j => (W.cell? ⟨b, o + i * P.cellsOf e + j, none⟩).getD undef) (fun i hi j hj => ?_) (fun i hi j hj => ?_)
              · obtain ⟨i, hi, rfl⟩ := List.getElem_of_mem hx
                exact (hxs i (by omega) hi).2.1
              · obtain ⟨v, h1, _⟩ := hcel i hi j hj
                rw [h1]; rfl
              · obtain ⟨v, h1, h2⟩ := hcel i hi j (by rw [(hxs i (by omega) hi).2.1] at hj; exact hj)
                rw [h1]
                exact h2 hi hj
          refine ⟨.sl true false (P.cellsOf e) xs, .sl ht (by simp [hxl]) (by omega) (fun i h1 h2 => by simpa using (hxs i (by simpa using h1) h2).1), hc1.symm, .one hv, ?_⟩
          rintro v (⟨ys, rfl, h1, h2⟩ | ⟨h1, h2⟩)
          · simp [aggT, ht] at h2
          · cases h1; exact hv
      ·
        rename_i fs ht
        split at hp
        case h_2 => cases hp
        rename_i m hm
        split at hp
        case h_2 => cases hp
        rename_i hcm
        have hcm := Nat.eq_of_beq_eq_true hcm
        obtain ⟨ys, fu, hfu, hx, hl, hyl, hy⟩ := DataW.trod_struct ht h
        obtain rfl : fuel = fu := by omega
        cases hx
        have each : ∀ i (hi : i < fs.toList.length) (hi' : i < ys.length), ∃ x, RdD P (fs.toList[i]).type (ys[i]).1 x ∧ x.cells.length = P.cellsOf (fs.toList[i]).type ∧ CellsV W ((cs.drop (fs.toList[i]).offset).take (P.cellsOf (fs.toList[i]).type)) x.cells := by
          intro i hi hi'
          have h1 := hy i (fs.toList[i]) (by simp at hi; simp [hi])
          rw [List.getElem?_eq_getElem hi'] at h1
          obtain ⟨k, hk⟩ := hall n fs.toList hp i hi
          obtain ⟨x, k1, k2, k3, _⟩ := ih k _ _ (ys[i]).1 (ys[i]).2 h1 hk
          exact ⟨x, k1, k2, k3⟩
        have hfl : fs.toList.length = ys.length := by simp [hyl]
        have : ∃ xs : List AV, xs.length = fs.toList.length ∧ ∀ i (hi : i < fs.toList.length) (hi' : i < ys.length) (hx : i < xs.length), RdD P (fs.toList[i]).type (ys[i]).1 xs[i] ∧ xs[i].cells.length = P.cellsOf (fs.toList[i]).type ∧ CellsV W ((cs.drop (fs.toList[i]).offset).take (P.cellsOf (fs.toList[i]).type)) xs[i].cells := by
          refine ⟨(List.finRange fs.toList.length).map fun i => Classical.choose (each i.1 i.2 (by omega)), by simp, fun i hi hi' hx => ?_⟩
          simp only [List.getElem_map, List.getElem_finRange]
          exact Classical.choose_spec (each i hi hi')
        obtain ⟨xs, hxl, hxs⟩ := this
        obtain ⟨_, hcv⟩ := laidB_flat fs.toList 0 m W cs xs hm hxl (fun i h1 h2 => ⟨(hxs i h1 (by omega) h2).2.2, (hxs i h1 (by omega) h2).2.1⟩) (by omega)
        rw [List.drop_zero] at hcv
        refine ⟨.agg (xs.flatMap AV.cells), .st ht (by simp [hyl]) (by simpa using hxl) (fun i h1 h2 h3 => by
          have := (hxs i (by simpa using h3) (by simpa using h1) h2).1
          simp only [Array.getElem_toList, List.getElem_map] at this ⊢
          exact this), by show (xs.flatMap AV.cells).length = _; rw [← hcv.1]; omega, hcv, ?_⟩
        rintro v (⟨zs, rfl, h1, h2⟩ | ⟨h1, h2⟩)
        · refine .agg (by rw [← hcv.1, ← h1]; simp) (fun i hi => ?_)
          have h3 : i < cs.length := by rw [hcv.1]; exact hi
          have := hcv.2 i h3 hi
          subst h1
          rw [Array.getD_eq_getD_getElem?, Array.getElem?_eq_getElem (by simpa using h3)]
          simpa using this
        · simp [aggT, ht] at h2
      · cases hp
theorem read_plain {H : Type} {enc : TypeId × Value → H} {P : Program} {W : World} {r : Reach} {base : Nat} {n : Nat} {t : TypeId} {v : Value} {d : DataW H} {ps : List MemPlace} (hp : plainB P n t = true) (hv : Value.okWide P W r base t v)
    (h : DataW.Trod enc P W 0 (fun _ => true) true t v d ps) : ∃ a, VRel (Rl.old W) W v a ∧ RdD P t d a := by
  obtain ⟨fuel, hf⟩ := h
  obtain ⟨a, h1, _, _, h2⟩ := read_cells fuel n t _ d ps hf hp
  refine ⟨a, h2 v ?_, h1⟩
  cases n with
  | zero => simp [plainB] at hp
  | succ n =>
    rw [plainB] at hp
    split at hp
    · rename_i ht
      obtain ⟨b, rfl⟩ := okWide_bool ht hv
      exact .inr ⟨rfl, by simp [aggT, ht]⟩
    · rename_i k ht
      obtain ⟨b, rfl⟩ := okWide_int ht hv
      exact .inr ⟨rfl, by simp [aggT, ht]⟩
    · rename_i ht
      obtain ⟨b, rfl⟩ := okWide_string ht hv
      exact .inr ⟨rfl, by simp [aggT, ht]⟩
    · rename_i e ht
      obtain ⟨a, len, cap, rfl⟩ := okWide_slice ht hv
      exact .inr ⟨rfl, by simp [aggT, ht]⟩
    · rename_i fs ht
      obtain ⟨cs, rfl, _⟩ := okWide_struct ht hv
      exact .inl ⟨cs, rfl, rfl, by simp [aggT, ht]⟩
    · cases hp
def RdDAll (P : Program) {H : Type} : List Field → List (DataW H) → List AV → Prop
  | [], [], [] => True
  | f :: fs, d :: ds, x :: xs => RdD P f.type d x ∧ RdDAll P fs ds xs
  | _, _, _ => False
theorem RdDAll.of {P : Program} {H : Type} : ∀ {fs : List Field} {ds : List (DataW H)} {xs : List AV}, ds.length = fs.length → xs.length = fs.length → (∀ i (h1 : i < ds.length) (h2 : i < xs.length) (h3 : i < fs.length), RdD P fs[i].type ds[i] xs[i]) → RdDAll P fs ds xs
  | [], ds, xs, h1, h2, _ => by
    obtain rfl : ds = [] := List.eq_nil_of_length_eq_zero h1
    obtain rfl : xs = [] := List.eq_nil_of_length_eq_zero h2
    trivial
  | f :: fs, ds, xs, h1, h2, h => by
    cases ds with
    | nil => simp at h1
    | cons d ds =>
      cases xs with
      | nil => simp at h2
      | cons x xs =>
        exact ⟨h 0 (by simp) (by simp) (by simp), RdDAll.of (by simpa using h1) (by simpa using h2) (fun i k1 k2 k3 => h (i + 1) (Nat.succ_lt_succ k1) (Nat.succ_lt_succ k2) (Nat.succ_lt_succ k3))⟩
theorem RdDAll.cons {P : Program} {H : Type} {f : Field} {fs : List Field} {ds : List (DataW H)} {xs : List AV} (h : RdDAll P (f :: fs) ds xs) : ∃ d ds' x xs', ds = d :: ds' ∧ xs = x :: xs' ∧ RdD P f.type d x ∧ RdDAll P fs ds' xs' := by
  match ds, xs, h with
  | d :: ds', x :: xs', ⟨h1, h2⟩ => exact ⟨d, ds', x, xs', rfl, rfl, h1, h2⟩
theorem RdDAll.nil {P : Program} {H : Type} {ds : List (DataW H)} {xs : List AV} (h : RdDAll P [] ds xs) : ds = [] ∧ xs = [] := by
  match ds, xs, h with
  | [], [], _ => exact ⟨rfl, rfl⟩
section
variable {P : Program} {H : Type} {t : TypeId} {d : DataW H} {a : AV}
theorem RdD.inv_st {fs : Array Field} (h : RdD P t d a) (ht : P.underlying t = some (.struct fs)) : ∃ ds xs, d = .agg ds ∧ a = .agg (xs.flatMap AV.cells) ∧ RdDAll P fs.toList ds xs := by
  cases h with
  | st ht' hd hx h =>
    rw [ht] at ht'
    cases ht'
    exact ⟨_, _, rfl, rfl, .of (by simpa using hd) (by simpa using hx) (fun i h1 h2 h3 => by simpa using h i h1 h2 (by simpa using h3))⟩
  | bool ht' => rw [ht] at ht'; cases ht'
  | str ht' => rw [ht] at ht'; cases ht'
  | int ht' => rw [ht] at ht'; cases ht'
  | nils ht' => rw [ht] at ht'; cases ht'
  | sl ht' => rw [ht] at ht'; cases ht'
theorem RdD.inv_str (h : RdD P t d a) (ht : P.underlying t = some .string) : ∃ s, d = .lit (.string s) ∧ a = .str s ∧ s.length ≤ maxLen := by
  cases h with
  | str ht' hs => exact ⟨_, rfl, rfl, hs⟩
  | bool ht' => rw [ht] at ht'; cases ht'
  | int ht' => rw [ht] at ht'; cases ht'
  | nils ht' => rw [ht] at ht'; cases ht'
  | sl ht' => rw [ht] at ht'; cases ht'
  | st ht' => rw [ht] at ht'; cases ht'
theorem RdD.inv_int {k : IntKind} (h : RdD P t d a) (ht : P.underlying t = some (.int k)) : ∃ n, d = .lit (.int k n) ∧ a = .int k n ∧ (Lit.int k n).wf = true := by
  cases h with
  | int ht' hs => rw [ht] at ht'; cases ht'; exact ⟨_, rfl, rfl, hs⟩
  | bool ht' => rw [ht] at ht'; cases ht'
  | str ht' => rw [ht] at ht'; cases ht'
  | nils ht' => rw [ht] at ht'; cases ht'
  | sl ht' => rw [ht] at ht'; cases ht'
  | st ht' => rw [ht] at ht'; cases ht'
theorem RdD.inv_bool (h : RdD P t d a) (ht : P.underlying t = some .bool) : ∃ b, d = .lit (.bool b) ∧ a = .bool b := by
  cases h with
  | bool ht' => exact ⟨_, rfl, rfl⟩
  | int ht' => rw [ht] at ht'; cases ht'
  | str ht' => rw [ht] at ht'; cases ht'
  | nils ht' => rw [ht] at ht'; cases ht'
  | sl ht' => rw [ht] at ht'; cases ht'
  | st ht' => rw [ht] at ht'; cases ht'
theorem RdD.inv_sl {e : TypeId} (h : RdD P t d a) (ht : P.underlying t = some (.slice e)) :
    ∃ (ds : List (DataW H)) (xs : List AV), a = .sl true false (P.cellsOf e) xs ∧ xs.length = ds.length ∧ xs.length ≤ maxLen ∧ (∀ i (h1 : i < ds.length) (h2 : i < xs.length), RdD P e ds[i] xs[i]) ∧ ((d = .nil ∧ ds = []) ∨ ∃ rest, d = .slice ds rest) := by
  cases h with
  | nils ht' => rw [ht] at ht'; cases ht'; exact ⟨[], [], rfl, rfl, Nat.zero_le _, fun i h => absurd h (by simp), .inl ⟨rfl, rfl⟩⟩
  | sl ht' hl hm h => rw [ht] at ht'; cases ht'; exact ⟨_, _, rfl, hl, hm, h, .inr ⟨_, rfl⟩⟩
  | bool ht' => rw [ht] at ht'; cases ht'
  | int ht' => rw [ht] at ht'; cases ht'
  | str ht' => rw [ht] at ht'; cases ht'
  | st ht' => rw [ht] at ht'; cases ht'
theorem RdD.each {α : Type} {e : TypeId} (f : α → AV) (g : α → DataW H → Prop) {ds : List (DataW H)} {xs : List AV} (hl : xs.length = ds.length) (h : ∀ i (h1 : i < ds.length) (h2 : i < xs.length), RdD P e ds[i] xs[i])
    (hf : ∀ d x, RdD P e d x → ∃ y, x = f y ∧ g y d) : ∃ ys : List α, xs = ys.map f ∧ ys.length = ds.length ∧ ∀ i (h1 : i < ds.length) (h2 : i < ys.length), g ys[i] ds[i] := by
  induction xs generalizing ds with
  | nil =>
    obtain rfl : ds = [] := List.eq_nil_of_length_eq_zero (by simpa using hl.symm)
    exact ⟨[], rfl, rfl, fun i h => absurd h (by simp)⟩
  | cons x xs ih =>
    cases ds with
    | nil => simp at hl
    | cons d ds =>
      obtain ⟨y, hy, hg⟩ := hf d x (h 0 (by simp) (by simp))
      obtain ⟨ys, h1, h2, h3⟩ := ih (ds := ds) (by simpa using hl) (fun i k1 k2 => h (i + 1) (Nat.succ_lt_succ k1) (Nat.succ_lt_succ k2))
      refine ⟨y :: ys, by rw [hy, h1]; rfl, by simp [h2], fun i k1 k2 => ?_⟩
      cases i with
      | zero => exact hg
      | succ i => exact h3 i (Nat.lt_of_succ_lt_succ k1) (Nat.lt_of_succ_lt_succ k2)
end
end Go.Ab
end
section
set_option linter.unusedVariables false
set_option linter.unusedSimpArgs false
namespace Go.Ab
open Go Go.WideShapes
mutual
def avB : AV → Nat
  | .str s => s.length
  | .sl _ _ _ xs => avS xs
  | .agg cs => avC cs
  | _ => 0
def avS : List AV → Nat
  | [] => 0
  | x :: r => avB x + 1 + avS r
def avC : List AV → Nat
  | [] => 0
  | x :: r => avB x + avC r
end
theorem avC_append (a b : List AV) : avC (a ++ b) = avC a + avC b := by
  induction a with
  | nil => simp [avC]
  | cons x a ih => simp only [List.cons_append, avC, ih]; omega
theorem avC_cells (x : AV) : avC x.cells ≤ avB x := by
  cases x <;> simp [AV.cells, avC, avB]
theorem avC_flat (xs : List AV) : avC (xs.flatMap AV.cells) ≤ avC xs := by
  induction xs with
  | nil => simp
  | cons x xs ih =>
    have := avC_cells x
    simp only [List.flatMap_cons, avC_append, avC]; omega
theorem avC_le_avS (xs : List AV) : avC xs ≤ avS xs := by
  induction xs with
  | nil => simp [avC, avS]
  | cons x xs ih => simp only [avC, avS]; omega
theorem avS_mem {x : AV} : ∀ {xs : List AV}, x ∈ xs → avB x + 1 ≤ avS xs
  | y :: ys, h => by
    rcases List.mem_cons.1 h with rfl | h
    · simp only [avS]; omega
    · have := avS_mem h; simp only [avS]; omega
theorem bulk_all {P : Program} {H : Type} {B : DataW H → Nat} {BA : List (DataW H) → Nat} (hn : BA [] = 0) (hc : ∀ d r, BA (d :: r) = B d + BA r) : ∀ {ds : List (DataW H)} {xs : List AV}, xs.length = ds.length →
    (∀ i (h1 : i < ds.length) (h2 : i < xs.length), avB xs[i] + 1 ≤ B ds[i]) → avS xs ≤ BA ds
  | [], xs, hl, h => by
    obtain rfl : xs = [] := List.eq_nil_of_length_eq_zero (by simpa using hl)
    simp [avS]
  | d :: ds, xs, hl, h => by
    cases xs with
    | nil => simp at hl
    | cons x xs =>
      have h0 := h 0 (by simp) (by simp)
      have := bulk_all (P := P) (B := B) hn hc (ds := ds) (xs := xs) (by simpa using hl) (fun i h1 h2 => h (i + 1) (Nat.succ_lt_succ h1) (Nat.succ_lt_succ h2))
      simp only [avS, hc]
      simp only [List.getElem_cons_zero] at h0
      omega
theorem RdD.bulk {P : Program} {H : Type} {B : DataW H → Nat} {BA : List (DataW H) → Nat} (hn : BA [] = 0) (hc : ∀ d r, BA (d :: r) = B d + BA r) (h1 : ∀ d, 1 ≤ B d) (hs : ∀ s, B (.lit (.string s)) = s.length + 1)
    (hsl : ∀ a b, B (.slice a b) = BA a + BA b + 1) (hag : ∀ a, B (.agg a) = BA a + 1) {t : TypeId} {d : DataW H} {a : AV} (h : RdD P t d a) : avB a + 1 ≤ B d := by
  induction h with
  | bool => simpa [avB] using h1 _
  | int => simpa [avB] using h1 _
  | str => simp [avB, hs]
  | nils => simpa [avB, avS] using h1 _
  | sl ht hl hm h ih =>
    have := bulk_all (P := P) (B := B) hn hc hl ih
    rw [hsl]; simp only [avB]; omega
  | st ht hd hx h ih =>
    have := bulk_all (P := P) (B := B) hn hc (by omega) (fun i a b => ih i a b (by omega))
    rw [hag]; simp only [avB]
    rename_i t fs ds xs
    have k1 := avC_flat xs
    have k2 := avC_le_avS xs
    omega
end Go.Ab
end
section
set_option linter.unusedVariables false
set_option linter.unusedSimpArgs false
set_option maxRecDepth 20000
set_option maxHeartbeats 8000000
namespace Go.Proofs.Ytopdpbcfgjijaaa
open Go Go.Ab
theorem cmpLea : cmpOk cx.P 52 = true := by kernel_rfl
theorem callsA_bulk2 (l : List CL) : ∀ j ∈ l, j.job.length ≤ avS (callsA l) := fun j hj => by
  have h1 := avS_mem (show callA j ∈ callsA l from List.mem_map_of_mem hj)
  have h2 : avB (callA j) = 0 + (0 + (0 + (j.job.length + (0 + 0)))) := rfl
  omega
theorem all_len5 {t : TM} (ht : TOk t) : ∀ {es : List JE}, (∀ e ∈ es, EOk t e) → (allL es).length ≤ es.length * 5
  | [], _ => Nat.le_refl _
  | e :: es, h => by
    have ih := all_len5 ht (es := es) fun x hx => h x (List.mem_cons_of_mem _ hx)
    have h1 := (h e (List.mem_cons_self ..)).tw
    have h2 := ht.w2
    have e1 : allL (e :: es) = leJ e ++ allL es := rfl
    have e2 : (leJ e).length = e.till.length := by unfold leJ; rw [List.length_map]
    rw [e1, List.length_append, e2, List.length_cons, Nat.add_mul]
    omega
theorem own_grant2 {q mid : Nat} {t : TM} {now n w : Int} {s : Nm} {es : List JE} : OwnL q mid (esS (grantS t now n w s es)) = OwnL q mid es := by
  have hT : OwnL q mid (es.map (tickE t.tries n)) = OwnL q mid es := own_map _ fun e => ⟨(tickE_jid _ _ e).1, (tickE_jid _ _ e).2.1⟩
  unfold grantS
  by_cases he : errT n now [w] = 0
  · rw [if_pos he, ← hT]
    generalize es.map (tickE t.tries n) = T
    cases ha : atL T s with
    | none => rfl
    | some i =>
      obtain ⟨hi, _⟩ := atL_some ha
      simp only [List.getElem?_eq_getElem hi]
      split
      · exact own_set hi rfl rfl
      · rfl
  · rw [if_neg he]; rfl
theorem own_act2 {q mid : Nat} {f : JE → JE} (hf : ∀ e, (f e).jid = e.jid ∧ (f e).tid = e.tid) {t : TM} {now n w : Int} {s : Nm} {es : List JE} : OwnL q mid (esS (actS f t now n w s es)) = OwnL q mid es := by
  have hT : OwnL q mid (es.map (tickE t.tries n)) = OwnL q mid es := own_map _ fun e => ⟨(tickE_jid _ _ e).1, (tickE_jid _ _ e).2.1⟩
  unfold actS
  by_cases he : errT n now [w] = 0
  · rw [if_pos he, ← hT]
    generalize es.map (tickE t.tries n) = T
    cases ha : fndL T s w with
    | none => rfl
    | some i =>
      obtain ⟨hi, _⟩ := fndL_some ha
      simp only [List.getElem?_eq_getElem hi]
      exact own_set hi (hf _).1 (hf _).2
  · rw [if_neg he]; rfl
theorem dnE_ids2 (t : TM) (w : Int) (good : Bool) (e : JE) : (dnE t w good e).jid = e.jid ∧ (dnE t w good e).tid = e.tid := by
  cases good with
  | true => exact ⟨rfl, rfl⟩
  | false => obtain ⟨f1, f2, _⟩ := freeE_jid t.tries (dlE w e); exact ⟨f1, f2⟩
structure BB (t : TM) (σ : Heap) (es : List JE) (now : Int) (L : PL) (s : PB) : Prop where
  la : LAt σ 3 2 none t now es
  pa : PAt σ L t s
  lr : L.r = 4
  sim : SimP s now es
  b : BOk t es
  n0 : 0 ≤ now
  n1 : now ≤ 1000000000
  dj : ∀ id, OwnL 3 2 es id → ¬ OwnP L id
theorem BB.toL {t : TM} {σ σ' : Heap} {es es' : List JE} {now now' : Int} {L : PL} {s : PB} (h : BB t σ es now L s) (hq : LAt σ' 3 2 none t now' es') (hk : QKeep σ σ' (OwnL 3 2 es) (OwnL 3 2 es')) :
    PAt σ' L t s ∧ ∀ id, OwnL 3 2 es' id → ¬ OwnP L id := by
  refine ⟨h.pa.mono hq.al fun id ho => hk.same id (h.pa.lt id ho) fun h' => h.dj id h' ho, fun id ho hr => ?_⟩
  rcases hk.new id ho with h' | h'
  · exact h.dj id h' hr
  · have := h.pa.lt id hr; omega
theorem toP {t : TM} {σ σ' : Heap} {es : List JE} {now : Int} {L L' : PL} {s' : PB} (hq : LAt σ 3 2 none t now es) (hd : ∀ id, OwnL 3 2 es id → ¬ OwnP L id) (hr : PAt σ' L' t s') (hk : QKeep σ σ' (OwnP L) (OwnP L')) :
    LAt σ' 3 2 none t now es ∧ ∀ id, OwnL 3 2 es id → ¬ OwnP L' id := by
  refine ⟨hq.mono hr.al fun id ho => hk.same id (hq.lt id ho) (hd id ho), fun id ho hr' => ?_⟩
  rcases hk.new id hr' with h' | h'
  · exact hd id ho h'
  · have := hq.lt id ho; omega
theorem BB.app {t : TM} {σ : Heap} {es : List JE} {now : Int} {L : PL} {s : PB} (h : BB t σ es now L s) (v : Nat) (x : Box) : BB t (σ ++ [(v, some x)]) es now L s :=
  ⟨h.la.app v x, h.pa.app v x, h.lr, h.sim, h.b, h.n0, h.n1, h.dj⟩
theorem BB.other {t : TM} {σ : Heap} {es : List JE} {now : Int} {L : PL} {s : PB} (h : BB t σ es now L s) {p : Nat} (hp : σ.length ≤ p) : ¬ OwnL 3 2 es p ∧ ¬ OwnP L p :=
  ⟨fun ho => by have := h.la.lt _ ho; omega, fun ho => by have := h.pa.lt _ ho; omega⟩
theorem BB.len {t : TM} {σ : Heap} {es : List JE} {now : Int} {L : PL} {s : PB} (h : BB t σ es now L s) (ht : TOk t) : s.all.length ≤ 1000 ∧ s.names.length ≤ 200 ∧ s.sts.length ≤ 200 ∧ s.trs.length ≤ 200 ∧ ∀ x ∈ s.trs, 0 ≤ x ∧ x ≤ 10 := by
  have h1 := all_len5 ht h.b.eo
  have h2 := h.b.el
  have h3 := h.sim.al.length_eq
  refine ⟨by omega, ?_, ?_, ?_, fun x hx => ?_⟩
  · rw [h.sim.nm, List.length_map]; exact h2
  · rw [h.sim.st, List.length_map]; exact h2
  · rw [h.sim.tr, List.length_map]; exact h2
  · rw [h.sim.tr] at hx
    obtain ⟨e, he, rfl⟩ := List.mem_map.1 hx
    have := h.b.eo e he
    have := ht.r2
    exact ⟨(h.b.eo e he).t0, by have := (h.b.eo e he).t1; omega⟩
def addL (es : List JE) (s : Nm) (m : Nat) : List JE := if addE es s = 0 then es ++ [newJ s m] else es
theorem AddA_ok (σ : Heap) (q mid : Nat) (t : TM) (now : Int) (es : List JE) (name : Nm) (h : LAt σ q mid none t now es) (hs : name.length ≤ 9223372036854775807) (hel : es.length ≤ 1000) :
    CallOk cx 10 [.ptr q 0 0, .str name] σ (fun o s => o = .ret (.int .i64 (addE es name)) ∧ LAt s q mid none t now (addL es name σ.length) ∧ QKeep σ s (OwnL q mid es) (OwnL q mid (addL es name σ.length))) := by
  unfold addL
  by_cases he : addE es name = 0
  · have hA := Add_ok σ q mid t now es name h hs hel he
    rw [if_pos he, he]
    exact hA
  · have hA := Add_bad σ q mid t now es name h hs hel he
    rw [if_neg he]
    refine ⟨hA.1, fun r w vs hi hv => (hA.2 r w vs hi hv).mono fun e w' ⟨out, σ', r', hR, ho⟩ => ⟨out, σ', r', ?_, ho⟩⟩
    obtain ⟨h1, rfl⟩ := hR
    exact ⟨h1, h, QKeep.refl⟩
theorem BOk.aAddL {t : TM} (ht : TOk t) {es : List JE} (h : BOk t es) (name : Nm) (m : Nat) : BOk t (addL es name m) := by
  unfold addL
  by_cases he : addE es name = 0
  case neg => rw [if_neg he]; exact h
  rw [if_pos he]
  unfold addE at he
  by_cases g1 : isName name = false
  · rw [if_pos g1] at he; cases he
  rw [if_neg g1] at he
  by_cases g2 : (atL es name).isSome = true
  · rw [if_pos g2] at he; cases he
  rw [if_neg g2] at he
  by_cases g3 : es.length = 200
  · rw [if_pos g3] at he; cases he
  have hnm : name ∉ es.map JE.name := fun hm => by
    obtain ⟨x, hx, e⟩ := List.mem_map.1 hm
    cases ha : atL es name with
    | some i => rw [ha] at g2; exact g2 rfl
    | none =>
      have := List.findIdx?_eq_none_iff.1 ha x hx
      simp [e] at this
  refine ⟨?_, by rw [List.length_append, List.length_singleton]; have := h.el; omega, fun e he => ?_⟩
  · rw [List.map_append]
    refine List.nodup_append.2 ⟨h.nn, by simp, fun x hx y hy => ?_⟩
    have : y = name := by simpa [newJ] using hy
    subst this
    exact fun e => hnm (e ▸ hx)
  · rcases List.mem_append.1 he with he | he
    · exact h.eo e he
    · rw [List.mem_singleton.1 he]
      refine ⟨⟨?_, Int.le_refl _, ?_, fun h => absurd rfl h, .nil⟩, fun h => ?_⟩
      · have := ht.w1
        show ((0 : Nat) : Int) ≤ _
        omega
      · have := ht.r1
        show (0 : Int) ≤ _
        omega
      · have h : (1 : Int) = 2 := h
        cases h
theorem SimP.aAddL {s : PB} {now : Int} {es : List JE} (h : SimP s now es) (name : Nm) (m : Nat) : SimP (pAdd s name) now (addL es name m) := by
  unfold addL
  by_cases he : addE es name = 0
  · rw [if_pos he]; exact h.aAdd name m he
  · rw [if_neg he, h.aNo name he]; exact h
theorem errT_cases (n now : Int) (ws : List Int) : errT n now ws = 0 ∨ errT n now ws = 3 ∨ errT n now ws = 4 := by
  unfold errT
  split
  · exact .inr (.inl rfl)
  · split
    · exact .inr (.inl rfl)
    · split
      · exact .inr (.inr rfl)
      · exact .inl rfl
theorem errT_one (n now : Int) : errT n now [1] = errT n now [] := by
  unfold errT
  have : [(1 : Int)].any wrkB = ([] : List Int).any wrkB := by decide
  rw [this]
theorem grant_bok {t : TM} (ht : TOk t) {now n w : Int} {s : Nm} {es : List JE} (hb : BOk t es) (h0 : 0 ≤ now) (h1 : now ≤ 1000000000) : BOk t (esS (grantS t now n w s es)) ∧ 0 ≤ nowS (grantS t now n w s es) ∧ nowS (grantS t now n w s es) ≤ 1000000000 := by
  by_cases he : errT n now [w] = 0
  · obtain ⟨q1, q2, q3⟩ := errT_n he
    have ha := grant_aft (w := w) (s := s) (dn := []) ht hb (fun s hs => by cases hs) q1 q2 q3
    refine ⟨ha.b, ?_, by have := ha.nw; omega⟩
    unfold grantS
    rw [if_pos he]
    split
    · exact q1
    · split
      · exact q1
      · split <;> exact q1
  · unfold grantS
    rw [if_neg he]
    exact ⟨hb, h0, h1⟩
theorem act_bok {t : TM} {f : JE → JE} {now n w : Int} {s : Nm} {es : List JE} (hb : BOk t es) (h0 : 0 ≤ now) (h1 : now ≤ 1000000000)
    (hf : ∀ e j, EOk t e → (∀ p ∈ e.till, ¬ p.2 < n) → hasW e.till w = some j → EOk t (f e) ∧ (f e).name = e.name ∧ ∀ p ∈ (f e).till, ¬ p.2 < n) : BOk t (esS (actS f t now n w s es)) ∧ 0 ≤ nowS (actS f t now n w s es) ∧ nowS (actS f t now n w s es) ≤ 1000000000 := by
  by_cases he : errT n now [w] = 0
  · obtain ⟨q1, q2, q3⟩ := errT_n he
    have ha := act_aft (f := f) (w := w) (s := s) (dn := []) hb (fun s hs => by cases hs) q1 q2 q3 hf
    refine ⟨ha.b, ?_, by have := ha.nw; omega⟩
    unfold actS
    rw [if_pos he]
    split
    · exact q1
    · split <;> exact q1
  · unfold actS
    rw [if_neg he]
    exact ⟨hb, h0, h1⟩
def pbZ (t : TM) : Nat × Option Box := (0, some (.cells [.int .i64 t.last, .int .i64 t.tries, .int .i64 t.twins, .int .i64 0, .nils, .nils, .nils, .nils] ⟨false, some 36⟩))
def ebZ : Nat × Option Box := (0, some (.cells [] ⟨false, none⟩))
def newP (t : TM) : Heap := newL [termB t] t ++ [(0, some (pbB t ⟨4, 5, 6, 7, 8, 0, 0, 0, 0⟩ ⟨0, [], [], [], []⟩)), ebZ, ebZ, ebZ, ebZ]
theorem newP_bb (t : TM) : BB t (newP t) [] 0 ⟨4, 5, 6, 7, 8, 0, 0, 0, 0⟩ ⟨0, [], [], [], []⟩ := by
  have hal1 : Alive [termB t] := fun e he => by rw [List.mem_singleton.1 he]; exact ⟨_, rfl⟩
  have h0 : LAt (newL [termB t] t) 3 2 none t 0 [] := newL_at [termB t] t hal1
  have e : newP t = ((((newL [termB t] t ++ [(0, some (pbB t ⟨4, 5, 6, 7, 8, 0, 0, 0, 0⟩ ⟨0, [], [], [], []⟩))]) ++ [ebZ]) ++ [ebZ]) ++ [ebZ]) ++ [ebZ] := by unfold newP; simp
  have h1 : LAt (newP t) 3 2 none t 0 [] := by rw [e]; exact ((((h0.app _ _).app _ _).app _ _).app _ _).app _ _
  refine ⟨h1, ⟨h1.al, rfl, rfl, rfl, rfl, rfl, by decide⟩, rfl, ⟨rfl, rfl, rfl, rfl, .nil, fun e he => by cases he⟩, ⟨.nil, Nat.zero_le _, fun e he => by cases he⟩, Int.le_refl _, (show (0 : Int) ≤ 1000000000 by decide), fun id ho hr => ?_⟩
  unfold OwnL idsL idsJ at ho
  simp at ho
  rcases ownP.1 hr with h | h | h | h | h
  all_goals
    simp only at h
    omega
theorem LeasePlays_ok (t : TM) (l : List CL) (hb : avB (.sl true false 5 (callsA l)) ≤ 1048576) (hwf : ∀ c ∈ l, c.wf) :
    Calc cx 3 [termA t, .sl true false 5 (callsA l)] (.bool true) :=
  pure_intro (fun a w => Try.call3 a w) Try.func3 rfl Try.ntmps3 rfl .bool fun B => by
    have hBg := leaseBegun_ok
    have hal0 : Alive ([] : Heap) := fun e he => by cases he
    have hal1 : Alive [termB t] := fun e he => by rw [List.mem_singleton.1 he]; exact ⟨_, rfl⟩
    have hjl : ∀ c ∈ l, c.job.length ≤ 1048576 := fun c hc => Nat.le_trans (callsA_bulk2 l c hc) hb
    have hll := callsA_len l
    have hRT := RightTerms_ok t
    refine pao [.f (.ptr 0 0 0) (fun s => s ++ [termB t]), .v (.bool true), .b false, .v (termA t), .s] rfl ?_ ?_
    · (repeat' with_reducible apply AllP_cons) <;> try exact aC
      · exact OpSpec.boxE (y := termA t) rfl rfl rfl rfl hal0
      · exact ⟨[], hBg, .nil _⟩
      · exact OpSpec.loadPA (id := 0) (cs := (termA t).cells) rfl rfl rfl rfl rfl (lble rfl) rfl
    refine S_heap [termB t] rfl ?_
    have hfT : ∀ s : Heap, Frzs s [termA t] [termA t] := fun s => .cons (.refl (.agg (by intro y hy; simp at hy; rcases hy with rfl | rfl | rfl <;> exact .int))) (.nil _)
    cases htk : termOk t with
    | false =>
      rw [htk] at hRT
      have hN := New_bad [termB t] t hal1 htk
      refine pao [.f (.tup [.nilp, .int .i64 3]) (fun s => s ++ [termB t]), .v (termA t), .v (.bool false), .b true, .b true] rfl ?_ ?_
      · (repeat' with_reducible apply AllP_cons) <;> try exact aC
        · exact OpSpec.loadPA (id := 0) (cs := (termA t).cells) rfl rfl rfl rfl rfl (lble rfl) rfl
        · exact ⟨_, hRT, hfT _⟩
      exact S_ret ⟨_, _, rfl, trivial, _, rfl, .refl .bool⟩
    | true =>
      have ht := TOk.of htk
      rw [htk] at hRT
      have hN := New_ok [termB t] t hal1 htk
      have h0L : LAt (newL [termB t] t) 3 2 none t 0 [] := newL_at [termB t] t hal1
      refine pao [.f (.tup [.ptr 3 0 0, .int .i64 0]) (fun s => s ++ [termB t, (0, some (.map [] none)), (0, some (bookB t 0 2))]), .v (termA t), .v (.bool true), .b false, .b false, .b false, .v (termA t), .s] rfl ?_ ?_
      · (repeat' with_reducible apply AllP_cons) <;> try exact aC
        · exact OpSpec.loadPA (id := 0) (cs := (termA t).cells) rfl rfl rfl rfl rfl (lble rfl) rfl
        · exact ⟨_, hRT, hfT _⟩
        · exact OpSpec.loadPA (id := 0) (cs := (termA t).cells) rfl rfl rfl rfl rfl (lble rfl) rfl
      refine S_heap (newL [termB t] t) rfl ?_
      have hbz : ∀ (a b c d : AV), ((0, some (.cells [.int .i64 t.last, .int .i64 t.tries, .int .i64 t.twins, .int .i64 0, a, b, c, d] ⟨false, some 36⟩)) : Nat × Option Box) = (0, some (.cells [.int .i64 t.last, .int .i64 t.tries, .int .i64 t.twins, .int .i64 0, a, b, c, d] ⟨false, some 36⟩)) := fun _ _ _ _ => rfl
      refine pao [.f (.ptr 4 0 0) (fun s => s ++ [pbZ t])] rfl ?_ ?_
      · (repeat' with_reducible apply AllP_cons) <;> try exact aC
        · exact OpSpec.boxE (y := .agg [.int .i64 t.last, .int .i64 t.tries, .int .i64 t.twins, .int .i64 0, .nils, .nils, .nils, .nils]) rfl rfl rfl rfl h0L.al
      refine S_ghost (id := 4) (gid := 5) (gver := 0) (j := 4) (σ' := newL [termB t] t ++ [(0, some (.cells [.int .i64 t.last, .int .i64 t.tries, .int .i64 t.twins, .int .i64 0, .nils, .nils, .nils, .nils] ⟨false, some 36⟩)), ebZ]) 1 ⟨false, none⟩ rfl rfl rfl (by decide) ⟨_, _, .inl rfl⟩ ?_
      refine S_ghost (id := 4) (gid := 6) (gver := 0) (j := 5) (σ' := newL [termB t] t ++ [(0, some (.cells [.int .i64 t.last, .int .i64 t.tries, .int .i64 t.twins, .int .i64 0, .ms 5 0 0 0 1 false, .nils, .nils, .nils] ⟨false, some 36⟩)), ebZ, ebZ]) 1 ⟨false, none⟩ rfl rfl rfl (by decide) ⟨_, _, .inl rfl⟩ ?_
      refine S_ghost (id := 4) (gid := 7) (gver := 0) (j := 6) (σ' := newL [termB t] t ++ [(0, some (.cells [.int .i64 t.last, .int .i64 t.tries, .int .i64 t.twins, .int .i64 0, .ms 5 0 0 0 1 false, .ms 6 0 0 0 1 false, .nils, .nils] ⟨false, some 36⟩)), ebZ, ebZ, ebZ]) 1 ⟨false, none⟩ rfl rfl rfl (by decide) ⟨_, _, .inl rfl⟩ ?_
      refine S_ghost (id := 4) (gid := 8) (gver := 0) (j := 7) (σ' := newL [termB t] t ++ [(0, some (.cells [.int .i64 t.last, .int .i64 t.tries, .int .i64 t.twins, .int .i64 0, .ms 5 0 0 0 1 false, .ms 6 0 0 0 1 false, .ms 7 0 0 0 1 false, .nils] ⟨false, some 36⟩)), ebZ, ebZ, ebZ, ebZ]) 3 ⟨false, none⟩ rfl rfl rfl (by decide) ⟨_, _, .inl rfl⟩ ?_
      refine S_heap (newP t) rfl ?_
      refine S_while (α := (Heap × List JE × Int × PL × PB) × Nat) (fun s => [(1, .sl true false 5 (callsA l)), (2, .ptr 0 0 0), (5, .ptr 3 0 0), (7, .ptr 4 0 0), (8, .int .i64 (s.2 : Nat))]) (fun s => s.1.1)
        (fun s => BB t s.1.1 s.1.2.1 s.1.2.2.1 s.1.2.2.2.1 s.1.2.2.2.2 ∧ s.2 ≤ l.length) (fun s => l.length - s.2) ((newP t, [], 0, ⟨4, 5, 6, 7, 8, 0, 0, 0, 0⟩, ⟨0, [], [], [], []⟩), 0)
        ⟨newP_bb t, Nat.zero_le _⟩ (.cons rfl (.cons rfl (.cons rfl (.cons rfl (.cons rfl (.nil _)))))) rfl ?_
      rintro ⟨⟨σ, es, now, L, s⟩, i⟩ ⟨h, hi1⟩
      simp only at h hi1
      by_cases hlt1 : i < l.length
      case neg =>
        have d1 : decide ((i : Int) < (((callsA l).length : Nat) : Int)) = false := decide_eq_false (by omega)
        refine pao [.b false, .b false] rfl ?_ ?_
        · (repeat' with_reducible apply AllP_cons) <;> try exact aC
        exact S_ret ⟨_, _, rfl, trivial, _, rfl, .refl .bool⟩
      have d1 : decide ((i : Int) < (((callsA l).length : Nat) : Int)) = true := decide_eq_true (by omega)
      by_cases hlt2 : i < 250
      case neg =>
        have d2 : decide ((i : Int) < 250) = false := decide_eq_false (by omega)
        refine pao [.b true, .b false] rfl ?_ ?_
        · (repeat' with_reducible apply AllP_cons) <;> try exact aC
        exact S_ret ⟨_, _, rfl, trivial, _, rfl, .refl .bool⟩
      have d2 : decide ((i : Int) < 250) = true := decide_eq_true (by omega)
      have hi1' : AV.int .i64 (IntKind.i64.wrap ((i : Int) + 1)) = .int .i64 ((i + 1 : Nat) : Int) := ai64 rfl (by omega)
      obtain ⟨c, hc⟩ : ∃ c, c = l[i] := ⟨_, rfl⟩
      have hcm : c ∈ l := by rw [hc]; exact List.getElem_mem hlt1
      have hcx : (callsA l)[(i : Int).toNat]? = some (callA c) := by rw [Int.toNat_natCast, hc]; simp [callsA, hlt1]
      obtain ⟨hk1, hk2, hk3⟩ := hwf c hcm
      have hcj := hjl c hcm
      obtain ⟨z, hz⟩ : ∃ z : Nat × Option Box, z = (0, some (.cells [.int .i64 0, .int .i64 0, .int .i64 0, .str [], .bool false] ⟨false, some 38⟩)) := ⟨_, rfl⟩
      have h2 : BB t (σ ++ [callB c]) es now L s := h.app _ _
      have hcb : (σ ++ [callB c])[σ.length]? = some (callB c) := app_last
      obtain ⟨o1, o2⟩ := h.other (Nat.le_refl σ.length)
      have hrb : (σ ++ [callB c])[4]? = some (0, some (pbB t L s)) := by rw [← h.lr]; exact h2.pa.rb
      have hnow : s.now = now := h.sim.nw
      have hC2 := choose_ok c.kind 5 hk1 (by decide) (by decide)
      have hC2l := chooseN_lt c.kind (n := 5) (by decide)
      generalize chooseN c.kind 5 = kd at *
      refine' S_shareO (ι := Int) (fun n => [(1, .sl true false 5 (callsA l)), (2, .ptr 0 0 0), (5, .ptr 3 0 0), (7, .ptr 4 0 0), (8, .int .i64 (i : Nat)), (9, .ptr σ.length 0 0), (10, .int .i64 n), (77, .ptr σ.length 0 0)]) (fun _ => σ ++ [callB c]) (fun n => -9223372036854775808 ≤ n ∧ n ≤ 9223372036854775807) ?main0 ?rest0
      case main0 =>
        intro hsh
        by_cases u1 : c.n ≤ 2000000000
        · have e1 : decide (c.n ≤ 2000000000) = true := decide_eq_true u1
          by_cases u2 : c.n ≥ -2000000000
          · have e2 : decide (c.n ≥ -2000000000) = true := decide_eq_true u2
            have hwn : IntKind.i64.wrap (s.now + c.n) = s.now + c.n := IntWalk.i64_in _ ⟨by have := h.n0; omega, by have := h.n1; omega⟩
            have hN10 : AV.int .i64 (IntKind.i64.wrap (s.now + c.n)) = .int .i64 (s.now + c.n) := by rw [hwn]
            refine pao [.b true, .b true, .v (callA c), .v (callA c), .f (.ptr σ.length 0 0) (fun s => s ++ [z]), .f (.tup []) (fun _ => σ ++ [callB c]), .v (.int .i64 c.n), .v (.int .i64 c.n), .b true, .v (.int .i64 c.n), .b true] rfl ?_ ?_
            · (repeat' with_reducible apply AllP_cons) <;> try exact aC
              · exact OpSpec.loadRA rfl rfl rfl rfl (lble rfl) rfl
              · rw [hz]; exact OpSpec.allocE rfl rfl rfl rfl h.la.al
              · exact OpSpec.storeP (id := σ.length) (gT := some 38) (cs := [.int .i64 0, .int .i64 0, .int .i64 0, .str [], .bool false]) (y := callA c) rfl rfl rfl rfl rfl rfl (by rw [app_last, hz]) (lble rfl) (by rw [List.set_append_right _ _ (Nat.le_refl _), Nat.sub_self]; rfl)
              all_goals exact OpSpec.loadP rfl rfl rfl rfl hcb rfl
            refine S_drawO 7 [.int .i64 s.now, .int .i64 c.n] rfl rfl rfl rfl ?_ ?_
            · (repeat' with_reducible apply AllP_cons) <;> try exact aC
              · exact OpSpec.loadP rfl rfl rfl rfl hrb rfl
              · exact OpSpec.loadP rfl rfl rfl rfl hcb rfl
            refine pao [] rfl ?_ ?_
            · (repeat' with_reducible apply AllP_cons) <;> try exact aC
            exact hsh (s.now + c.n) _ ⟨by have := h.n0; omega, by have := h.n1; omega⟩ (.cons rfl (.cons rfl (.cons rfl (.cons rfl (.cons rfl (.cons rfl (.cons hN10 (.cons rfl (.nil _)))))))))
          · have e2 : decide (c.n ≥ -2000000000) = false := decide_eq_false u2
            refine pao [.b true, .b true, .v (callA c), .v (callA c), .f (.ptr σ.length 0 0) (fun s => s ++ [z]), .f (.tup []) (fun _ => σ ++ [callB c]), .v (.int .i64 c.n), .v (.int .i64 c.n), .b true, .v (.int .i64 c.n), .b false] rfl ?_ ?_
            · (repeat' with_reducible apply AllP_cons) <;> try exact aC
              · exact OpSpec.loadRA rfl rfl rfl rfl (lble rfl) rfl
              · rw [hz]; exact OpSpec.allocE rfl rfl rfl rfl h.la.al
              · exact OpSpec.storeP (id := σ.length) (gT := some 38) (cs := [.int .i64 0, .int .i64 0, .int .i64 0, .str [], .bool false]) (y := callA c) rfl rfl rfl rfl rfl rfl (by rw [app_last, hz]) (lble rfl) (by rw [List.set_append_right _ _ (Nat.le_refl _), Nat.sub_self]; rfl)
              all_goals exact OpSpec.loadP rfl rfl rfl rfl hcb rfl
            exact hsh c.n _ hk3 (.cons rfl (.cons rfl (.cons rfl (.cons rfl (.cons rfl (.cons rfl (.cons rfl (.cons rfl (.nil _)))))))))
        · have e1 : decide (c.n ≤ 2000000000) = false := decide_eq_false u1
          refine pao [.b true, .b true, .v (callA c), .v (callA c), .f (.ptr σ.length 0 0) (fun s => s ++ [z]), .f (.tup []) (fun _ => σ ++ [callB c]), .v (.int .i64 c.n), .v (.int .i64 c.n), .b false, .b false] rfl ?_ ?_
          · (repeat' with_reducible apply AllP_cons) <;> try exact aC
            · exact OpSpec.loadRA rfl rfl rfl rfl (lble rfl) rfl
            · rw [hz]; exact OpSpec.allocE rfl rfl rfl rfl h.la.al
            · exact OpSpec.storeP (id := σ.length) (gT := some 38) (cs := [.int .i64 0, .int .i64 0, .int .i64 0, .str [], .bool false]) (y := callA c) rfl rfl rfl rfl rfl rfl (by rw [app_last, hz]) (lble rfl) (by rw [List.set_append_right _ _ (Nat.le_refl _), Nat.sub_self]; rfl)
            all_goals exact OpSpec.loadP rfl rfl rfl rfl hcb rfl
          exact hsh c.n _ hk3 (.cons rfl (.cons rfl (.cons rfl (.cons rfl (.cons rfl (.cons rfl (.cons rfl (.cons rfl (.nil _)))))))))
      case rest0 =>
        intro n hnw
        refine' S_shareO (ι := Heap × List JE × Int × PL × PB) (fun _ => [(1, .sl true false 5 (callsA l)), (2, .ptr 0 0 0), (5, .ptr 3 0 0), (7, .ptr 4 0 0), (8, .int .i64 (i : Nat)), (9, .ptr σ.length 0 0), (167, .ptr 3 0 0), (168, .ptr σ.length 0 3)]) (fun s => s.1) (fun s => BB t s.1 s.2.1 s.2.2.1 s.2.2.2.1 s.2.2.2.2 ∧ s.1[σ.length]? = some (callB c)) ?main ?rest
        case main =>
          intro hsh
          have hbd := h2.b.bd ht
          obtain ⟨l1, l2, l3, l4, l5⟩ := h2.len ht
          have hPW := h2.sim.pw
          have hJ : c.job.length ≤ 9223372036854775807 := by omega
          have hel := h2.b.el
          rcases (by omega : kd = 0 ∨ kd = 1 ∨ kd = 2 ∨ kd = 3 ∨ kd = 4) with rfl | rfl | rfl | rfl | rfl
          · refine pao [.v (.int .i64 c.kind), .v (.int .i64 (0 : Nat)), .b true] rfl ?_ ?_
            · (repeat' with_reducible apply AllP_cons) <;> try exact aC
              · exact OpSpec.loadP rfl rfl rfl rfl hcb rfl
              · exact ⟨_, hC2, .cons (.refl .int) (.cons (.refl .int) (.nil _))⟩
            have hA := AddA_ok (σ ++ [callB c]) 3 2 t now es c.job h2.la hJ (by omega)
            refine S_drawRR 3 7 8 (fun v1 v2 => [.str c.job, v1, .str c.job, v2])
              (fun v t' => v = .int .i64 (addE es c.job) ∧ LAt t' 3 2 none t (now) (addL es c.job (σ ++ [callB c]).length) ∧ QKeep (σ ++ [callB c]) t' (OwnL 3 2 es) (OwnL 3 2 (addL es c.job (σ ++ [callB c]).length)))
              (fun _ σ1 v t' => v = .int .i64 (addE es c.job) ∧ ∃ L', PAt t' L' t (pAdd s c.job) ∧ L'.r = 4 ∧ QKeep σ1 t' (OwnP L) (OwnP L'))
              (fun t' => t'[σ.length]? = some (callB c)) rfl rfl rfl rfl rfl rfl rfl (fun t' v1 v2 => rfl) (fun u v1 v2 => rfl) (fun u v1 v2 => rfl) hcb ?_ ?_ (fun t' v1 v2 ht' => ?_) (fun o ho => ?_) (fun v1 σ1 hr1 o ho => ?_) (fun v1 σ1 v2 σ2 hr1 hr2 => ?_)
            · rintro v1 σ1 ⟨_, _, hk⟩
              rw [hk.same _ (by simp) o1]; exact hcb
            · rintro v1 σ1 v2 σ2 ⟨_, _, hk⟩ ⟨_, L', _, _, hk2⟩
              rw [hk2.same _ (by have := hk.len; simp at this; omega) o2, hk.same _ (by simp) o1]; exact hcb
            · (repeat' with_reducible apply AllP_cons) <;> try exact aC
              all_goals exact OpSpec.loadP rfl rfl rfl rfl ht' rfl
            · cases ho
              exact callR_step rfl rfl hA fun out t' ⟨e1, e2, e3⟩ => ⟨_, e1, rfl, e2, e3⟩
            · obtain ⟨_, hq1, hk1⟩ := hr1
              obtain ⟨hra, hdj⟩ := h2.toL hq1 hk1
              have hRP := PAdd_ok σ1 L t s c.job hra hJ ⟨by omega, by omega, by omega⟩
              rw [h.lr, h2.sim.aErr] at hRP
              cases ho
              exact callR_step rfl rfl hRP fun out t' ⟨e1, e2⟩ => ⟨_, e1, rfl, e2⟩
            · obtain ⟨rfl, hq1, hk1⟩ := hr1
              obtain ⟨rfl, L', hra2, hlr2, hk2⟩ := hr2
              obtain ⟨hra, hdj⟩ := h2.toL hq1 hk1
              obtain ⟨hq2, hdj2⟩ := toP hq1 hdj hra2 hk2
              have hcs : σ2[σ.length]? = some (callB c) := by rw [hk2.same _ (by have := hk1.len; simp at this; omega) o2, hk1.same _ (by simp) o1]; exact hcb
              refine pao [.b false] rfl ?_ ?_
              · (repeat' with_reducible apply AllP_cons) <;> try exact aC
                show ((addE es c.job) != (addE es c.job)) = false
                simp
              exact hsh (σ2, _, _, L', _) _ ⟨⟨hq2, hra2, hlr2, h2.sim.aAddL c.job _, h2.b.aAddL ht c.job _, h.n0, h.n1, hdj2⟩, hcs⟩ (.cons rfl (.cons rfl (.cons rfl (.cons rfl (.cons rfl (.cons rfl (.cons rfl (.cons rfl (.nil _)))))))))
          · refine pao [.v (.int .i64 c.kind), .v (.int .i64 (1 : Nat)), .b false, .b true] rfl ?_ ?_
            · (repeat' with_reducible apply AllP_cons) <;> try exact aC
              · exact OpSpec.loadP rfl rfl rfl rfl hcb rfl
              · exact ⟨_, hC2, .cons (.refl .int) (.cons (.refl .int) (.nil _))⟩
            have hA := Grant_ok (σ ++ [callB c]) 3 2 t now n c.wk es c.job h2.la hbd
            have hsm := h2.sim.grant h2.b n c.wk c.job
            obtain ⟨hb1, hb2, hb3⟩ := grant_bok (n := n) (w := c.wk) (s := c.job) ht h2.b h2.n0 h2.n1
            have htr : ∀ x ∈ (pTime t s n).1.trs, 0 ≤ x ∧ x ≤ 1000000 := fun x hx => by
              rw [(pTime_sim (n := n) h2.sim h2.b).1.tr] at hx
              obtain ⟨e, he, rfl⟩ := List.mem_map.1 hx
              have h5 := (h2.b.tick n).eo e he
              have := h5.t0
              have := h5.t1
              have := ht.r2
              omega
            refine S_drawRR 6 13 14 (fun v1 v2 => [.str c.job, .int .i64 c.wk, v1, .str c.job, .int .i64 c.wk, v2])
              (fun v t' => v = .int .i64 (codeS (grantS t now n c.wk c.job es)) ∧ LAt t' 3 2 none t (nowS (grantS t now n c.wk c.job es)) (esS (grantS t now n c.wk c.job es)) ∧ QKeep (σ ++ [callB c]) t' (OwnL 3 2 es) (OwnL 3 2 (esS (grantS t now n c.wk c.job es))))
              (fun _ σ1 v t' => v = .int .i64 (codeS (grantS t now n c.wk c.job es)) ∧ ∃ L', PAt t' L' t ((pGrant t s n c.wk c.job).2) ∧ L'.r = 4 ∧ QKeep σ1 t' (OwnP L) (OwnP L'))
              (fun t' => t'[σ.length]? = some (callB c)) rfl rfl rfl rfl rfl rfl rfl (fun t' v1 v2 => rfl) (fun u v1 v2 => rfl) (fun u v1 v2 => rfl) hcb ?_ ?_ (fun t' v1 v2 ht' => ?_) (fun o ho => ?_) (fun v1 σ1 hr1 o ho => ?_) (fun v1 σ1 v2 σ2 hr1 hr2 => ?_)
            · rintro v1 σ1 ⟨_, _, hk⟩
              rw [hk.same _ (by simp) o1]; exact hcb
            · rintro v1 σ1 v2 σ2 ⟨_, _, hk⟩ ⟨_, L', _, _, hk2⟩
              rw [hk2.same _ (by have := hk.len; simp at this; omega) o2, hk.same _ (by simp) o1]; exact hcb
            · (repeat' with_reducible apply AllP_cons) <;> try exact aC
              all_goals exact OpSpec.loadP rfl rfl rfl rfl ht' rfl
            · cases ho
              exact callR_step rfl rfl hA fun out t' ⟨e1, e2, e3⟩ => ⟨_, e1, rfl, e2, (by rw [own_grant2]; exact e3)⟩
            · obtain ⟨_, hq1, hk1⟩ := hr1
              obtain ⟨hra, hdj⟩ := h2.toL hq1 hk1
              have hRP := PGrant_ok σ1 L t s n c.wk c.job hra hPW (by omega) (by omega) ht.l1 ht.l2 htr
              rw [h.lr, hsm.1] at hRP
              cases ho
              exact callR_step rfl rfl hRP fun out t' ⟨e1, e2⟩ => ⟨_, e1, rfl, e2⟩
            · obtain ⟨rfl, hq1, hk1⟩ := hr1
              obtain ⟨rfl, L', hra2, hlr2, hk2⟩ := hr2
              obtain ⟨hra, hdj⟩ := h2.toL hq1 hk1
              obtain ⟨hq2, hdj2⟩ := toP hq1 hdj hra2 hk2
              have hcs : σ2[σ.length]? = some (callB c) := by rw [hk2.same _ (by have := hk1.len; simp at this; omega) o2, hk1.same _ (by simp) o1]; exact hcb
              refine pao [.b false] rfl ?_ ?_
              · (repeat' with_reducible apply AllP_cons) <;> try exact aC
                show ((codeS (grantS t now n c.wk c.job es)) != (codeS (grantS t now n c.wk c.job es))) = false
                simp
              exact hsh (σ2, _, _, L', _) _ ⟨⟨hq2, hra2, hlr2, hsm.2, hb1, hb2, hb3, hdj2⟩, hcs⟩ (.cons rfl (.cons rfl (.cons rfl (.cons rfl (.cons rfl (.cons rfl (.cons rfl (.cons rfl (.nil _)))))))))
          · refine pao [.v (.int .i64 c.kind), .v (.int .i64 (2 : Nat)), .b false, .b false, .b true] rfl ?_ ?_
            · (repeat' with_reducible apply AllP_cons) <;> try exact aC
              · exact OpSpec.loadP rfl rfl rfl rfl hcb rfl
              · exact ⟨_, hC2, .cons (.refl .int) (.cons (.refl .int) (.nil _))⟩
            have hA := Beat_ok (σ ++ [callB c]) 3 2 t now n c.wk es c.job h2.la hbd
            have hsm := h2.sim.beat h2.b n c.wk c.job
            obtain ⟨hb1, hb2, hb3⟩ := act_bok (t := t) (f := beE t n c.wk) (n := n) (w := c.wk) (s := c.job) h2.b h2.n0 h2.n1 (fun e j => be_ok ht e j)
            refine S_drawRR 6 13 14 (fun v1 v2 => [.str c.job, .int .i64 c.wk, v1, .str c.job, .int .i64 c.wk, v2])
              (fun v t' => v = .int .i64 (codeS (actS (beE t n c.wk) t now n c.wk c.job es)) ∧ LAt t' 3 2 none t (nowS (actS (beE t n c.wk) t now n c.wk c.job es)) (esS (actS (beE t n c.wk) t now n c.wk c.job es)) ∧ QKeep (σ ++ [callB c]) t' (OwnL 3 2 es) (OwnL 3 2 (esS (actS (beE t n c.wk) t now n c.wk c.job es))))
              (fun _ σ1 v t' => v = .int .i64 (codeS (actS (beE t n c.wk) t now n c.wk c.job es)) ∧ ∃ L', PAt t' L' t ((pBeat t s n c.wk c.job).2) ∧ L'.r = 4 ∧ QKeep σ1 t' (OwnP L) (OwnP L'))
              (fun t' => t'[σ.length]? = some (callB c)) rfl rfl rfl rfl rfl rfl rfl (fun t' v1 v2 => rfl) (fun u v1 v2 => rfl) (fun u v1 v2 => rfl) hcb ?_ ?_ (fun t' v1 v2 ht' => ?_) (fun o ho => ?_) (fun v1 σ1 hr1 o ho => ?_) (fun v1 σ1 v2 σ2 hr1 hr2 => ?_)
            · rintro v1 σ1 ⟨_, _, hk⟩
              rw [hk.same _ (by simp) o1]; exact hcb
            · rintro v1 σ1 v2 σ2 ⟨_, _, hk⟩ ⟨_, L', _, _, hk2⟩
              rw [hk2.same _ (by have := hk.len; simp at this; omega) o2, hk.same _ (by simp) o1]; exact hcb
            · (repeat' with_reducible apply AllP_cons) <;> try exact aC
              all_goals exact OpSpec.loadP rfl rfl rfl rfl ht' rfl
            · cases ho
              exact callR_step rfl rfl hA fun out t' ⟨e1, e2, e3⟩ => ⟨_, e1, rfl, e2, (by rw [own_act2 (f := beE t n c.wk) (fun e => ⟨rfl, rfl⟩)]; exact e3)⟩
            · obtain ⟨_, hq1, hk1⟩ := hr1
              obtain ⟨hra, hdj⟩ := h2.toL hq1 hk1
              have hRP := PBeat_ok σ1 L t s n c.wk c.job hra hPW (by omega) (by omega) ht.l1 ht.l2
              rw [h.lr, hsm.1] at hRP
              cases ho
              exact callR_step rfl rfl hRP fun out t' ⟨e1, e2⟩ => ⟨_, e1, rfl, e2⟩
            · obtain ⟨rfl, hq1, hk1⟩ := hr1
              obtain ⟨rfl, L', hra2, hlr2, hk2⟩ := hr2
              obtain ⟨hra, hdj⟩ := h2.toL hq1 hk1
              obtain ⟨hq2, hdj2⟩ := toP hq1 hdj hra2 hk2
              have hcs : σ2[σ.length]? = some (callB c) := by rw [hk2.same _ (by have := hk1.len; simp at this; omega) o2, hk1.same _ (by simp) o1]; exact hcb
              refine pao [.b false] rfl ?_ ?_
              · (repeat' with_reducible apply AllP_cons) <;> try exact aC
                show ((codeS (actS (beE t n c.wk) t now n c.wk c.job es)) != (codeS (actS (beE t n c.wk) t now n c.wk c.job es))) = false
                simp
              exact hsh (σ2, _, _, L', _) _ ⟨⟨hq2, hra2, hlr2, hsm.2, hb1, hb2, hb3, hdj2⟩, hcs⟩ (.cons rfl (.cons rfl (.cons rfl (.cons rfl (.cons rfl (.cons rfl (.cons rfl (.cons rfl (.nil _)))))))))
          · refine pao [.v (.int .i64 c.kind), .v (.int .i64 (3 : Nat)), .b false, .b false, .b false, .b true] rfl ?_ ?_
            · (repeat' with_reducible apply AllP_cons) <;> try exact aC
              · exact OpSpec.loadP rfl rfl rfl rfl hcb rfl
              · exact ⟨_, hC2, .cons (.refl .int) (.cons (.refl .int) (.nil _))⟩
            have hA := Done_ok (σ ++ [callB c]) 3 2 t now n c.wk es c.job c.good h2.la hbd
            have hsm := h2.sim.done h2.b n c.wk c.job c.good
            obtain ⟨hb1, hb2, hb3⟩ := act_bok (t := t) (f := dnE t c.wk c.good) (n := n) (w := c.wk) (s := c.job) h2.b h2.n0 h2.n1 (fun e j => dn_ok c.good e j)
            refine S_drawRR 8 17 18 (fun v1 v2 => [.str c.job, .int .i64 c.wk, .bool c.good, v1, .str c.job, .int .i64 c.wk, .bool c.good, v2])
              (fun v t' => v = .int .i64 (codeS (actS (dnE t c.wk c.good) t now n c.wk c.job es)) ∧ LAt t' 3 2 none t (nowS (actS (dnE t c.wk c.good) t now n c.wk c.job es)) (esS (actS (dnE t c.wk c.good) t now n c.wk c.job es)) ∧ QKeep (σ ++ [callB c]) t' (OwnL 3 2 es) (OwnL 3 2 (esS (actS (dnE t c.wk c.good) t now n c.wk c.job es))))
              (fun _ σ1 v t' => v = .int .i64 (codeS (actS (dnE t c.wk c.good) t now n c.wk c.job es)) ∧ ∃ L', PAt t' L' t ((pDone t s n c.wk c.job c.good).2) ∧ L'.r = 4 ∧ QKeep σ1 t' (OwnP L) (OwnP L'))
              (fun t' => t'[σ.length]? = some (callB c)) rfl rfl rfl rfl rfl rfl rfl (fun t' v1 v2 => rfl) (fun u v1 v2 => rfl) (fun u v1 v2 => rfl) hcb ?_ ?_ (fun t' v1 v2 ht' => ?_) (fun o ho => ?_) (fun v1 σ1 hr1 o ho => ?_) (fun v1 σ1 v2 σ2 hr1 hr2 => ?_)
            · rintro v1 σ1 ⟨_, _, hk⟩
              rw [hk.same _ (by simp) o1]; exact hcb
            · rintro v1 σ1 v2 σ2 ⟨_, _, hk⟩ ⟨_, L', _, _, hk2⟩
              rw [hk2.same _ (by have := hk.len; simp at this; omega) o2, hk.same _ (by simp) o1]; exact hcb
            · (repeat' with_reducible apply AllP_cons) <;> try exact aC
              all_goals exact OpSpec.loadP rfl rfl rfl rfl ht' rfl
            · cases ho
              exact callR_step rfl rfl hA fun out t' ⟨e1, e2, e3⟩ => ⟨_, e1, rfl, e2, (by rw [own_act2 (dnE_ids2 t c.wk c.good)]; exact e3)⟩
            · obtain ⟨_, hq1, hk1⟩ := hr1
              obtain ⟨hra, hdj⟩ := h2.toL hq1 hk1
              have hRP := PDone_ok σ1 L t s n c.wk c.job c.good hra hPW (by omega) (by omega)
              rw [h.lr, hsm.1] at hRP
              cases ho
              exact callR_step rfl rfl hRP fun out t' ⟨e1, e2⟩ => ⟨_, e1, rfl, e2⟩
            · obtain ⟨rfl, hq1, hk1⟩ := hr1
              obtain ⟨rfl, L', hra2, hlr2, hk2⟩ := hr2
              obtain ⟨hra, hdj⟩ := h2.toL hq1 hk1
              obtain ⟨hq2, hdj2⟩ := toP hq1 hdj hra2 hk2
              have hcs : σ2[σ.length]? = some (callB c) := by rw [hk2.same _ (by have := hk1.len; simp at this; omega) o2, hk1.same _ (by simp) o1]; exact hcb
              refine pao [.b false] rfl ?_ ?_
              · (repeat' with_reducible apply AllP_cons) <;> try exact aC
                show ((codeS (actS (dnE t c.wk c.good) t now n c.wk c.job es)) != (codeS (actS (dnE t c.wk c.good) t now n c.wk c.job es))) = false
                simp
              exact hsh (σ2, _, _, L', _) _ ⟨⟨hq2, hra2, hlr2, hsm.2, hb1, hb2, hb3, hdj2⟩, hcs⟩ (.cons rfl (.cons rfl (.cons rfl (.cons rfl (.cons rfl (.cons rfl (.cons rfl (.cons rfl (.nil _)))))))))
          · have hfi : ∀ (st : Heap) (a : Int), Frz false st (.int .i64 a) (.int .i64 a) := fun _ _ => .refl .int
            have he1 := errT_one n s.now
            rw [hnow] at he1
            by_cases he : errT n now [] = 0
            · obtain ⟨q0, q1, q2⟩ := errT_n he
              have hT := Tick_ok (σ ++ [callB c]) 3 2 t now n es h2.la hbd.tl hbd.el he
              refine pao [.v (.int .i64 c.kind), .v (.int .i64 (4 : Nat)), .b false, .b false, .b false, .b false, .b true] rfl ?_ ?_
              · (repeat' with_reducible apply AllP_cons) <;> try exact aC
                · exact OpSpec.loadP rfl rfl rfl rfl hcb rfl
                · exact ⟨_, hC2, .cons (.refl .int) (.cons (.refl .int) (.nil _))⟩
              refine S_call rfl rfl rfl hT (fun v s1 hR => ?_) (fun v s1 hR => by obtain ⟨w, wv, hR, _⟩ := hR; cases hR)
              obtain ⟨w, wv, hR, hw, hgw, hL1, hK1⟩ := hR
              cases hR
              have ho : OwnL 3 2 (es.map (tickE t.tries n)) = OwnL 3 2 es := own_map _ fun e => ⟨(tickE_jid _ _ e).1, (tickE_jid _ _ e).2.1⟩
              have hK1' : QKeep (σ ++ [callB c]) s1 (OwnL 3 2 es) (OwnL 3 2 (es.map (tickE t.tries n))) := by rw [ho]; exact hK1
              obtain ⟨hP1, hdj1⟩ := h2.toL hL1 hK1'
              have hPT := PTime_ok s1 L t s n 1 hP1 hPW (by omega) (by omega) (by rw [hnow, he1]; exact he)
              obtain ⟨hsm, hgn⟩ := pTime_sim (n := n) h2.sim h2.b
              rw [h.lr, hgn] at hPT
              refine pao [] rfl ?_ ?_
              · (repeat' with_reducible apply AllP_cons) <;> try exact aC
              refine S_call rfl rfl rfl hPT (fun v s3 hR => ?_) (fun v s3 hR => by obtain ⟨hR, _⟩ := hR; cases hR)
              obtain ⟨hR, L', hP3, _, hlr3, hK3⟩ := hR
              cases hR
              obtain ⟨hL3, hdj3⟩ := toP hL1 hdj1 hP3 hK3
              have hgl : (goneL n es).length ≤ 200 := by
                unfold goneL
                rw [(sortT_perm _).length_eq, List.length_map]
                exact Nat.le_trans (List.length_filter_le ..) hel
              have hwn : ¬ OwnP L w := fun ho => by have := h2.pa.lt _ ho; omega
              have hgw3 : s3[w]? = some (wv, some (.cells (texts (goneL n es)) ⟨false, none⟩)) := by rw [hK3.same _ (lt_of_get hgw) hwn]; exact hgw
              have hTA := textsAre_ok (st := false) (fl := false) (st' := true) (fl' := false) (goneL n es) (goneL n es) 0 0 (by omega) (by omega)
              rw [show ((0 : Nat) == 0 && goneL n es == (if (0 : Nat) = 0 then goneL n es else [])) = true by simp] at hTA
              have hcs : s3[σ.length]? = some (callB c) := by rw [hK3.same _ (by have := hK1.len; simp at this; omega) o2, hK1.same _ (by simp) o1]; exact hcb
              refine pao [.v (.bool true), .b false] rfl ?_ ?_
              · (repeat' with_reducible apply AllP_cons) <;> try exact aC
                · exact ⟨_, hTA, .cons (Frz.ms1 (ro := ⟨false, none⟩) (by simp [boxAt, hgw3]) (texts_one _) (texts_len _) (texts_any _)) (.cons (hfi _ _) (.cons (hfi _ _) (.cons (.refl (.sl (fun h => by cases h) (texts_any _))) (.nil _))))⟩
              exact hsh (s3, _, n, L', _) _ ⟨⟨hL3, hP3, hlr3, hsm, h2.b.tick n, q0, q1, hdj3⟩, hcs⟩ (.cons rfl (.cons rfl (.cons rfl (.cons rfl (.cons rfl (.cons rfl (.cons rfl (.cons rfl (.nil _)))))))))
            · have hT := Tick_bad (σ ++ [callB c]) 3 2 t now n es h2.la he
              have hPT := PTime_bad (σ ++ [callB c]) L t s n 1 h2.pa (by rw [hnow, he1]; exact he)
              rw [h.lr, hnow, he1] at hPT
              obtain ⟨k, hk, hk0⟩ : ∃ k : Nat, errT n now [] = (k : Int) ∧ k ≠ 0 := by
                rcases errT_cases n now [] with h' | h' | h'
                · exact absurd h' he
                · exact ⟨3, h', by decide⟩
                · exact ⟨4, h', by decide⟩
              rw [hk] at hT hPT
              have hTA := textsAre_ok (st := false) (fl := false) (st' := false) (fl' := false) [] [] k k (by decide) (by decide)
              rw [show (k == k && ([] : List (List UInt8)) == (if k = 0 then [] else [])) = true by simp] at hTA
              refine pao [.v (.int .i64 c.kind), .v (.int .i64 (4 : Nat)), .b false, .b false, .b false, .b false, .b true, .k (.tup [.nils, .int .i64 (k : Int)]), .k (.tup [.nils, .int .i64 (k : Int)]), .v (.bool true), .b false] rfl ?_ ?_
              · (repeat' with_reducible apply AllP_cons) <;> try exact aC
                · exact OpSpec.loadP rfl rfl rfl rfl hcb rfl
                · exact ⟨_, hC2, .cons (.refl .int) (.cons (.refl .int) (.nil _))⟩
                · exact ⟨_, hTA, .cons .nils (.cons (hfi _ _) (.cons (hfi _ _) (.cons .nils (.nil _))))⟩
              exact hsh (σ ++ [callB c], _, _, L, _) _ ⟨h2, hcb⟩ (.cons rfl (.cons rfl (.cons rfl (.cons rfl (.cons rfl (.cons rfl (.cons rfl (.cons rfl (.nil _)))))))))
        case rest =>
          rintro ⟨u, es2, now2, L2, s2⟩ ⟨h3, hc3⟩
          simp only at h3 hc3
          have hbd := h3.b.bd ht
          obtain ⟨l1, l2, l3, l4, l5⟩ := h3.len ht
          have hSt := State_ok u 3 2 t now2 es2 c.job h3.la
          have hAt := At_ok u L2 t s2 c.job h3.pa (by omega)
          rw [h3.lr] at hAt
          have hrb3 := h3.pa.rb
          rw [h3.lr] at hrb3
          refine' S_shareO (ι := Unit) (fun _ => [(1, .sl true false 5 (callsA l)), (2, .ptr 0 0 0), (5, .ptr 3 0 0), (7, .ptr 4 0 0), (8, .int .i64 (i : Nat)), (213, .ptr 3 0 0)]) (fun _ => u) (fun _ => True) ?main2 ?rest2
          case main2 =>
            intro hsh
            unfold idxP at hAt
            rw [h3.sim.find] at hAt
            unfold stL at hSt
            cases ha : atL es2 c.job with
            | none =>
              rw [ha] at hAt hSt
              refine pao [.v (.str c.job), .k (.tup [.int .i64 0, .int .i64 0]), .v (.str c.job), .k (.int .i64 (-1)), .b true, .b false, .b false, .b false, .b false] rfl ?_ ?_
              · (repeat' with_reducible apply AllP_cons) <;> try exact aC
                all_goals exact OpSpec.loadP rfl rfl rfl rfl hc3 rfl
              exact hsh () _ trivial (.cons rfl (.cons rfl (.cons rfl (.cons rfl (.cons rfl (.cons rfl (.nil _)))))))
            | some a =>
              rw [ha] at hAt hSt
              obtain ⟨hal, hnm⟩ := atL_some ha
              simp only [List.getElem?_eq_getElem hal] at hSt
              obtain ⟨q1, q2, q3, q4⟩ := h3.sim.stx hal
              have hs1 : a < s2.sts.length := by rw [h3.sim.st, List.length_map]; exact hal
              have hs2 : a < s2.trs.length := by rw [h3.sim.tr, List.length_map]; exact hal
              have q1 : s2.sts[a] = es2[a].st := by simpa [List.getD, hs1] using q1
              have q2 : s2.trs[a] = es2[a].tried := by simpa [List.getD, hs2] using q2
              have hsx := intC_at hs1
              have htx := intC_at hs2
              rw [q1] at hsx
              rw [q2] at htx
              have f1 : decide ((a : Int) < 0) = false := decide_eq_false (by omega)
              have f2 : decide ((a : Int) ≥ 0) = true := decide_eq_true (by omega)
              have f3 : decide ((a : Int) < (s2.sts.length : Int)) = true := decide_eq_true (by omega)
              have f4 : decide ((a : Int) < (s2.trs.length : Int)) = true := decide_eq_true (by omega)
              have f5 : (es2[a].st != es2[a].st) = false := by simp
              have f6 : (es2[a].tried != es2[a].tried) = false := by simp
              refine pao [.v (.str c.job), .k (.tup [.int .i64 es2[a].st, .int .i64 es2[a].tried]), .v (.str c.job), .k (.int .i64 (a : Int)), .b false, .b false, .b true, .v (.ms L2.sid L2.sv 0 s2.sts.length 1 false), .v .top, .v (.int .i64 es2[a].st), .b false, .v (.ms L2.tid L2.tv 0 s2.trs.length 1 false), .v .top, .v (.int .i64 es2[a].tried), .b false] rfl ?_ ?_
              · (repeat' with_reducible apply AllP_cons) <;> try exact aC
                all_goals first | exact OpSpec.loadP rfl rfl rfl rfl hc3 rfl | exact OpSpec.loadP rfl rfl rfl rfl hrb3 rfl | exact OpSpec.loadE rfl rfl rfl rfl h3.pa.sb hsx | exact OpSpec.loadE rfl rfl rfl rfl h3.pa.tb htx
              exact hsh () _ trivial (.cons rfl (.cons rfl (.cons rfl (.cons rfl (.cons rfl (.cons rfl (.nil _)))))))
          case rest2 =>
            intro _ _
            have hLs := Leases_ok u 3 2 t now2 es2 h3.la (h3.b.lv ht)
            refine S_call rfl rfl rfl hLs (fun v s5 hR => ?_) (fun v s hR => by obtain ⟨w, wv, out, hR, _⟩ := hR; cases hR)
            obtain ⟨w, wv, out, hR, hw, hgw, hpo, hpw, hL5, hK5⟩ := hR
            cases hR
            obtain ⟨hP5, hdj5⟩ := h3.toL hL5 hK5
            have hSo := PSorted_ok s5 L2 t s2 hP5 (by omega)
            have hse : sortP s2.all = out := h3.sim.sorted h3.b hpo hpw
            rw [hse, h3.lr] at hSo
            refine pao [] rfl ?_ ?_
            · (repeat' with_reducible apply AllP_cons) <;> try exact aC
            refine S_call rfl rfl rfl hSo (fun v s6 hR => ?_) (fun v s hR => by obtain ⟨w, hR, _⟩ := hR; cases hR)
            obtain ⟨w2, hR, hw2, hgw2, hP6, hK6⟩ := hR
            cases hR
            obtain ⟨hL6, hdj6⟩ := toP hL5 hdj5 hP6 hK6
            have hwn : ¬ OwnP L2 w := fun ho => by have := h3.pa.lt _ ho; omega
            have hgw6 : s6[w]? = some (wv, some (.cells (lsC out) ⟨false, none⟩)) := by rw [hK6.same _ (lt_of_get hgw) hwn]; exact hgw
            have hol : out.length ≤ 1000 := by rw [← hse, sortP_len]; exact l1
            have f1 : ((out.length : Int) != (out.length : Int)) = false := by simp
            refine pao [.b false] rfl ?_ ?_
            · (repeat' with_reducible apply AllP_cons) <;> try exact aC
            refine S_while (α := Nat) (fun k => [(1, .sl true false 5 (callsA l)), (2, .ptr 0 0 0), (5, .ptr 3 0 0), (7, .ptr 4 0 0), (8, .int .i64 (i : Nat)), (18, .ms w wv 0 out.length 3 false), (19, .ms w2 0 0 out.length 3 false), (20, .int .i64 (k : Nat))]) (fun _ => s6) (fun k => k ≤ out.length) (fun k => out.length - k) 0
              (Nat.zero_le _) (.cons rfl (.cons rfl (.cons rfl (.cons rfl (.cons rfl (.cons rfl (.cons rfl (.cons rfl (.nil _))))))))) rfl ?_
            intro k hk
            by_cases hkl : k < out.length
            · have g1 : decide ((k : Int) < (out.length : Int)) = true := decide_eq_true (by omega)
              have hk1 : AV.int .i64 (IntKind.i64.wrap ((k : Int) + 1)) = .int .i64 ((k + 1 : Nat) : Int) := ai64 rfl (by omega)
              obtain ⟨rr, hrr⟩ := lsC_at hkl
              have hdr : (lsC out).drop (offN 0 (mulN ((k : Int)).toNat 3)) = .str out[k].job :: .int .i64 out[k].wk :: .int .i64 out[k].tl :: rr := by rw [offN_eq, mulN_eq, Int.toNat_natCast, Nat.zero_add]; exact hrr
              refine pao [.b true] rfl ?_ ?_
              · (repeat' with_reducible apply AllP_cons) <;> try exact aC
              refine S_drawO 8 [.top, .agg out[k].cells, .top, .agg out[k].cells] rfl rfl rfl rfl ?_ ?_
              · (repeat' with_reducible apply AllP_cons) <;> try exact aC
                · refine OpSpec.loadEA (cs := lsC out) rfl rfl rfl rfl hgw6 (show 3 ≤ ((lsC out).drop (offN 0 (mulN ((k : Int)).toNat 3))).length by rw [hdr]; simp) ?_
                  show AV.agg (out[k]).cells = AV.agg (List.take 3 ((lsC out).drop (offN 0 (mulN ((k : Int)).toNat 3))))
                  rw [hdr]; rfl
                · refine OpSpec.loadEA (cs := lsC out) rfl rfl rfl rfl hgw2 (show 3 ≤ ((lsC out).drop (offN 0 (mulN ((k : Int)).toNat 3))).length by rw [hdr]; simp) ?_
                  show AV.agg (out[k]).cells = AV.agg (List.take 3 ((lsC out).drop (offN 0 (mulN ((k : Int)).toNat 3))))
                  rw [hdr]; rfl
              refine pao [.b false] rfl ?_ ?_
              · (repeat' with_reducible apply AllP_cons) <;> try exact aC
                · exact cmpLea
                · simp
              exact S_round (k + 1) (by show out.length - (k + 1) < out.length - k; omega) hkl (.cons rfl (.cons rfl (.cons rfl (.cons rfl (.cons rfl (.cons rfl (.cons rfl (.cons hk1 (.nil _))))))))) rfl
            · have g1 : decide ((k : Int) < (out.length : Int)) = false := decide_eq_false (by omega)
              refine pao [.b false] rfl ?_ ?_
              · (repeat' with_reducible apply AllP_cons) <;> try exact aC
              exact S_round ((s6, es2, now2, L2, s2), i + 1) (by show l.length - (i + 1) < l.length - i; omega) ⟨⟨hL6, hP6, h3.lr, h3.sim, h3.b, h3.n0, h3.n1, hdj6⟩, hlt1⟩ (.cons rfl (.cons rfl (.cons rfl (.cons rfl (.cons hi1' (.nil _)))))) rfl
end Go.Proofs.Ytopdpbcfgjijaaa
end
section
set_option linter.unusedVariables false
set_option linter.unusedSimpArgs false
set_option maxRecDepth 20000
namespace Go.Proofs.Ytopdpbcfgjijaaa
open Go Go.Ab
theorem open_E {H : Type} {d : DataW H} {a : AV} (h : RdD Try.prog 23 d a) : ∃ t : TM, a = termA t := by
  obtain ⟨ds, xs, rfl, rfl, hall⟩ := h.inv_st Try.underlying23
  obtain ⟨d0, ds, x0, xs, rfl, rfl, h0, hall⟩ := hall.cons
  obtain ⟨d1, ds, x1, xs, rfl, rfl, h1, hall⟩ := hall.cons
  obtain ⟨d2, ds, x2, xs, rfl, rfl, h2, hall⟩ := hall.cons
  obtain ⟨rfl, rfl⟩ := hall.nil
  obtain ⟨s0, rfl, rfl, _⟩ := h0.inv_int Try.underlying3
  obtain ⟨s1, rfl, rfl, _⟩ := h1.inv_int Try.underlying3
  obtain ⟨s2, rfl, rfl, _⟩ := h2.inv_int Try.underlying3
  exact ⟨⟨s0, s1, s2⟩, rfl⟩
end Go.Proofs.Ytopdpbcfgjijaaa
end
section
set_option linter.unusedVariables false
set_option linter.unusedSimpArgs false
set_option maxRecDepth 20000
namespace Go.Proofs.Ytopdpbcfgjijaaa
open Go Go.Ab
theorem open_call {H : Type} {d : DataW H} {a : AV} (h : RdD Try.prog 38 d a) : ∃ f : CL, a = callA f ∧ f.wf := by
  obtain ⟨ds, xs, rfl, rfl, hall⟩ := h.inv_st Try.underlying38
  obtain ⟨d0, ds, x0, xs, rfl, rfl, h0, hall⟩ := hall.cons
  obtain ⟨d1, ds, x1, xs, rfl, rfl, h1, hall⟩ := hall.cons
  obtain ⟨d2, ds, x2, xs, rfl, rfl, h2, hall⟩ := hall.cons
  obtain ⟨d3, ds, x3, xs, rfl, rfl, h3, hall⟩ := hall.cons
  obtain ⟨d4, ds, x4, xs, rfl, rfl, h4, hall⟩ := hall.cons
  obtain ⟨rfl, rfl⟩ := hall.nil
  obtain ⟨s0, rfl, rfl, w0⟩ := h0.inv_int Try.underlying3
  obtain ⟨s1, rfl, rfl, w1⟩ := h1.inv_int Try.underlying3
  obtain ⟨s2, rfl, rfl, w2⟩ := h2.inv_int Try.underlying3
  obtain ⟨s3, rfl, rfl, w3⟩ := h3.inv_str Try.underlying9
  obtain ⟨b, rfl, rfl⟩ := h4.inv_bool Try.underlying4
  have i64 : ∀ {s : Int}, Lit.wf (.int .i64 s) → -9223372036854775808 ≤ s ∧ s ≤ 9223372036854775807 := fun w => by simpa [Lit.wf, IntKind.min, IntKind.max, IntKind.signed, IntKind.bits] using w
  exact ⟨⟨s0, s1, s2, s3, b⟩, rfl, i64 w0, i64 w1, i64 w2⟩
theorem open_K {H : Type} {d : DataW H} {a : AV} (h : RdD Try.prog 24 d a) : ∃ l : List CL, a = .sl true false 5 (callsA l) ∧ ∀ j ∈ l, j.wf := by
  obtain ⟨ds, xs, rfl, hl, hm, hall, _⟩ := h.inv_sl Try.underlying24
  obtain ⟨ys, rfl, hy, hg⟩ := RdD.each callA (fun j _ => j.wf) hl hall (fun d x h => by
    obtain ⟨f, rfl, hf⟩ := open_call h
    exact ⟨f, rfl, hf⟩)
  have hc : Try.prog.cellsOf 38 = 5 := by kernel_rfl
  exact ⟨ys, by rw [hc]; rfl, fun z hz => by
    obtain ⟨i, hi, rfl⟩ := List.getElem_of_mem hz
    exact hg i (by omega) hi⟩
end Go.Proofs.Ytopdpbcfgjijaaa
end
