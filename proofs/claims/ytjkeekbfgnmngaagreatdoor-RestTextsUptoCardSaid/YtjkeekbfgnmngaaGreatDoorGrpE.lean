/-
  Texts of our own, in one file.
-/
import Derived.Test.YtjkeekbfgnmngaaGreatDoorGrpD
import Derived.Maps.RangeRun
import Derived.Shelf.SlIter.Nil
import Derived.Shelf.SortM.Plain
import Derived.Shelf.SortM.SortNone
import Derived.Sort.Grow
import Derived.Deep.Draws
import Derived.Shelf.SlIter.Sorted
import Derived.StringKeys
section
set_option linter.unusedVariables false
set_option linter.unusedSimpArgs false
set_option maxRecDepth 20000
set_option maxHeartbeats 4000000
namespace Go.Proofs.YtjkeekbfgnmngaaGreatDoor
open Go Go.Ab
theorem bl_eq (x y : List UInt8) : Op.bytesLess x y = decide (x < y) := by
  induction x generalizing y with
  | nil => cases y <;> simp [Op.bytesLess]
  | cons a x ih =>
    cases y with
    | nil => simp [Op.bytesLess]
    | cons b y =>
      rw [Op.bytesLess, ih y, Bool.eq_iff_iff]
      simp only [List.cons_lt_cons_iff, Bool.or_eq_true, Bool.and_eq_true, decide_eq_true_eq, beq_iff_eq]
theorem bl_trans {a b c : List UInt8} (h1 : Op.bytesLess a b = true) (h2 : Op.bytesLess b c = true) : Op.bytesLess a c = true := by
  rw [bl_eq] at h1 h2 ⊢
  simp only [decide_eq_true_eq] at h1 h2 ⊢
  exact List.lt_trans h1 h2
theorem bl_irr (a : List UInt8) : Op.bytesLess a a = false := by
  rw [bl_eq]; simp
theorem leS_bl {a b : List UInt8} : leS a b = false → Op.bytesLess b a = true := by
  unfold leS
  rw [bl_eq, bl_eq]
  simp only [Bool.or_eq_false_iff, decide_eq_false_iff_not, beq_eq_false_iff_ne, decide_eq_true_eq]
  rintro ⟨h1, h2⟩
  by_cases h : b < a
  · exact h
  · exact absurd (List.le_antisymm (List.not_lt.1 h) (List.not_lt.1 h1)) h2
theorem leS_true {a b : List UInt8} : leS a b = true → Op.bytesLess b a = false := by
  intro h
  cases hb : Op.bytesLess b a with
  | false => rfl
  | true =>
    unfold leS at h
    cases h1 : Op.bytesLess a b with
    | true => have := bl_trans h1 hb; rw [bl_irr] at this; cases this
    | false =>
      rw [h1] at h
      have e : a = b := by simpa using h
      rw [e, bl_irr] at hb; cases hb
def okU (l : List Fil) (i : Nat) : Prop := ∀ k (hk : k < l.length), k < i → (∀ (h0 : 0 < k), Op.bytesLess (l[k - 1]'(by omega)).path l[k].path = true) ∧ ∀ g ∈ l, insT l[k].path g.path = false
theorem okU_all {l : List Fil} (h : okU l l.length) : okT l := by
  constructor
  · have key : ∀ (d i : Nat) (hi : i + d + 1 < l.length), Op.bytesLess (l[i]'(by omega)).path (l[i + d + 1]'hi).path = true := by
      intro d
      induction d with
      | zero => intro i hi; exact (h (i + 1) hi hi).1 (by omega)
      | succ d ih =>
        intro i hi
        exact bl_trans (ih i (by omega)) ((h (i + d + 1 + 1) hi hi).1 (by omega))
    rw [List.pairwise_iff_getElem]
    intro i j hi hj hij
    have := key (j - i - 1) i (by omega)
    simp only [show i + (j - i - 1) + 1 = j by omega] at this
    exact this
  · intro f hf g hg
    obtain ⟨k, hk, rfl⟩ := List.getElem_of_mem hf
    exact (h k hk hk).2 g hg
theorem okT_adj {l : List Fil} (h : okT l) {k : Nat} (hk : k < l.length) (h0 : 0 < k) : Op.bytesLess (l[k - 1]'(by omega)).path l[k].path = true := List.pairwise_iff_getElem.1 h.1 _ _ _ hk (by omega)
structure FilsOk (l : List Fil) : Prop where
  len : l.length ≤ 1000000000
  path : ∀ f ∈ l, f.path.length ≤ 1000000000000
  text : ∀ f ∈ l, f.text.length ≤ 1000000000000
def filBx (v : Nat) (f : Fil) : Nat × Option Box := (v, some (.cells [.str f.path, .str f.text, .bool f.run] ⟨false, some 25⟩))
theorem Check_ok {st fl : Bool} (l : List Fil) (hl : FilsOk l) : Calc cx 10 [.sl st fl 3 (fils l)] (.int .i64 (chkT l : Nat)) :=
  pure_intro (fun a w => Tryz.call10 a w) Tryz.func10 rfl Tryz.ntmps10 rfl .int fun B => by
    have hll := fils_len l
    have hlen := hl.len
    unfold chkT
    by_cases h60 : 60 < l.length
    · rw [if_pos h60]
      have e0 : decide ((((fils l).length : Nat) : Int) > 60) = true := decide_eq_true (by omega)
      refine pB [.b true] rfl ?_
      exact S_retc .int rfl trivial rfl
    rw [if_neg h60]
    have e0 : decide ((((fils l).length : Nat) : Int) > 60) = false := decide_eq_false (by omega)
    refine pB [.b false] rfl ?_
    refine S_dead ?_ ⟨_, _, .inl rfl⟩
    refine S_while (α := Nat) (fun i => [(0, .sl st fl 3 (fils l)), (12, .sl st fl 3 (fils l)), (13, .int .i64 (((fils l).length : Nat) : Int)), (14, .int .i64 (i : Nat))]) (fun i => [(i, none)]) (fun i => i ≤ l.length ∧ formT (l.take i) = 0) (fun i => l.length - i) 0
      ⟨Nat.zero_le _, rfl⟩ (.cons rfl (.cons rfl (.cons rfl (.cons rfl (.nil _))))) rfl ?_
    rintro i ⟨hi, hf0⟩
    have hi : i ≤ l.length := hi
    by_cases hlt : i < l.length
    · have e1 : decide ((i : Int) < (((fils l).length : Nat) : Int)) = true := decide_eq_true (by omega)
      have g1 : (fils l)[(i : Int).toNat]? = some (filA l[i]) := fils_get hlt
      have hm := List.getElem_mem hlt
      have hP := isPath_ok l[i].path (by have := hl.path _ hm; omega)
      cases hp : isPathB l[i].path with
      | false =>
        rw [hp] at hP
        have hfe : filE l[i] = 1 := by unfold filE; rw [hp]; rfl
        have hft := formT_at hlt hf0 (by rw [hfe]; decide)
        refine pa [.b true, .v (filA l[i]), .v (.bool false), .b true] rfl ?_ ?_
        · (repeat' with_reducible apply AllP_cons) <;> try exact aC
          · exact ⟨_, hP, .cons (.refl .str) (.nil _)⟩
        refine S_retc .int rfl trivial ?_
        rw [hft, hfe]; rfl
      | true =>
        rw [hp] at hP
        by_cases ht : 100000 < l[i].text.length
        · have hfe : filE l[i] = 2 := by unfold filE; rw [hp, if_pos rfl, if_pos ht]
          have hft := formT_at hlt hf0 (by rw [hfe]; decide)
          have e2 : decide ((((l[i].text).length : Nat) : Int) > 100000) = true := decide_eq_true (by omega)
          refine pa [.b true, .v (filA l[i]), .v (.bool true), .b false, .b true] rfl ?_ ?_
          · (repeat' with_reducible apply AllP_cons) <;> try exact aC
            · exact ⟨_, hP, .cons (.refl .str) (.nil _)⟩
          refine S_retc .int rfl trivial ?_
          rw [hft, hfe]; rfl
        · have hfe : filE l[i] = 0 := by unfold filE; rw [hp, if_pos rfl, if_neg ht]
          have e2 : decide ((((l[i].text).length : Nat) : Int) > 100000) = false := decide_eq_false (by omega)
          refine pa [.b true, .v (filA l[i]), .v (.bool true), .b false, .b false, .s] rfl ?_ ?_
          · (repeat' with_reducible apply AllP_cons) <;> try exact aC
            · exact ⟨_, hP, .cons (.refl .str) (.nil _)⟩
          refine S_drop (id := 0) rfl ?_ ⟨.skip, _, .inr ⟨_, _, _, rfl⟩⟩
          refine pB [] rfl ?_
          exact S_round (i + 1) (by show l.length - (i + 1) < l.length - i; omega) ⟨hlt, formT_step hlt hf0 hfe⟩ (.cons rfl (.cons rfl (.cons rfl (.cons (nX (by omega)) (.nil _))))) rfl
    · have e1 : decide ((i : Int) < (((fils l).length : Nat) : Int)) = false := decide_eq_false (by omega)
      have hfz : formT l = 0 := by rw [List.take_of_length_le (by omega)] at hf0; exact hf0
      rw [if_neg (by simp [hfz])]
      refine pB [.b false] rfl ?_
      refine S_dead ?_ ⟨_, _, .inl rfl⟩
      refine S_while (α := Nat × Nat × Nat) (fun q => [(0, .sl st fl 3 (fils l)), (27, .sl st fl 3 (fils l)), (28, .int .i64 (((fils l).length : Nat) : Int)), (29, .int .i64 (q.1 : Nat))]) (fun q => [(q.2.1, none), (q.2.2, none)]) (fun q => q.1 ≤ l.length ∧ okU l q.1) (fun q => l.length - q.1) (0, i, 0)
        ⟨Nat.zero_le _, fun k hk h => absurd h (Nat.not_lt_zero _)⟩ (.cons rfl (.cons rfl (.cons rfl (.cons rfl (.nil _))))) rfl ?_
      rintro ⟨i, u, v⟩ ⟨hi, hU⟩
      have hi : i ≤ l.length := hi
      have hU : okU l i := hU
      by_cases hlt : i < l.length
      · have e1 : decide ((i : Int) < (((fils l).length : Nat) : Int)) = true := decide_eq_true (by omega)
        have g1 : (fils l)[(i : Int).toNat]? = some (filA l[i]) := fils_get hlt
        have hm := List.getElem_mem hlt
        by_cases hbad : ∃ h0 : 0 < i, leS l[i].path (l[i - 1]'(by omega)).path = true
        · obtain ⟨h0, hb⟩ := hbad
          have hno : ¬ okT l := fun h => by have := okT_adj h hlt h0; rw [leS_true hb] at this; cases this
          have e2 : decide ((i : Int) > 0) = true := decide_eq_true (by omega)
          have hw : IntKind.i64.wrap ((i : Int) - 1) = ((i - 1 : Nat) : Int) := w64 (by omega) (by omega)
          have g2 : (fils l)[(((i - 1 : Nat) : Nat) : Int).toNat]? = some (filA (l[i - 1]'(by omega))) := fils_get (by omega)
          rw [if_neg hno]
          refine pa [.b true, .v (filA l[i]), .b true, .v (filA (l[i - 1]'(by omega))), .b true] rfl ?_ ?_
          · (repeat' with_reducible apply AllP_cons) <;> try exact aC
            · rw [hw]; exact g2
          exact S_retc .int rfl trivial rfl
        have hadj : ∀ h0 : 0 < i, Op.bytesLess (l[i - 1]'(by omega)).path l[i].path = true := fun h0 => leS_bl (by
          cases h : leS l[i].path (l[i - 1]'(by omega)).path with
          | false => rfl
          | true => exact absurd ⟨h0, h⟩ hbad)
        rcases Nat.eq_zero_or_pos i with h0 | h0
        case' inl =>
          have e2 : decide ((i : Int) > 0) = false := decide_eq_false (by omega)
          refine pB [.b true, .v (filA l[i]), .b false, .b false] rfl ?_
        case' inr =>
          have e2 : decide ((i : Int) > 0) = true := decide_eq_true (by omega)
          have hw : IntKind.i64.wrap ((i : Int) - 1) = ((i - 1 : Nat) : Int) := w64 (by omega) (by omega)
          have g2 : (fils l)[(((i - 1 : Nat) : Nat) : Int).toNat]? = some (filA (l[i - 1]'(by omega))) := fils_get (by omega)
          have hb : leS l[i].path (l[i - 1]'(by omega)).path = false := by
            cases h : leS l[i].path (l[i - 1]'(by omega)).path with
            | false => rfl
            | true => exact absurd ⟨h0, h⟩ hbad
          refine pa [.b true, .v (filA l[i]), .b true, .v (filA (l[i - 1]'(by omega))), .b false] rfl ?_ ?_
          · (repeat' with_reducible apply AllP_cons) <;> try exact aC
            · rw [hw]; exact g2
        all_goals
          refine S_while (α := Nat × Nat) (fun q => [(0, .sl st fl 3 (fils l)), (27, .sl st fl 3 (fils l)), (28, .int .i64 (((fils l).length : Nat) : Int)), (29, .int .i64 (i : Nat)), (6, .ptr 0 (u + 1) 0), (47, .sl st fl 3 (fils l)), (48, .int .i64 (((fils l).length : Nat) : Int)), (49, .int .i64 (q.1 : Nat))]) (fun q => [filBx (u + 1) l[i], (q.2, none)]) (fun q => q.1 ≤ l.length ∧ ∀ k (hk : k < l.length), k < q.1 → insT l[i].path l[k].path = false) (fun q => l.length - q.1) (0, v)
            ⟨Nat.zero_le _, fun k hk h => absurd h (Nat.not_lt_zero _)⟩ (.cons rfl (.cons rfl (.cons rfl (.cons rfl (.cons rfl (.cons rfl (.cons rfl (.cons rfl (.nil _))))))))) rfl ?_
          rintro ⟨j, y⟩ ⟨hj, hI⟩
          have hj : j ≤ l.length := hj
          by_cases hjt : j < l.length
          · have e3 : decide ((j : Int) < (((fils l).length : Nat) : Int)) = true := decide_eq_true (by omega)
            have g3 : (fils l)[(j : Int).toNat]? = some (filA l[j]) := fils_get hjt
            have hN := inside_ok l[i].path l[j].path (hl.path _ hm)
            cases hin : insT l[i].path l[j].path with
            | true =>
              rw [hin] at hN
              have hno : ¬ okT l := fun h => by have := h.2 _ hm _ (List.getElem_mem hjt); rw [hin] at this; cases this
              rw [if_neg hno]
              refine pa [.b true, .v (filA l[j]), .v (.bool true), .b true] rfl ?_ ?_
              · (repeat' with_reducible apply AllP_cons) <;> try exact aC
                · exact ⟨_, hN, .cons (.refl .str) (.cons (.refl .str) (.nil _))⟩
              exact S_retc .int rfl trivial rfl
            | false =>
              rw [hin] at hN
              refine pa [.b true, .v (filA l[j]), .v (.bool false), .b false, .s] rfl ?_ ?_
              · (repeat' with_reducible apply AllP_cons) <;> try exact aC
                · exact ⟨_, hN, .cons (.refl .str) (.cons (.refl .str) (.nil _))⟩
              refine S_drop (id := 1) rfl ?_ ⟨.skip, _, .inr ⟨_, _, _, rfl⟩⟩
              refine pB [] rfl ?_
              refine S_round (j + 1, y + 1) (by show l.length - (j + 1) < l.length - j; omega) ⟨hjt, fun k hk h => ?_⟩ (.cons rfl (.cons rfl (.cons rfl (.cons rfl (.cons rfl (.cons rfl (.cons rfl (.cons (nX (by omega)) (.nil _))))))))) rfl
              have h : k < j + 1 := h
              by_cases hkj : k < j
              · exact hI k hk hkj
              · have : k = j := by omega
                subst this; exact hin
          · have e3 : decide ((j : Int) < (((fils l).length : Nat) : Int)) = false := decide_eq_false (by omega)
            refine pB [.b false, .s] rfl ?_
            refine S_drop (id := 0) rfl ?_ ⟨.skip, _, .inr ⟨_, _, _, rfl⟩⟩
            refine pB [] rfl ?_
            refine S_round (i + 1, u + 1, y) (by show l.length - (i + 1) < l.length - i; omega) ⟨hlt, fun k hk h => ?_⟩ (.cons rfl (.cons rfl (.cons rfl (.cons (nX (by omega)) (.nil _))))) rfl
            have h : k < i + 1 := h
            by_cases hki : k < i
            · exact hU k hk hki
            · have : k = i := by omega
              subst this
              refine ⟨hadj, fun g hg => ?_⟩
              obtain ⟨q, hq, rfl⟩ := List.getElem_of_mem hg
              exact hI q hq (by show q < j; omega)
      · have e1 : decide ((i : Int) < (((fils l).length : Nat) : Int)) = false := decide_eq_false (by omega)
        have hok : okT l := okU_all (by rw [show l.length = i by omega]; exact hU)
        rw [if_pos hok]
        refine pB [.b false] rfl ?_
        exact S_retc .int rfl trivial rfl
end Go.Proofs.YtjkeekbfgnmngaaGreatDoor
end
section
set_option linter.unusedVariables false
set_option linter.unusedSimpArgs false
set_option maxRecDepth 20000
namespace Go.Proofs.YtjkeekbfgnmngaaGreatDoor
open Go Go.Ab
def nodeE (n : NodeV) : Nat := if (isName n.name && isDig n.dig) = true then (if n.kind < 1 ∨ 3 < n.kind then 7 else 0) else 1
def chkF (e : Nat) (n : NodeV) : Nat := if e = 0 then nodeE n else e
def chkLoop (l : List NodeV) : Nat := l.foldl chkF 0
def chkN (l : List NodeV) : Nat := if 60 < l.length then 2 else if chkLoop l = 0 then (if riseB (l.map NodeV.name) = true then 0 else 6) else chkLoop l
theorem chk_step {l : List NodeV} {i : Nat} (h : i < l.length) : (l.take (i + 1)).foldl chkF 0 = chkF ((l.take i).foldl chkF 0) l[i] := by
  rw [List.take_succ_eq_append_getElem h, List.foldl_append]; rfl
structure NodesOk (l : List NodeV) : Prop where
  len : l.length ≤ 9223372036854775807
  name : ∀ n ∈ l, n.name.length ≤ 9223372036854775807
  dig : ∀ n ∈ l, n.dig.length ≤ 9223372036854775807
def packNode (n : NodeV) : List UInt8 := packT n.name ++ packN 9 n.kind.toNat ++ packT n.dig
def packNs (l : List NodeV) : List UInt8 := packN 9 l.length ++ l.flatMap packNode
structure NodesFit (l : List NodeV) : Prop where
  len : l.length ≤ 60
  name : ∀ n ∈ l, n.name.length ≤ 20
  kind : ∀ n ∈ l, 1 ≤ n.kind ∧ n.kind ≤ 3
  dig : ∀ n ∈ l, n.dig.length = 64
theorem isName_len {s : List UInt8} (h : isName s = true) : s.length ≤ 20 := by
  unfold isName at h
  simp only [Bool.and_eq_true, decide_eq_true_eq] at h
  exact h.2.2.1
theorem isDig_len {s : List UInt8} (h : isDig s = true) : s.length = 64 := by
  unfold isDig at h
  simp only [Bool.and_eq_true, beq_iff_eq] at h
  exact h.2
theorem chk_all {l : List NodeV} (h : chkLoop l = 0) : ∀ n ∈ l, nodeE n = 0 := by
  have key : ∀ (l : List NodeV) (e : Nat), l.foldl chkF e = 0 → e = 0 ∧ ∀ n ∈ l, nodeE n = 0 := by
    intro l
    induction l with
    | nil => intro e h; exact ⟨h, fun n hn => by cases hn⟩
    | cons a r ih =>
      intro e h
      obtain ⟨h1, h2⟩ := ih _ h
      by_cases he : e = 0
      · refine ⟨he, fun n hn => ?_⟩
        rw [chkF, if_pos he] at h1
        rcases List.mem_cons.1 hn with rfl | hn
        · exact h1
        · exact h2 n hn
      · rw [chkF, if_neg he] at h1; exact absurd h1 he
  exact (key l 0 h).2
theorem chk_fit {l : List NodeV} (h : chkN l = 0) : NodesFit l := by
  unfold chkN at h
  split at h
  · cases h
  · rename_i h60
    split at h
    · rename_i h0
      have ha := chk_all h0
      have hn : ∀ n ∈ l, (isName n.name && isDig n.dig) = true ∧ ¬ (n.kind < 1 ∨ 3 < n.kind) := fun n hn => by
        have := ha n hn
        unfold nodeE at this
        split at this
        · rename_i h1
          split at this
          · cases this
          · exact ⟨h1, by assumption⟩
        · cases this
      refine ⟨by omega, fun n hm => isName_len ?_, fun n hm => ?_, fun n hm => isDig_len ?_⟩
      · have := (hn n hm).1; simp only [Bool.and_eq_true] at this; exact this.1
      · have := (hn n hm).2; omega
      · have := (hn n hm).1; simp only [Bool.and_eq_true] at this; exact this.2
    · rename_i h0; exact absurd h h0
theorem packT_len (s : List UInt8) : (packT s).length ≤ s.length + 10 := by
  have := packN_len 9 s.length
  simp only [packT, List.length_append]; omega
theorem packNode_len {n : NodeV} (h1 : n.name.length ≤ 20) (h2 : n.dig.length = 64) : (packNode n).length ≤ 114 := by
  have a := packT_len n.name
  have b := packT_len n.dig
  have c := packN_len 9 n.kind.toNat
  simp only [packNode, List.length_append]; omega
theorem packNs_len {l : List NodeV} (h1 : ∀ n ∈ l, n.name.length ≤ 20) (h2 : ∀ n ∈ l, n.dig.length = 64) : (l.flatMap packNode).length ≤ l.length * 114 := by
  induction l with
  | nil => simp
  | cons a r ih =>
    have := ih (fun n hn => h1 n (List.mem_cons_of_mem _ hn)) (fun n hn => h2 n (List.mem_cons_of_mem _ hn))
    have := packNode_len (h1 a (List.mem_cons_self ..)) (h2 a (List.mem_cons_self ..))
    rw [List.flatMap_cons, List.length_append, List.length_cons]; omega
theorem PackNodes_ok {st fl : Bool} (l : List NodeV) (hl : NodesFit l) : Calc cx 89 [.sl st fl 3 (nodes l)] (.str (packNs l)) :=
  pure_intro (fun a w => Tryz.call89 a w) Tryz.func89 rfl Tryz.ntmps89 rfl .str fun B => by
    have hnl := nodes_len l
    have h60 := hl.len
    refine ab 1000 rfl trivial ?_
    refine S_pure rfl rfl rfl (PackNumber_ok (nodes l).length (by omega)) (.cons (.refl .int) (.nil _)) ?_
    rw [hnl]
    refine ab 1000 rfl trivial ?_
    refine S_while (α := Nat) (fun i => [(0, .sl st fl 3 (nodes l)), (3, .str (packN 9 l.length ++ (l.take i).flatMap packNode)), (4, .int .i64 (i : Nat))]) (fun _ => []) (fun i => i ≤ l.length) (fun i => l.length - i) 0
      (Nat.zero_le _) (.cons rfl (.cons (by simp; rfl) (.cons rfl (.nil _)))) rfl ?_
    intro i hi
    have hpl := packN_len 9 l.length
    have hfl := packNs_len (l := l.take i) (fun n h => hl.name n (List.mem_of_mem_take h)) (fun n h => hl.dig n (List.mem_of_mem_take h))
    have htk : (l.take i).length = i := by simp; omega
    refine ab 1000 rfl trivial ?_
    refine S_dec rfl (fun hil => ?_) (fun hil => ?_)
    · have hil : i < l.length := by have : (i : Int) < ((nodes l).length : Nat) := hil; omega
      obtain ⟨n, hn⟩ : ∃ n, n = l[i] := ⟨_, rfl⟩
      have hget : (nodes l)[(i : Int).toNat]? = some (nodeAV n) := by rw [Int.toNat_natCast, hn]; exact nodes_get hil
      have hm : n ∈ l := by rw [hn]; exact List.getElem_mem hil
      obtain ⟨k, hk⟩ := Int.eq_ofNat_of_zero_le (show 0 ≤ n.kind by have := hl.kind n hm; omega)
      have hk3 : k ≤ 3 := by have := hl.kind n hm; omega
      have hnn := hl.name n hm
      have hnd := hl.dig n hm
      have l1 := packT_len n.name
      have l2 := packT_len n.dig
      have l3 := packN_len 9 k
      refine ab 1000 rfl trivial ?_
      refine S_draw 22 [] [nodeAV n, .str (packT n.name), nodeAV n, .str (packN 9 k), nodeAV n, .str (packT n.dig)] rfl rfl rfl rfl ?_ ?_
      · have lT : (packT n.name ++ packN 9 k).length ≤ 60 := by simp only [List.length_append]; omega
        have lA : ((packT n.name ++ packN 9 k) ++ packT n.dig).length ≤ 140 := by simp only [List.length_append] at *; omega
        refine ⟨rfl, rfl, rfl, rfl, by omega, hget, rfl, rfl, ⟨_, PackText_ok n.name (by omega), .cons (.refl .str) (.nil _)⟩, rfl, rfl, rfl, by omega, hget, rfl, rfl, ⟨_, PackNumber_ok k (by omega), .cons (by rw [← hk]; exact .refl .int) (.nil _)⟩, rfl, ?_, rfl, rfl, rfl, by omega, hget, rfl, rfl, ⟨_, PackText_ok n.dig (by omega), .cons (.refl .str) (.nil _)⟩, rfl, ?_, rfl, ?_, trivial⟩
        · simp only [List.length_append] at *; omega
        · simp only [List.length_append] at *; omega
        · simp only [List.length_append] at *; omega
      refine ab 1000 rfl trivial ?_
      refine S_round (i + 1) (by show l.length - (i + 1) < l.length - i; omega) hil (.cons rfl (.cons ?_ (.cons (ai64 rfl (by omega)) (.nil _)))) rfl
      show AV.str ((packN 9 l.length ++ (l.take i).flatMap packNode) ++ ((packT n.name ++ packN 9 k) ++ packT n.dig)) = _
      have hp : packNode n = (packT n.name ++ packN 9 k) ++ packT n.dig := by rw [packNode, hk, Int.toNat_natCast]
      rw [List.take_succ_eq_append_getElem hil, ← hn, List.flatMap_append, List.flatMap_cons, List.flatMap_nil, List.append_nil, List.append_assoc, hp]
    · have hil : i = l.length := by have : ¬ (i : Int) < ((nodes l).length : Nat) := hil; omega
      refine ab 1000 rfl trivial ?_
      refine S_retc .str rfl trivial ?_
      rw [hil, List.take_length]; rfl
end Go.Proofs.YtjkeekbfgnmngaaGreatDoor
end
section
set_option linter.unusedVariables false
set_option linter.unusedSimpArgs false
set_option maxRecDepth 20000
namespace Go.Proofs.YtjkeekbfgnmngaaGreatDoor
open Go Go.Ab
theorem nodeName_ok (n : NodeV) : Calc cx 112 [nodeAV n] (.str n.name) :=
  pure_intro (fun a w => Tryz.call112 a w) Tryz.func112 rfl Tryz.ntmps112 rfl .str fun B => by
    refine ab 1000 rfl ⟨rfl, trivial⟩ ?_
    exact S_retc .str rfl trivial rfl
theorem rises_ok {st fl : Bool} (l : List NodeV) (hl : l.length ≤ 9223372036854775807) : Calc cx 111 [.sl st fl 3 (nodes l), .func (.func 112) [] []] (.bool (riseB (l.map NodeV.name))) :=
  pure_intro (fun a w => Tryz.call111 a w) Tryz.func111 rfl Tryz.ntmps111 rfl .bool fun B => by
    refine ab 1000 rfl trivial ?_
    have hnl := nodes_len l
    have hml : (l.map NodeV.name).length = l.length := by simp
    refine S_while (α := Nat) (fun i => [(0, .sl st fl 3 (nodes l)), (1, .func (.func 112) [] []), (5, .int .i64 (i : Nat))]) (fun _ => []) (fun i => 1 ≤ i ∧ (i = 1 ∨ i ≤ l.length) ∧ (List.range i).all (riseP (l.map NodeV.name)) = true) (fun i => l.length + 1 - i) 1
      ⟨Nat.le_refl _, .inl rfl, rfl⟩ (.cons rfl (.cons rfl (.cons rfl (.nil _)))) rfl ?_
    rintro i ⟨h1, h2, hN⟩
    refine ab 1000 rfl trivial ?_
    refine S_dec rfl (fun hil => ?_) (fun hil => ?_)
    · have hil : i < l.length := by have : (i : Int) < ((nodes l).length : Nat) := hil; omega
      have hil' : i - 1 < l.length := by omega
      have hw : IntKind.i64.wrap ((i : Int) - 1) = ((i - 1 : Nat) : Int) := w64 (by omega) (by omega)
      have g1 : l[i].name = (l.map NodeV.name).getD i [] := by simp [List.getD, hil]
      have g2 : l[i - 1].name = (l.map NodeV.name).getD (i - 1) [] := by simp [List.getD, hil']
      refine ab 1000 rfl trivial ?_
      refine S_draw 14 [] [nodeAV l[i], .str l[i].name, nodeAV l[i - 1], .str l[i - 1].name] rfl rfl rfl rfl ⟨rfl, rfl, rfl, rfl, by omega, by rw [Int.toNat_natCast]; exact nodes_get hil, rfl, ⟨_, nodeName_ok l[i], .cons (.refl (nodeAV_free _)) (.nil _)⟩, rfl, rfl, rfl, rfl, rfl, by rw [hw]; omega, by rw [hw, Int.toNat_natCast]; exact nodes_get hil', rfl, ⟨_, nodeName_ok l[i - 1], .cons (.refl (nodeAV_free _)) (.nil _)⟩, rfl, trivial⟩ ?_
      refine ab 1000 rfl trivial ?_
      refine S_cond rfl (fun h => ?_) (fun h => ?_)
      · have h : leS l[i].name l[i - 1].name = true := h
        rw [g1, g2] at h
        refine ab 1000 rfl trivial ?_
        refine S_retc .bool rfl trivial ?_
        rw [rise_no (by omega) h1 h]; rfl
      · have h : leS l[i].name l[i - 1].name = false := h
        rw [g1, g2] at h
        refine ab 1000 rfl trivial ?_
        exact S_round (i + 1) (by show l.length + 1 - (i + 1) < l.length + 1 - i; omega) ⟨by omega, .inr (by omega), rise_step hN h⟩ (.cons rfl (.cons rfl (.cons (ai64 rfl (by omega)) (.nil _)))) rfl
    · have hil : ¬ i < l.length := by have : ¬ (i : Int) < ((nodes l).length : Nat) := hil; omega
      refine ab 1000 rfl trivial ?_
      refine S_retc .bool rfl trivial ?_
      have : riseB (l.map NodeV.name) = true := by
        rcases Nat.eq_zero_or_pos l.length with h | h
        · rw [riseB, hml, h]; rfl
        · rw [riseB, hml, show l.length = i by omega]; exact hN
      rw [this]; rfl
end Go.Proofs.YtjkeekbfgnmngaaGreatDoor
end
section
set_option linter.unusedVariables false
set_option linter.unusedSimpArgs false
set_option maxRecDepth 20000
namespace Go.Proofs.YtjkeekbfgnmngaaGreatDoor
open Go Go.Ab
theorem fails_eq (n : NodeV) (e : Nat) : failE (decide (n.kind < 1 ∨ 3 < n.kind)) 7 (failE (!(isName n.name && isDig n.dig)) 1 e) = chkF e n := by
  unfold failE chkF nodeE
  cases (isName n.name && isDig n.dig) <;> by_cases hk : n.kind < 1 ∨ 3 < n.kind <;> by_cases he : e = 0 <;> simp [hk, he]
theorem Nodes_ok {st fl : Bool} (l : List NodeV) (hl : NodesOk l) : Calc cx 83 [.sl st fl 3 (nodes l)] (.tup [.str (if chkN l = 0 then packNs l else []), .int .i64 (chkN l : Nat)]) :=
  pure_intro (fun a w => Tryz.call83 a w) Tryz.func83 rfl Tryz.ntmps83 rfl (ans_free _ _) fun B => by
    have hnl := nodes_len l
    refine ab 1000 rfl trivial ?_
    refine S_ghost 1 ⟨false, some 5⟩ (id := 0) (j := 1) rfl rfl rfl (show (0 : Nat) ≠ 1 by decide) ⟨.skip, _, .inr ⟨_, _, _, rfl⟩⟩ ?_
    by_cases h60 : 60 < l.length
    · have hc : chkN l = 2 := by rw [chkN, if_pos h60]
      rw [hc, if_neg (by decide)]
      refine S_pk 0 1 rfl rfl rfl rfl rfl rfl (.inl rfl) (show [AV.bool (decide (((nodes l).length : Int) > 60)), .int .i64 2] = [.bool true, .int .i64 2] by rw [decide_eq_true (by omega)]) free_bi (fun a ha => fail_ok 0 0 a ha [] true 2 0) free_u (fun u1 a1 ha1 => ?_)
      refine ab 1000 rfl ⟨rfl, trivial⟩ ?_
      refine S_bne rfl (fun _ => ?_) (fun h => absurd (show ((2 : Nat) : Int) = 0 from h) (by decide))
      refine ab 1000 rfl trivial ?_
      refine S_doneE (e := 2) 0 1 rfl rfl rfl rfl rfl rfl ha1 (by decide) ?_
      refine ab 1000 rfl trivial ?_
      exact S_retc (ans_free _ _) rfl trivial rfl
    refine S_pk 0 1 rfl rfl rfl rfl rfl rfl (.inl rfl) (show [AV.bool (decide (((nodes l).length : Int) > 60)), .int .i64 2] = [.bool false, .int .i64 2] by rw [decide_eq_false (by omega)]) free_bi (fun a ha => fail_ok 0 0 a ha [] false 2 0) free_u (fun u1 a1 ha1 => ?_)
    refine ab 1000 rfl ⟨rfl, trivial⟩ ?_
    refine S_bne rfl (fun h => absurd (show ((0 : Nat) : Int) = 0 from rfl) h) (fun _ => ?_)
    refine ab 1000 rfl trivial ?_
    refine S_dead ?_ ⟨_, _, .inl rfl⟩
    refine S_while (α := Nat × Nat × AV × Nat) (fun (i, u, a, b) => [(0, .sl st fl 3 (nodes l)), (4, .ptr 0 0 0), (25, .sl st fl 3 (nodes l)), (26, .int .i64 ((nodes l).length : Nat)), (27, .int .i64 (i : Nat))])
      (fun (i, u, a, b) => [pkB 0 1 0 u a [] ((l.take i).foldl chkF 0), byB u [], (b, none)]) (fun (i, u, a, b) => i ≤ l.length ∧ (a = .nilp ∨ a = .ptr 0 0 0)) (fun (i, u, a, b) => l.length - i) (0, u1, a1, 0)
      ⟨Nat.zero_le _, ha1⟩ (.cons rfl (.cons rfl (.cons rfl (.cons rfl (.cons rfl (.nil _)))))) rfl ?_
    rintro ⟨i, u, a, b⟩ ⟨hi, ha⟩
    have hi : i ≤ l.length := hi
    refine ab 1000 rfl trivial ?_
    refine S_dec rfl (fun hil => ?_) (fun hil => ?_)
    · have hil : i < l.length := by have : (i : Int) < ((nodes l).length : Nat) := hil; omega
      obtain ⟨n, hn⟩ : ∃ n, n = l[i] := ⟨_, rfl⟩
      have hget : (nodes l)[(i : Int).toNat]? = some (nodeAV n) := by rw [Int.toNat_natCast, hn]; exact nodes_get hil
      have hm : n ∈ l := by rw [hn]; exact List.getElem_mem hil
      obtain ⟨e, he⟩ : ∃ e, e = (l.take i).foldl chkF 0 := ⟨_, rfl⟩
      refine S_heap [pkB 0 1 0 u a [] e, byB u [], (b, none)] (by rw [he]) ?_
      refine ab 1000 rfl trivial ?_
      refine S_index (nodeAV n) rfl rfl rfl ⟨rfl, by omega, hget, trivial⟩ ?_
      refine ab 1000 rfl ⟨rfl, lble rfl, rfl, trivial⟩ ?_
      refine S_heap [pkB 0 1 0 u a [] e, byB u [], (b + 1, some (.cells [.str n.name, .int .i64 n.kind, .str n.dig] ⟨false, some 125⟩))] rfl ?_
      refine S_pure rfl rfl rfl (isName_ok n.name (hl.name n hm)) (.cons (.refl .str) (.nil _)) ?_
      refine ab 1000 rfl trivial ?_
      refine S_split 5 (fun fr σ => Weak fr [(0, .sl st fl 3 (nodes l)), (4, .ptr 0 0 0), (25, .sl st fl 3 (nodes l)), (26, .int .i64 ((nodes l).length : Nat)), (27, .int .i64 (i : Nat)), (6, .ptr 2 (b + 1) 0), (31, .ptr 0 0 0), (41, .bool !(isName n.name && isDig n.dig))] ∧ σ = [pkB 0 1 0 u a [] e, byB u [], (b + 1, some (.cells [.str n.name, .int .i64 n.kind, .str n.dig] ⟨false, some 125⟩))]) ?_ ?_
      · refine S_guard rfl rfl rfl rfl (fun h => ?_) (fun h => ?_)
        · have h : isName n.name = false := by simpa using (show (!isName n.name) = true from h)
          refine ab 1000 rfl trivial ?_
          exact S_inv ⟨(.cons rfl (.cons rfl (.cons rfl (.cons rfl (.cons rfl (.cons rfl (.cons rfl (.cons (by rw [h]; rfl) (.nil _))))))))), rfl⟩
        · have h : isName n.name = true := by simpa using (show (!isName n.name) = false from h)
          refine ab 1000 rfl ⟨rfl, trivial⟩ ?_
          refine S_pure rfl rfl rfl (digestIs_ok n.dig (hl.dig n hm)) (.cons (.refl .str) (.nil _)) ?_
          refine ab 1000 rfl trivial ?_
          exact S_inv ⟨(.cons rfl (.cons rfl (.cons rfl (.cons rfl (.cons rfl (.cons rfl (.cons rfl (.cons (by rw [h]; rfl) (.nil _))))))))), rfl⟩
      rintro fr σ ⟨hw, rfl⟩
      refine S_opsW hw ?_
      refine S_pk 0 1 rfl rfl rfl rfl rfl rfl ha rfl free_bi (fun a ha => fail_ok 0 u a ha [] (!(isName n.name && isDig n.dig)) 1 e) free_u (fun u2 a2 ha2 => ?_)
      refine ab 1000 rfl ⟨rfl, trivial⟩ ?_
      refine S_split 4 (fun fr σ => Weak fr [(0, .sl st fl 3 (nodes l)), (4, .ptr 0 0 0), (25, .sl st fl 3 (nodes l)), (26, .int .i64 ((nodes l).length : Nat)), (27, .int .i64 (i : Nat)), (6, .ptr 2 (b + 1) 0), (43, .ptr 0 0 0), (51, .bool (decide (n.kind < 1 ∨ 3 < n.kind)))] ∧ σ = [pkB 0 1 0 u2 a2 [] (failE (!(isName n.name && isDig n.dig)) 1 e), byB u2 [], (b + 1, some (.cells [.str n.name, .int .i64 n.kind, .str n.dig] ⟨false, some 125⟩))]) ?_ ?_
      · refine S_guard rfl rfl rfl rfl (fun h => ?_) (fun h => ?_)
        · have h : n.kind < 1 := of_decide_eq_true h
          refine ab 1000 rfl trivial ?_
          exact S_inv ⟨(.cons rfl (.cons rfl (.cons rfl (.cons rfl (.cons rfl (.cons rfl (.cons rfl (.cons (by show AV.bool true = _; rw [decide_eq_true (.inl h)]) (.nil _))))))))), rfl⟩
        · have h : ¬ n.kind < 1 := of_decide_eq_false h
          refine ab 1000 rfl ⟨rfl, trivial⟩ ?_
          exact S_inv ⟨(.cons rfl (.cons rfl (.cons rfl (.cons rfl (.cons rfl (.cons rfl (.cons rfl (.cons (by show AV.bool (decide (3 < n.kind)) = _; exact congrArg AV.bool (decide_eq_decide.2 ⟨fun h => .inr h, fun h2 => h2.resolve_left h⟩)) (.nil _))))))))), rfl⟩
      rintro fr σ ⟨hw, rfl⟩
      refine S_opsW hw ?_
      refine S_pk 0 1 rfl rfl rfl rfl rfl rfl ha2 rfl free_bi (fun a ha => fail_ok 0 u2 a ha [] (decide (n.kind < 1 ∨ 3 < n.kind)) 7 (failE (!(isName n.name && isDig n.dig)) 1 e)) free_u (fun u3 a3 ha3 => ?_)
      rw [fails_eq]
      refine S_drop (id := 2) rfl ?_ ⟨.skip, _, .inr ⟨_, _, _, rfl⟩⟩
      refine ab 1000 rfl trivial ?_
      refine S_round (i + 1, u3, a3, b + 1) (by show l.length - (i + 1) < l.length - i; omega) ⟨hil, ha3⟩ (.cons rfl (.cons rfl (.cons rfl (.cons rfl (.cons (ai64 rfl (by omega)) (.nil _)))))) ?_
      show [pkB 0 1 0 u3 a3 [] (chkF e n), byB u3 [], (b + 1, none)] = [pkB 0 1 0 u3 a3 [] ((l.take (i + 1)).foldl chkF 0), byB u3 [], (b + 1, none)]
      rw [chk_step hil, ← hn, ← he]
    · have hil : i = l.length := by have : ¬ (i : Int) < ((nodes l).length : Nat) := hil; omega
      refine S_heap [pkB 0 1 0 u a [] (chkLoop l), byB u [], (b, none)] (by rw [hil, List.take_length]; rfl) ?_
      refine ab 1000 rfl trivial ?_
      refine S_pure rfl rfl rfl (rises_ok l hl.len) (.cons (.refl (.sl (fun h => by cases h) (nodes_any l))) (.cons (.refl (.func (fun x h => by cases h) (fun x h => by cases h))) (.nil _))) ?_
      refine ab 1000 rfl trivial ?_
      refine S_pk 0 1 rfl rfl rfl rfl rfl rfl ha rfl free_bi (fun a ha => fail_ok 0 u a ha [] (!riseB (l.map NodeV.name)) 6 (chkLoop l)) free_u (fun u4 a4 ha4 => ?_)
      have hE : failE (!riseB (l.map NodeV.name)) 6 (chkLoop l) = chkN l := by
        unfold failE chkN
        cases riseB (l.map NodeV.name) <;> by_cases he : chkLoop l = 0 <;> simp [he, h60]
      rw [hE]
      refine ab 1000 rfl ⟨rfl, trivial⟩ ?_
      refine S_bne rfl (fun h => ?_) (fun h => ?_)
      · have he : chkN l ≠ 0 := by have : ((chkN l : Nat) : Int) ≠ 0 := h; omega
        rw [if_neg he]
        refine ab 1000 rfl trivial ?_
        refine S_doneE 0 1 rfl rfl rfl rfl rfl rfl ha4 he ?_
        refine ab 1000 rfl trivial ?_
        exact S_retc (ans_free _ _) rfl trivial rfl
      have hc : chkN l = 0 := by have : ((chkN l : Nat) : Int) = 0 := h; omega
      have fit := chk_fit hc
      have hlen := fit.len
      rw [hc, if_pos rfl]
      refine ab 1000 rfl trivial ?_
      refine S_pk 0 1 rfl rfl rfl rfl rfl rfl ha4 (show [AV.int .i64 ((nodes l).length : Nat)] = [.int .i64 (l.length : Nat)] by rw [hnl]) free_i (fun a ha => pnumber_ok 0 u4 a ha [] l.length (by omega) (by decide)) free_u (fun u5 a5 ha5 => ?_)
      refine S_heap [pkB 0 1 0 u5 a5 (packN 9 l.length ++ (l.take 0).flatMap packNode) 0, byB u5 (packN 9 l.length ++ (l.take 0).flatMap packNode), (b, none)] (by rw [List.take_zero, List.flatMap_nil, List.append_nil, List.nil_append]; rfl) ?_
      refine ab 1000 rfl trivial ?_
      refine S_while (α := Nat × Nat × AV × Nat) (fun (i, u, a, b) => [(0, .sl st fl 3 (nodes l)), (4, .ptr 0 0 0), (72, .sl st fl 3 (nodes l)), (73, .int .i64 ((nodes l).length : Nat)), (74, .int .i64 (i : Nat))])
        (fun (i, u, a, b) => [pkB 0 1 0 u a (packN 9 l.length ++ (l.take i).flatMap packNode) 0, byB u (packN 9 l.length ++ (l.take i).flatMap packNode), (b, none)]) (fun (i, u, a, b) => i ≤ l.length ∧ (a = .nilp ∨ a = .ptr 0 0 0)) (fun (i, u, a, b) => l.length - i) (0, u5, a5, b)
        ⟨Nat.zero_le _, ha5⟩ (.cons rfl (.cons rfl (.cons rfl (.cons rfl (.cons rfl (.nil _)))))) rfl ?_
      rintro ⟨i, u, a, b⟩ ⟨hi, ha⟩
      have hi : i ≤ l.length := hi
      have hfl := packNs_len (l := l.take i) (fun n h => fit.name n (List.mem_of_mem_take h)) (fun n h => fit.dig n (List.mem_of_mem_take h))
      have htk : (l.take i).length = i := by simp; omega
      have hpl := packN_len 9 l.length
      obtain ⟨bs, hbs⟩ : ∃ bs, bs = packN 9 l.length ++ (l.take i).flatMap packNode := ⟨_, rfl⟩
      have hbl : bs.length ≤ 10 + 60 * 114 := by rw [hbs, List.length_append]; omega
      refine S_heap [pkB 0 1 0 u a bs 0, byB u bs, (b, none)] (by rw [hbs]) ?_
      refine ab 1000 rfl trivial ?_
      refine S_dec rfl (fun hil => ?_) (fun hil => ?_)
      · have hil : i < l.length := by have : (i : Int) < ((nodes l).length : Nat) := hil; omega
        obtain ⟨n, hn⟩ : ∃ n, n = l[i] := ⟨_, rfl⟩
        have hget : (nodes l)[(i : Int).toNat]? = some (nodeAV n) := by rw [Int.toNat_natCast, hn]; exact nodes_get hil
        have hm : n ∈ l := by rw [hn]; exact List.getElem_mem hil
        obtain ⟨k, hk⟩ := Int.eq_ofNat_of_zero_le (show 0 ≤ n.kind by have := fit.kind n hm; omega)
        have hk3 : k ≤ 3 := by have := fit.kind n hm; omega
        have hnn := fit.name n hm
        have hnd := fit.dig n hm
        have l1 := packT_len n.name
        have l2 := packT_len n.dig
        have l3 := packN_len 9 k
        refine ab 1000 rfl trivial ?_
        refine S_index (nodeAV n) rfl rfl rfl ⟨rfl, by omega, hget, trivial⟩ ?_
        refine ab 1000 rfl ⟨rfl, lble rfl, rfl, trivial⟩ ?_
        refine S_heap [pkB 0 1 0 u a bs 0, byB u bs, (b + 1, some (.cells [.str n.name, .int .i64 n.kind, .str n.dig] ⟨false, some 125⟩))] rfl ?_
        refine S_pk 0 1 rfl rfl rfl rfl rfl rfl ha rfl free_s (fun a ha => ptext_ok 0 u a ha bs n.name (by omega)) free_u (fun u6 a6 ha6 => ?_)
        refine ab 1000 rfl ⟨rfl, trivial⟩ ?_
        refine S_pk 0 1 rfl rfl rfl rfl rfl rfl ha6 (show [AV.int .i64 n.kind] = [.int .i64 (k : Int)] by rw [hk]) free_i (fun a ha => pnumber_ok 0 u6 a ha (bs ++ packT n.name) k (by omega) (by rw [List.length_append]; omega)) free_u (fun u7 a7 ha7 => ?_)
        refine ab 1000 rfl ⟨rfl, trivial⟩ ?_
        refine S_pk 0 1 rfl rfl rfl rfl rfl rfl ha7 rfl free_s (fun a ha => ptext_ok 0 u7 a ha (bs ++ packT n.name ++ packN 9 k) n.dig (by simp only [List.length_append]; omega)) free_u (fun u8 a8 ha8 => ?_)
        refine S_drop (id := 2) rfl ?_ ⟨.skip, _, .inr ⟨_, _, _, rfl⟩⟩
        refine ab 1000 rfl trivial ?_
        refine S_round (i + 1, u8, a8, b + 1) (by show l.length - (i + 1) < l.length - i; omega) ⟨hil, ha8⟩ (.cons rfl (.cons rfl (.cons rfl (.cons rfl (.cons (ai64 rfl (by omega)) (.nil _)))))) ?_
        have hq : packN 9 l.length ++ (l.take (i + 1)).flatMap packNode = bs ++ packT n.name ++ packN 9 k ++ packT n.dig := by
          rw [List.take_succ_eq_append_getElem hil, ← hn, List.flatMap_append, List.flatMap_cons, List.flatMap_nil, List.append_nil, hbs, packNode, hk, Int.toNat_natCast]
          simp only [List.append_assoc]
        show [pkB 0 1 0 u8 a8 (bs ++ packT n.name ++ packN 9 k ++ packT n.dig) 0, byB u8 (bs ++ packT n.name ++ packN 9 k ++ packT n.dig), (b + 1, none)] = [pkB 0 1 0 u8 a8 (packN 9 l.length ++ (l.take (i + 1)).flatMap packNode) 0, byB u8 (packN 9 l.length ++ (l.take (i + 1)).flatMap packNode), (b + 1, none)]
        rw [hq]
      · have hil : i = l.length := by have : ¬ (i : Int) < ((nodes l).length : Nat) := hil; omega
        have hq : packNs l = bs := by rw [hbs, hil, List.take_length]; rfl
        rw [hq]
        refine ab 1000 rfl trivial ?_
        refine S_done0 0 1 rfl rfl rfl rfl rfl rfl ha (by rw [hbs]; simp [packN_ne]) (by omega) ?_
        refine ab 1000 rfl trivial ?_
        exact S_retc (ans_free _ _) rfl trivial rfl
end Go.Proofs.YtjkeekbfgnmngaaGreatDoor
end
section
set_option linter.unusedVariables false
set_option linter.unusedSimpArgs false
namespace Go.Ab
open Go
def MapIs (r : Rl) (w : World) (es : Array MapEntry) (clock : Nat) (kvs : List (AV × AV)) (st : Option (List Nat × Nat)) : Prop :=
  es.size = kvs.length ∧ (∀ i (h : i < kvs.length), ∃ e, es[i]? = some e ∧ VRel r w e.key kvs[i].1 ∧ VRel r w e.val kvs[i].2) ∧
    (∀ (i j : Nat) (e f : MapEntry), es[i]? = some e → es[j]? = some f → e.born = f.born → i = j) ∧ (∀ (i : Nat) (e : MapEntry), es[i]? = some e → e.born < clock) ∧ (∀ bs c, st = some (bs, c) → es.toList.map MapEntry.born = bs ∧ clock = c)
theorem MapIs.mono {r r' : Rl} {w w' : World} {es : Array MapEntry} {clock : Nat} {kvs : List (AV × AV)} {st : Option (List Nat × Nat)} (g : Grow r w r' w') (h : MapIs r w es clock kvs st) : MapIs r' w' es clock kvs st := by
  obtain ⟨h1, h2, h3⟩ := h
  refine ⟨h1, fun i hi => ?_, h3⟩
  obtain ⟨e, he, hk, hv⟩ := h2 i hi
  exact ⟨e, he, hk.mono g, hv.mono g⟩
theorem Inv.mapAt {cx : Cx} {r : Rl} {σ : Heap} {w : World} {id ver : Nat} {kvs : List (AV × AV)} {st : Option (List Nat × Nat)} {z : Value} (hi : Inv cx r σ w) (hσ : σ[id]? = some (ver, some (.map kvs st))) (hz : VRel r w z (.map id ver)) :
    ∃ b es clock, z = .map (some b) ∧ r.ρ id ver = some (b, 0) ∧ w.heap[b]? = some (.map es clock) ∧ MapIs r w es clock kvs st := by
  rcases hi.box id ver _ hσ with ⟨b, o', hρ, hb⟩ | ⟨_, ro, h⟩
  · obtain ⟨rfl, es, clock, h1, h2⟩ := hb
    cases hz with
    | map h => rw [hρ] at h; cases h; exact ⟨b, es, clock, rfl, hρ, h1, h2⟩
  · cases h
theorem Inv.mapSet {cx : Cx} {r : Rl} {σ : Heap} {w : World} {id ver b : Nat} {kvs kvs' : List (AV × AV)} {st st' : Option (List Nat × Nat)} {es es' : Array MapEntry} {clock clock' : Nat} (hi : Inv cx r σ w) (hσ : σ[id]? = some (ver, some (.map kvs st)))
    (hρ : r.ρ id ver = some (b, 0)) (hb : w.heap[b]? = some (.map es clock)) (hm : MapIs r w es' clock' kvs' st') :
    ∃ r', Inv cx r' (σ.set id (ver, some (.map kvs' st'))) { w with heap := w.heap.setIfInBounds b (.map es' clock') } ∧ Ext r σ w r' (σ.set id (ver, some (.map kvs' st'))) { w with heap := w.heap.setIfInBounds b (.map es' clock') } := by
  have hid : id < σ.length := by
    rcases Nat.lt_or_ge id σ.length with h | h
    · exact h
    · rw [List.getElem?_eq_none h] at hσ; cases hσ
  have hbb : b < w.heap.size := by
    rcases Nat.lt_or_ge b w.heap.size with h | h
    · exact h
    · rw [Array.getElem?_eq_none h] at hb; cases hb
  have hu := hi.update (σ' := σ.set id (ver, some (.map kvs' st'))) (id := id) (ver := ver) (b := b) (o := 0) (x := .map kvs' st') (w' := { w with heap := w.heap.setIfInBounds b (.map es' clock') })
      (by simp [hid]) (fun j hj => by rw [List.getElem?_set, if_neg (Ne.symm hj)]) (fun c2 y hy => by rw [hσ] at hy; cases hy; exact .inr ⟨rfl, hρ⟩) (.inr ⟨ver, _, 0, hσ, hρ⟩)
      (fun k hk hkb => by simp [Array.getElem?_setIfInBounds, Ne.symm hkb]) (by simp) (fun c2 t2 f2 hc2 => by rw [hb] at hc2; cases hc2) rfl rfl rfl
      (fun g => ⟨rfl, es', clock', by simp [Array.getElem?_setIfInBounds, hbb], hm.mono g⟩)
  exact ⟨_, hu⟩
def sameK : AV → AV → Option Bool
  | .str a, .str b => some (a == b)
  | .int k a, .int j b => match kindEq k j with | true => some (a == b) | false => none
  | .bool a, .bool b => some (a == b)
  | _, _ => none
def findK (key : AV) : List (AV × AV) → Nat → Option (Option (Nat × AV))
  | [], _ => some none
  | e :: r, i => match sameK key e.1 with
    | some true => some (some (i, e.2))
    | some false => findK key r (i + 1)
    | none => none
def keyFits (P : Program) (k : TypeId) (key : AV) : Bool := match P.underlying k, key with
  | some .string, .str _ => true
  | some (.int _), .int _ _ => true
  | some .bool, .bool _ => true
  | _, _ => false
theorem sameK_run {r : Rl} {w : World} {d : TypeDesc} {key k : Value} {a b : AV} {t : Bool} (hd : (d = .string ∧ ∃ s, a = .str s) ∨ (∃ j, d = .int j ∧ ∃ n m, a = .int n m) ∨ (d = .bool ∧ ∃ x, a = .bool x)) (h : sameK a b = some t) (ha : VRel r w key a) (hb : VRel r w k b) :
    Instr.sameNow d key k = some t ∧ (t = true → Instr.sameBits 10000 k key = true) := by
  rcases hd with ⟨rfl, s, rfl⟩ | ⟨j, rfl, n, m, rfl⟩ | ⟨rfl, x, rfl⟩
  · unfold sameK at h
    split at h <;> try (cases h; done)
    · rename_i a1 b1 e1
      cases e1
      simp only [Option.some.injEq] at h
      cases ha with
      | str ha =>
        cases hb with
        | str hb =>
          rename_i x y
          have hxy : (x == y) = t := by
            rw [← h, ← ha, ← hb, Bool.eq_iff_iff, MapKept.bytes_beq]
            simp only [beq_iff_eq, Array.toList_inj]
            exact ⟨fun h => by rw [h], fun h => ByteArray.ext h⟩
          refine ⟨by simp only [Instr.sameNow, hxy], fun ht => ?_⟩
          rw [ht] at hxy
          obtain rfl := (MapKept.bytes_beq _ _).1 hxy
          unfold Instr.sameBits
          exact (MapKept.bytes_beq _ _).2 rfl
    · rename_i e1; cases e1
    · rename_i e1; cases e1
  · unfold sameK at h
    split at h <;> try (cases h; done)
    · rename_i e1; cases e1
    · rename_i k1 a1 j1 b1 e1
      cases e1
      split at h
      · rename_i hk
        have hk := kindEq_eq hk
        subst hk
        simp only [Option.some.injEq] at h
        cases ha; cases hb
        refine ⟨by simp [Instr.sameNow, h], fun ht => ?_⟩
        rw [ht] at h
        have h := eq_of_beq h
        subst h
        simp [Instr.sameBits]
      · cases h
    · rename_i e1; cases e1
  · unfold sameK at h
    split at h <;> try (cases h; done)
    · rename_i e1; cases e1
    · rename_i e1; cases e1
    · rename_i e1
      cases e1
      simp only [Option.some.injEq] at h
      cases ha; cases hb
      refine ⟨by simp [Instr.sameNow, h], fun ht => ?_⟩
      rw [ht] at h
      have h := eq_of_beq h
      subst h
      simp [Instr.sameBits]
theorem findK_run {r : Rl} {w : World} {d : TypeDesc} {key : Value} {a : AV} (hd : (d = .string ∧ ∃ s, a = .str s) ∨ (∃ j, d = .int j ∧ ∃ n m, a = .int n m) ∨ (d = .bool ∧ ∃ x, a = .bool x)) (ha : VRel r w key a) :
    ∀ (l : List MapEntry) (kvs : List (AV × AV)) (i : Nat) (res : Option (Nat × AV)), l.length = kvs.length → (∀ j (h : j < kvs.length), ∃ e, l[j]? = some e ∧ VRel r w e.key kvs[j].1 ∧ VRel r w e.val kvs[j].2) → findK a kvs i = some res →
    (res = none ∧ Instr.findNow d key l i = some none) ∨ ∃ j v e, res = some (i + j, v) ∧ l[j]? = some e ∧ Instr.findNow d key l i = some (some (i + j, e.val)) ∧ VRel r w e.val v ∧ Instr.sameBits 10000 e.key key = true ∧ j < kvs.length
  | [], [], i, res, _, _, h => by
    simp only [findK, Option.some.injEq] at h
    exact .inl ⟨h.symm, rfl⟩
  | [], _ :: _, _, _, hl, _, _ => by simp at hl
  | _ :: _, [], _, _, hl, _, _ => by simp at hl
  | e :: l, p :: kvs, i, res, hl, hr, h => by
    obtain ⟨e0, q1, q2, q3⟩ := hr 0 (by simp)
    simp only [List.getElem?_cons_zero, Option.some.injEq, List.getElem_cons_zero] at q1 q2 q3
    subst q1
    unfold findK at h
    split at h
    · rename_i hs
      simp only [Option.some.injEq] at h
      obtain ⟨s1, s2⟩ := sameK_run hd hs ha q2
      refine .inr ⟨0, p.2, e, by simpa using h.symm, rfl, ?_, q3, s2 rfl, by simp⟩
      unfold Instr.findNow
      rw [s1]; rfl
    · rename_i hs
      obtain ⟨s1, _⟩ := sameK_run hd hs ha q2
      have ih := findK_run hd ha l kvs (i + 1) res (by simpa using hl) (fun j hj => by
        obtain ⟨e', m1, m2, m3⟩ := hr (j + 1) (by simp; omega)
        exact ⟨e', by simpa using m1, by simpa using m2, by simpa using m3⟩) h
      have hf : Instr.findNow d key (e :: l) i = Instr.findNow d key l (i + 1) := by
        conv => lhs; unfold Instr.findNow
        rw [s1]
      rw [hf]
      rcases ih with ⟨h1, h2⟩ | ⟨j, v, e', h1, h2, h3, h4, h5, h6⟩
      · exact .inl ⟨h1, h2⟩
      · refine .inr ⟨j + 1, v, e', ?_, by simpa using h2, ?_, h4, h5, by simp; omega⟩
        · rw [h1]; congr 2; omega
        · rw [h3]; congr 3; omega
    · cases h
theorem keyFits_spec {P : Program} {k : TypeId} {a : AV} (h : keyFits P k a = true) : ∃ d, P.underlying k = some d ∧ ((d = .string ∧ ∃ s, a = .str s) ∨ (∃ j, d = .int j ∧ ∃ n m, a = .int n m) ∨ (d = .bool ∧ ∃ x, a = .bool x)) := by
  unfold keyFits at h
  split at h
  · rename_i h1; exact ⟨_, h1, .inl ⟨rfl, _, rfl⟩⟩
  · rename_i h1; exact ⟨_, h1, .inr (.inl ⟨_, rfl, _, _, rfl⟩)⟩
  · rename_i h1; exact ⟨_, h1, .inr (.inr ⟨rfl, _, rfl⟩)⟩
  · cases h
theorem checkKey_run {P : Program} {w : World} {k : TypeId} {d : TypeDesc} {key : Value} {r : Rl} {a : AV} (e : Bool) (hu : P.underlying k = some d) (hd : (d = .string ∧ ∃ s, a = .str s) ∨ (∃ j, d = .int j ∧ ∃ n m, a = .int n m) ∨ (d = .bool ∧ ∃ x, a = .bool x)) (ha : VRel r w key a) :
    (Instr.checkKey e 10000 k key).run P w = .ok () w := by
  unfold Instr.checkKey
  rcases hd with ⟨rfl, s, rfl⟩ | ⟨j, rfl, n, m, rfl⟩ | ⟨rfl, x, rfl⟩ <;> cases ha <;> simp [run_underlying hu]
def okV (ok : Bool) (v : AV) (t : Bool) : AV := match ok with | true => .tup [v, .bool t] | false => v
def setK (kvs : List (AV × AV)) (key v : AV) (h : Option (Nat × AV)) : List (AV × AV) := match h with
  | some (i, _) => kvs.set i (key, v)
  | none => kvs ++ [(key, v)]
def setB (st : Option (List Nat × Nat)) (h : Option (Nat × AV)) : Option (List Nat × Nat) := match h with
  | some _ => st
  | none => match st with
    | some (bs, c) => some (bs ++ [c], c + 1)
    | none => none
def delK (kvs : List (AV × AV)) (h : Option (Nat × AV)) : List (AV × AV) := match h with
  | some (i, _) => kvs.eraseIdx i
  | none => kvs
def delB (st : Option (List Nat × Nat)) (h : Option (Nat × AV)) : Option (List Nat × Nat) := match h with
  | some (i, _) => match st with
    | some (bs, c) => some (bs.eraseIdx i, c)
    | none => none
  | none => st
def mapA (cx : Cx) (fr : Fr) (σ : Heap) (o : Op) (h : Option (Nat × AV)) : Option (List Prop × AV × Heap) :=
  match o with
  | .lookup t m k ok => match cx.P.underlying t with
    | some (.map kt et) => match keyFits cx.P kt (ev cx fr k) with
      | true => match ev cx fr m with
        | .map id ver => match σ[id]? with
          | some (cur, some (.map kvs _)) => match h with
            | some (_, v) => some ([ver = cur, findK (ev cx fr k) kvs 0 = some h], okV ok v true, σ)
            | none => match zeroV cx.P et with
              | some z => some ([ver = cur, findK (ev cx fr k) kvs 0 = some h], okV ok z false, σ)
              | none => none
          | _ => none
        | _ => none
      | false => none
    | _ => none
  | .mapUpdate t m k x => match cx.P.underlying t with
    | some (.map kt _) => match keyFits cx.P kt (ev cx fr k) with
      | true => match ev cx fr m with
        | .map id ver => match σ[id]? with
          | some (cur, some (.map kvs st)) => some ([ver = cur, findK (ev cx fr k) kvs 0 = some h], .tup [], σ.set id (cur, some (.map (setK kvs (ev cx fr k) (ev cx fr x) h) (setB st h))))
          | _ => none
        | _ => none
      | false => none
    | _ => none
  | .call { callee := .builtin .delete, args := args, argTypes := ts } => match args.toList, ts.toList with
    | [m, k], [t, _] => match cx.P.underlying t with
      | some (.map kt _) => match keyFits cx.P kt (ev cx fr k) with
        | true => match ev cx fr m with
          | .map id ver => match σ[id]? with
            | some (cur, some (.map kvs st)) => some ([ver = cur, findK (ev cx fr k) kvs 0 = some h], .tup [], σ.set id (cur, some (.map (delK kvs h) (delB st h))))
            | _ => none
          | _ => none
        | false => none
      | _ => none
    | _, _ => none
  | _ => none
theorem findKey_run {cx : Cx} {r : Rl} {w : World} {kt : TypeId} {key : Value} {a : AV} {es : Array MapEntry} {clock : Nat} {kvs : List (AV × AV)} {st : Option (List Nat × Nat)} {h : Option (Nat × AV)} (hk : keyFits cx.P kt a = true) (ha : VRel r w key a)
    (hm : MapIs r w es clock kvs st) (hf : findK a kvs 0 = some h) : (∀ e, (Instr.checkKey e 10000 kt key).run cx.P w = .ok () w) ∧
    ((h = none ∧ (Instr.findKey kt key es.toList).run cx.P w = .ok none w) ∨ ∃ j v e, h = some (j, v) ∧ es[j]? = some e ∧ (Instr.findKey kt key es.toList).run cx.P w = .ok (some (j, e.val)) w ∧ VRel r w e.val v ∧ Instr.sameBits 10000 e.key key = true ∧ j < kvs.length) := by
  obtain ⟨d, hu, hd⟩ := keyFits_spec hk
  refine ⟨fun e => checkKey_run e hu hd ha, ?_⟩
  rcases findK_run hd ha es.toList kvs 0 h (by rw [Array.length_toList]; exact hm.1) (fun j hj => by
    obtain ⟨e, h1, h2, h3⟩ := hm.2.1 j hj
    exact ⟨e, by rw [Array.getElem?_toList]; exact h1, h2, h3⟩) hf with ⟨h1, h2⟩ | ⟨j, v, e, h1, h2, h3, h4, h5, h6⟩
  · exact .inl ⟨h1, by simp [Instr.findKey, run_underlying hu, h2]⟩
  · rw [Nat.zero_add] at h1 h3
    rw [Array.getElem?_toList] at h2
    exact .inr ⟨j, v, e, h1, h2, by simp [Instr.findKey, run_underlying hu, h3], h4, h5, h6⟩
theorem MapIs.setK {r : Rl} {w : World} {es : Array MapEntry} {clock : Nat} {kvs : List (AV × AV)} {st : Option (List Nat × Nat)} {key val : Value} {a x : AV} (hm : MapIs r w es clock kvs st) (ha : VRel r w key a) (hx : VRel r w val x) {j : Nat} {v : AV} (hj : j < kvs.length) :
    MapIs r w (es.modify j fun e => { e with key := key, val := val }) clock (Ab.setK kvs a x (some (j, v))) st := by
  obtain ⟨h1, h2, h3, h4, h5⟩ := hm
  have hget : ∀ i, (es.modify j fun e => { e with key := key, val := val })[i]? = if j = i then es[i]?.map (fun e => { e with key := key, val := val }) else es[i]? := fun i => by
    rw [Array.getElem?_modify]
  have hback : ∀ {i : Nat} {e : MapEntry}, (es.modify j fun e => { e with key := key, val := val })[i]? = some e → ∃ e', es[i]? = some e' ∧ e'.born = e.born := by
    intro i e he
    rw [hget] at he
    split at he
    · cases hh : es[i]? with
      | none => rw [hh] at he; cases he
      | some e' => rw [hh] at he; simp at he; exact ⟨e', rfl, by rw [← he]⟩
    · exact ⟨e, he, rfl⟩
  refine ⟨by simpa [Ab.setK] using h1, fun i hi => ?_, fun i i' e f he hf hb => ?_, fun i e he => ?_, fun bs c hst => ?_⟩
  · simp only [Ab.setK, List.length_set] at hi
    obtain ⟨e, q1, q2, q3⟩ := h2 i hi
    simp only [Ab.setK]
    by_cases hij : j = i
    · subst hij
      refine ⟨_, by rw [hget, if_pos rfl, q1]; rfl, ?_, ?_⟩
      · rw [List.getElem_set_self]; exact ha
      · rw [List.getElem_set_self]; exact hx
    · refine ⟨e, by rw [hget, if_neg hij]; exact q1, ?_, ?_⟩
      · rw [List.getElem_set_ne hij]; exact q2
      · rw [List.getElem_set_ne hij]; exact q3
  · obtain ⟨e', k1, k2⟩ := hback he
    obtain ⟨f', k3, k4⟩ := hback hf
    exact h3 i i' e' f' k1 k3 (by rw [k2, k4, hb])
  · obtain ⟨e', k1, k2⟩ := hback he
    rw [← k2]; exact h4 i e' k1
  · obtain ⟨k1, k2⟩ := h5 bs c hst
    refine ⟨?_, k2⟩
    rw [← k1]
    apply List.ext_getElem?
    intro i
    rw [List.getElem?_map, List.getElem?_map, Array.getElem?_toList, Array.getElem?_toList, hget]
    split
    · cases es[i]? <;> rfl
    · rfl
theorem MapIs.pushK {r : Rl} {w : World} {es : Array MapEntry} {clock : Nat} {kvs : List (AV × AV)} {st : Option (List Nat × Nat)} {key val : Value} {a x : AV} (hm : MapIs r w es clock kvs st) (ha : VRel r w key a) (hx : VRel r w val x) :
    MapIs r w (es.push { key := key, val := val, born := clock }) (clock + 1) (Ab.setK kvs a x none) (setB st none) := by
  obtain ⟨h1, h2, h3, h4, h5⟩ := hm
  have hback : ∀ {i : Nat} {e : MapEntry}, (es.push { key := key, val := val, born := clock })[i]? = some e → (es[i]? = some e ∧ e.born < clock) ∨ (i = es.size ∧ e.born = clock) := by
    intro i e he
    rw [Array.getElem?_push] at he
    split at he
    · rename_i hh
      cases he; exact .inr ⟨hh, rfl⟩
    · exact .inl ⟨he, h4 i e he⟩
  refine ⟨by simp [Ab.setK, h1], fun i hi => ?_, fun i i' e f he hf hb => ?_, fun i e he => ?_, fun bs c hst => ?_⟩
  · simp only [Ab.setK, List.length_append, List.length_cons, List.length_nil] at hi
    simp only [Ab.setK]
    by_cases hlt : i < kvs.length
    · obtain ⟨e, q1, q2, q3⟩ := h2 i hlt
      refine ⟨e, by rw [Array.getElem?_push, if_neg (by omega)]; exact q1, ?_, ?_⟩
      · rw [List.getElem_append_left hlt]; exact q2
      · rw [List.getElem_append_left hlt]; exact q3
    · obtain rfl : i = kvs.length := by omega
      refine ⟨_, by rw [Array.getElem?_push, if_pos h1.symm], ?_, ?_⟩
      · rw [List.getElem_append_right (Nat.le_refl _)]; simpa using ha
      · rw [List.getElem_append_right (Nat.le_refl _)]; simpa using hx
  · rcases hback he with ⟨k1, k2⟩ | ⟨k1, k2⟩ <;> rcases hback hf with ⟨k3, k4⟩ | ⟨k3, k4⟩
    · exact h3 i i' e f k1 k3 hb
    · omega
    · omega
    · omega
  · rcases hback he with ⟨k1, k2⟩ | ⟨k1, k2⟩ <;> omega
  · unfold setB at hst
    cases st with
    | none => cases hst
    | some s =>
      obtain ⟨bs0, c00⟩ := s
      cases hst
      obtain ⟨k1, k2⟩ := h5 bs0 c00 rfl
      exact ⟨by rw [Array.toList_push, List.map_append, k1, k2]; rfl, by rw [k2]⟩
theorem MapIs.delK {r : Rl} {w : World} {es : Array MapEntry} {clock : Nat} {kvs : List (AV × AV)} {st : Option (List Nat × Nat)} (hm : MapIs r w es clock kvs st) {j : Nat} {v : AV} (hj : j < kvs.length) :
    MapIs r w (es.eraseIdxIfInBounds j) clock (Ab.delK kvs (some (j, v))) (delB st (some (j, v))) := by
  obtain ⟨h1, h2, h3, h4, h5⟩ := hm
  have hjs : j < es.size := by omega
  have hsub : (es.eraseIdxIfInBounds j).toList = es.toList.eraseIdx j := by
    unfold Array.eraseIdxIfInBounds
    rw [dif_pos hjs]; simp
  have hget : ∀ i, (es.eraseIdxIfInBounds j)[i]? = if i < j then es[i]? else es[i + 1]? := fun i => by
    rw [← Array.getElem?_toList, hsub, List.getElem?_eraseIdx, Array.getElem?_toList, Array.getElem?_toList]
  have hsz : (es.eraseIdxIfInBounds j).size = es.size - 1 := by
    rw [← Array.length_toList, hsub, List.length_eraseIdx_of_lt (by rw [Array.length_toList]; exact hjs), Array.length_toList]
  refine ⟨by rw [hsz, h1]; simp only [Ab.delK]; rw [List.length_eraseIdx_of_lt hj], fun i hi => ?_, fun i i' e f he hf hb => ?_, fun i e he => ?_, fun bs c hst => ?_⟩
  · simp only [Ab.delK] at hi ⊢
    rw [List.length_eraseIdx_of_lt hj] at hi
    rw [hget]
    by_cases hij : i < j
    · obtain ⟨e, q1, q2, q3⟩ := h2 i (by omega)
      refine ⟨e, by rw [if_pos hij]; exact q1, ?_, ?_⟩
      · rw [List.getElem_eraseIdx_of_lt _ hij]; exact q2
      · rw [List.getElem_eraseIdx_of_lt _ hij]; exact q3
    · obtain ⟨e, q1, q2, q3⟩ := h2 (i + 1) (by omega)
      refine ⟨e, by rw [if_neg hij]; exact q1, ?_, ?_⟩
      · rw [List.getElem_eraseIdx_of_ge _ (by omega)]; exact q2
      · rw [List.getElem_eraseIdx_of_ge _ (by omega)]; exact q3
  · rw [hget] at he hf
    split at he <;> split at hf <;> (have := h3 _ _ _ _ he hf hb; omega)
  · rw [hget] at he
    split at he <;> exact h4 _ _ he
  · unfold delB at hst
    cases st with
    | none => cases hst
    | some s =>
      obtain ⟨bs0, c0⟩ := s
      cases hst
      obtain ⟨k1, k2⟩ := h5 bs0 _ rfl
      refine ⟨?_, k2⟩
      rw [hsub, ← k1]
      exact (Go.ChangeMaps.map_eraseIdx _ _ _)
theorem MapIs.noB {r : Rl} {w : World} {es : Array MapEntry} {clock : Nat} {kvs : List (AV × AV)} {st : Option (List Nat × Nat)} (hm : MapIs r w es clock kvs st) : MapIs r w es clock kvs none :=
  ⟨hm.1, hm.2.1, hm.2.2.1, hm.2.2.2.1, fun bs c h => by cases h⟩
theorem mapA_run {cx : Cx} {r : Rl} {σ σ' : Heap} {w : World} {n : Nat} {fr : Fr} {a : Act} {o : Oper} {hh : Option (Nat × AV)} {C : List Prop} {v : AV} (hi : Inv cx r σ w) (hf : FRel r w n fr a) (h : mapA cx fr σ o.op hh = some (C, v, σ')) (hC : AllP C) :
    OpRes cx r σ w ((execOp a.eval o).run cx.P w) v σ' := by
  have he : ∀ x, VRel r w (a.eval x) (ev cx fr x) := fun x => ev_rel hi hf x
  have q : ∀ {s : Sem Value} {v : AV} {σ' : Heap}, (∃ v' w' r', s.run cx.P w = .ok v' w' ∧ VRel r' w' v' v ∧ Inv cx r' σ' w' ∧ Ext r σ w r' σ' w') →
      OpRes cx r σ w ((do let x ← s; pure (Next.value x) : Sem Next).run cx.P w) v σ' := by
    rintro s v σ' ⟨v', w', r', h1, h2, h3, h4⟩
    exact ⟨r', w', v', .inl (by simp [h1]), h2, h3, h4⟩
  obtain ⟨dst, op, ty, pos, after, guard⟩ := o
  simp only at h
  unfold mapA at h
  split at h
  ·
    rename_i t m k ok
    split at h
    case h_2 => cases h
    rename_i kt et hu
    split at h
    case h_2 => cases h
    rename_i hkf
    split at h
    case h_2 => cases h
    rename_i id ver hm
    split at h
    case h_2 => cases h
    rename_i cur kvs st hσ
    have hmv := he m
    rw [hm] at hmv
    unfold execOp
    refine q ?_
    split at h
    · rename_i i0 v0
      simp only [Option.some.injEq, Prod.mk.injEq] at h; obtain ⟨rfl, rfl, rfl⟩ := h
      obtain ⟨rfl, hfk, _⟩ := hC
      obtain ⟨b, es, clock, hz, hρ, hb, hmi⟩ := hi.mapAt hσ hmv
      obtain ⟨hck, hk⟩ := findKey_run hkf (he k) hmi hfk
      rcases hk with ⟨hn, _⟩ | ⟨j, v1, e, hn, hes, hrun, hv, _, _⟩
      · cases hn
      cases hn
      cases ok with
      | true =>
        refine ⟨.tuple #[e.val, .bool true], w, r, ?_, .tup rfl (fun i hi => ?_), hi, Ext.refl _ _ _⟩
        · simp [Instr.lookup, run_underlying hu, hz, MapKept.run_getObj_map hb, hck, hrun]
        · simp only [List.length_cons, List.length_nil] at hi
          rcases i with _ | _ | i
          · exact hv
          · exact .bool
          · omega
      | false =>
        refine ⟨e.val, w, r, ?_, hv, hi, Ext.refl _ _ _⟩
        simp [Instr.lookup, run_underlying hu, hz, MapKept.run_getObj_map hb, hck, hrun]
    · split at h
      case h_2 => cases h
      rename_i z0 hz0
      simp only [Option.some.injEq, Prod.mk.injEq] at h; obtain ⟨rfl, rfl, rfl⟩ := h
      obtain ⟨rfl, hfk, _⟩ := hC
      obtain ⟨b, es, clock, hz, hρ, hb, hmi⟩ := hi.mapAt hσ hmv
      obtain ⟨hck, hk⟩ := findKey_run hkf (he k) hmi hfk
      obtain ⟨z, hz1, hz2⟩ := zeroV_run hz0 r w
      rcases hk with ⟨_, hrun⟩ | ⟨j, v1, e, hn, _⟩
      case inr => cases hn
      cases ok with
      | true =>
        refine ⟨.tuple #[z, .bool false], w, r, ?_, .tup rfl (fun i hi => ?_), hi, Ext.refl _ _ _⟩
        · simp [Instr.lookup, run_underlying hu, hz, MapKept.run_getObj_map hb, hck, hrun, hz1]
        · simp only [List.length_cons, List.length_nil] at hi
          rcases i with _ | _ | i
          · exact hz2
          · exact .bool
          · omega
      | false =>
        refine ⟨z, w, r, ?_, hz2, hi, Ext.refl _ _ _⟩
        simp [Instr.lookup, run_underlying hu, hz, MapKept.run_getObj_map hb, hck, hrun, hz1]
  ·
    rename_i t m k x
    split at h
    case h_2 => cases h
    rename_i kt et hu
    split at h
    case h_2 => cases h
    rename_i hkf
    split at h
    case h_2 => cases h
    rename_i id ver hm
    split at h
    case h_2 => cases h
    rename_i cur kvs st hσ
    have hmv := he m
    rw [hm] at hmv
    simp only [Option.some.injEq, Prod.mk.injEq] at h; obtain ⟨rfl, rfl, rfl⟩ := h
    obtain ⟨rfl, hfk, _⟩ := hC
    obtain ⟨b, es, clock, hz, hρ, hb, hmi⟩ := hi.mapAt hσ hmv
    obtain ⟨hck, hk⟩ := findKey_run hkf (he k) hmi hfk
    have fin : ∀ {w' : World} {es' : Array MapEntry} {clock' : Nat} {kvs' : List (AV × AV)} {st' : Option (List Nat × Nat)}, w' = { w with heap := w.heap.setIfInBounds b (.map es' clock') } → (Instr.mapUpdate t (a.eval m) (a.eval k) (a.eval x)).run cx.P w = .ok () w' → MapIs r w es' clock' kvs' st' →
        OpRes cx r σ w ((execOp a.eval ⟨dst, .mapUpdate t m k x, ty, pos, after, guard⟩).run cx.P w) (.tup []) (σ.set id (ver, some (.map kvs' st'))) := by
      rintro w' es' clock' kvs' st' rfl hrun hm'
      obtain ⟨r', k1, k2⟩ := hi.mapSet hσ hρ hb hm'
      refine ⟨r', _, undef, .inr ⟨?_, rfl⟩, .tup rfl (fun i h => absurd h (by simp)), k1, k2⟩
      simp [execOp, hrun]
    rcases hk with ⟨rfl, hrun⟩ | ⟨j, v1, e, rfl, hes, hrun, hv, hbits, hj⟩
    · refine fin (es' := es.push { key := a.eval k, val := a.eval x, born := clock }) (clock' := clock + 1) rfl ?_ (hmi.pushK (he k) (he x))
      simp [Instr.mapUpdate, run_underlying hu, hz, MapKept.run_getObj_map hb, hck, hrun, MapKept.run_setObj_map _ hb]
    · refine fin (es' := es.modify j fun e => { e with key := a.eval k, val := a.eval x }) (clock' := clock) rfl ?_ (hmi.setK (he k) (he x) hj)
      simp [Instr.mapUpdate, run_underlying hu, hz, MapKept.run_getObj_map hb, hck, hrun, hes, Instr.keyThatStays, hbits, MapKept.run_setObj_map _ hb]
  ·
    rename_i args ts
    obtain ⟨bs, hbs⟩ := run_len_call cx.P w a.eval .delete args ts dst ty pos after guard
    rw [hbs]
    split at h
    case h_2 => cases h
    rename_i m k t u hargs hts
    have h1 : args = #[m, k] := by rw [← Array.toArray_toList (xs := args), hargs]
    have h2 : ts = #[t, u] := by rw [← Array.toArray_toList (xs := ts), hts]
    subst h1; subst h2
    simp only [builtin, List.map_toArray, List.map_cons, List.map_nil]
    split at h
    case h_2 => cases h
    rename_i kt et hu
    split at h
    case h_2 => cases h
    rename_i hkf
    split at h
    case h_2 => cases h
    rename_i id ver hm
    split at h
    case h_2 => cases h
    rename_i cur kvs st hσ
    have hmv := he m
    rw [hm] at hmv
    simp only [Option.some.injEq, Prod.mk.injEq] at h; obtain ⟨rfl, rfl, rfl⟩ := h
    obtain ⟨rfl, hfk, _⟩ := hC
    obtain ⟨b, es, clock, hz, hρ, hb, hmi⟩ := hi.mapAt hσ hmv
    obtain ⟨hck, hk⟩ := findKey_run hkf (he k) hmi hfk
    refine q ?_
    rcases hk with ⟨rfl, hrun⟩ | ⟨j, v1, e, rfl, hes, hrun, hv, hbits, hj⟩
    · obtain ⟨r', k1, k2⟩ := hi.mapSet hσ hρ hb (es' := es) (clock' := clock) (kvs' := delK kvs none) (st' := delB st none) hmi
      refine ⟨.tuple #[], _, r', ?_, .tup rfl (fun i h => absurd h (by simp)), k1, k2⟩
      simp [Builtin.delete_, run_underlying hu, hz, MapKept.run_getObj_map hb, hck, hrun, MapKept.run_setObj_map _ hb]
    · obtain ⟨r', k1, k2⟩ := hi.mapSet hσ hρ hb (hmi.delK (v := v1) hj)
      refine ⟨.tuple #[], _, r', ?_, .tup rfl (fun i h => absurd h (by simp)), k1, k2⟩
      simp [Builtin.delete_, run_underlying hu, hz, MapKept.run_getObj_map hb, hck, hrun, MapKept.run_setObj_map _ hb]
  · cases h
def clrB (st : Option (List Nat × Nat)) : Option (List Nat × Nat) := match st with | some (_, c) => some ([], c) | none => none
def mapN (cx : Cx) (fr : Fr) (σ : Heap) (o : Op) : Option (List Prop × AV × Heap) :=
  match o with
  | .makeMap t none => match allocH σ (.map [] (some ([], 0))) with
    | (id, ver, σ') => some ([], .map id ver, σ')
  | .range t x => match cx.P.underlying t, ev cx fr x with
    | some (.map _ _), .map id ver => match σ[id]? with
      | some (cur, some (.map _ (some (_, c)))) => match allocH σ (.miter id ver c [] c) with
        | (i, v, σ') => some ([ver = cur], .ptr i v 0, σ')
      | _ => none
    | _, _ => none
  | .call { callee := .builtin .clear, args := args, argTypes := ts } => match args.toList, ts.toList with
    | [m], [t] => match cx.P.underlying t with
      | some (.map _ _) => match ev cx fr m with
        | .map id ver => match σ[id]? with
          | some (cur, some (.map _ st)) => some ([ver = cur], .tup [], σ.set id (cur, some (.map [] (clrB st))))
          | _ => none
        | _ => none
      | _ => none
    | _, _ => none
  | _ => none
theorem mapN_run {cx : Cx} {r : Rl} {σ σ' : Heap} {w : World} {n : Nat} {fr : Fr} {a : Act} {o : Oper} {C : List Prop} {v : AV} (hi : Inv cx r σ w) (hf : FRel r w n fr a) (h : mapN cx fr σ o.op = some (C, v, σ')) (hC : AllP C) :
    OpRes cx r σ w ((execOp a.eval o).run cx.P w) v σ' := by
  have he : ∀ x, VRel r w (a.eval x) (ev cx fr x) := fun x => ev_rel hi hf x
  have q : ∀ {s : Sem Value} {v : AV} {σ' : Heap}, (∃ v' w' r', s.run cx.P w = .ok v' w' ∧ VRel r' w' v' v ∧ Inv cx r' σ' w' ∧ Ext r σ w r' σ' w') →
      OpRes cx r σ w ((do let x ← s; pure (Next.value x) : Sem Next).run cx.P w) v σ' := by
    rintro s v σ' ⟨v', w', r', h1, h2, h3, h4⟩
    exact ⟨r', w', v', .inl (by simp [h1]), h2, h3, h4⟩
  obtain ⟨dst, op, ty, pos, after, guard⟩ := o
  simp only at h
  unfold mapN at h
  split at h
  · generalize hal : allocH σ _ = al at h
    obtain ⟨id, ver, σ1⟩ := al
    simp only [Option.some.injEq, Prod.mk.injEq] at h; obtain ⟨rfl, rfl, rfl⟩ := h
    unfold execOp
    refine q ?_
    have hn := hi.new (ob := .map #[] 0) hal (fun g => ⟨rfl, #[], 0, heap_alloc_self w _, rfl, fun i h => absurd h (by simp), fun i j e f h => by simp at h, fun i e h => by simp at h, fun bs c h => by cases h; exact ⟨rfl, rfl⟩⟩)
    refine ⟨.map (some w.heap.size), w.alloc (.map #[] 0), _, ?_, .map (o := 0) (by simp [Rl.bind]), hn.1, hn.2⟩
    simp [Instr.makeMap]
  · rename_i t x
    split at h
    case h_2 => cases h
    rename_i kt et id ver hu hx
    split at h
    case h_2 => cases h
    rename_i cur kvs bs c hσ
    generalize hal : allocH σ _ = al at h
    obtain ⟨i, v', σ1⟩ := al
    simp only [Option.some.injEq, Prod.mk.injEq] at h; obtain ⟨rfl, rfl, rfl⟩ := h
    obtain ⟨rfl, _⟩ := hC
    have hmv := he x
    rw [hx] at hmv
    obtain ⟨b, es, clock, hz, hρ, hb, hmi⟩ := hi.mapAt hσ hmv
    obtain ⟨_, rfl⟩ := hmi.2.2.2.2 _ _ rfl
    unfold execOp
    refine q ?_
    have hn := hi.new (ob := .mapIter (some b) clock #[] clock) hal (fun g => ⟨rfl, b, g.ρ _ _ _ hρ, heap_alloc_self w _⟩)
    refine ⟨.pointer (some ⟨w.heap.size, 0, none⟩), w.alloc (.mapIter (some b) clock #[] clock), _, ?_, VRel.ptr (o := 0) (off := 0) (by simp [Rl.bind]), hn.1, hn.2⟩
    rw [hz, run_range_map w t kt et b es clock hu hb]
  · rename_i args ts
    obtain ⟨bs, hbs⟩ := run_len_call cx.P w a.eval .clear args ts dst ty pos after guard
    rw [hbs]
    split at h
    case h_2 => cases h
    rename_i m t hargs hts
    have h1 : args = #[m] := by rw [← Array.toArray_toList (xs := args), hargs]
    have h2 : ts = #[t] := by rw [← Array.toArray_toList (xs := ts), hts]
    subst h1; subst h2
    simp only [builtin, List.map_toArray, List.map_cons, List.map_nil]
    split at h
    case h_2 => cases h
    rename_i kt et hu
    split at h
    case h_2 => cases h
    rename_i id ver hm
    split at h
    case h_2 => cases h
    rename_i cur kvs st hσ
    have hmv := he m
    rw [hm] at hmv
    simp only [Option.some.injEq, Prod.mk.injEq] at h; obtain ⟨rfl, rfl, rfl⟩ := h
    obtain ⟨rfl, _⟩ := hC
    obtain ⟨b, es, clock, hz, hρ, hb, hmi⟩ := hi.mapAt hσ hmv
    refine q ?_
    obtain ⟨r', k1, k2⟩ := hi.mapSet hσ hρ hb (es' := #[]) (clock' := clock) (kvs' := []) (st' := clrB st) ⟨rfl, fun i h => absurd h (by simp), fun i j e f h => by simp at h, fun i e h => by simp at h, fun bs c h => by
      cases st with
      | none => cases h
      | some s =>
        obtain ⟨b0, c0⟩ := s
        cases h
        exact ⟨rfl, (hmi.2.2.2.2 _ _ rfl).2⟩⟩
    refine ⟨.tuple #[], _, r', ?_, .tup rfl (fun i h => absurd h (by simp)), k1, k2⟩
    simp [Builtin.clear_, run_underlying hu, hz, MapKept.run_getObj_map hb, MapKept.run_setObj_map _ hb]
  · cases h
section
variable {cx : Cx} {n : Nat} {B : Bs} {k : List AI} {Q : Post} {fr : Fr} {σ : Heap}
theorem OpSpec.map {o : Oper} {v : AV} {σ' : Heap} {C : List Prop} (hh : Option (Nat × AV)) (h : mapA cx fr σ o.op hh = some (C, v, σ')) (hC : AllP C) : OpSpec cx n fr σ o v σ' := fun r a w hi hf => mapA_run hi hf h hC
theorem OpSpec.mapN {o : Oper} {v : AV} {σ' : Heap} {C : List Prop} (h : Ab.mapN cx fr σ o.op = some (C, v, σ')) (hC : AllP C) : OpSpec cx n fr σ o v σ' := fun r a w hi hf => mapN_run hi hf h hC
theorem S_unstamp {todo : List AI} {id cur : Nat} {kvs : List (AV × AV)} {st : Option (List Nat × Nat)} (h : σ[id]? = some (cur, some (.map kvs st)))
    (hk : S cx n B todo Q fr (σ.set id (cur, some (.map kvs none)))) (hT : ∃ c k, todo = .code c :: k ∨ ∃ all l K, todo = .ops all l K :: k) : S cx n B todo Q fr σ := by
  have key : ∀ r w, Inv cx r σ w → Inv cx r (σ.set id (cur, some (.map kvs none))) w ∧ Ext r σ w r (σ.set id (cur, some (.map kvs none))) w := by
    intro r w hi
    refine hi.recast h (fun b' o hb' => ?_) (fun ro hro => by cases hro)
    obtain ⟨rfl, es, clock, h1, h2⟩ := hb'
    exact ⟨rfl, es, clock, h1, MapIs.noB h2⟩
  obtain ⟨c0, k0, hT⟩ := hT
  rcases hT with rfl | ⟨all, l, K, rfl⟩
  · intro r a w hi hf hd hx
    obtain ⟨q1, q2⟩ := key r w hi
    exact hk r a w q1 (hf.mono (q2.grow hi)) hd (hx.trans q2)
  · intro r a w hi hf hd hx
    obtain ⟨q1, q2⟩ := key r w hi
    exact hk r a w q1 (hf.mono (q2.grow hi)) hd (hx.trans q2)
theorem OpSpec.entry {o : Oper} {x : Operand} {id ver mid mver since c i b : Nat} {seen bs : List Nat} {kvs : List (AV × AV)} (ho : o.op = .entry x) (hx0 : ev cx fr x = .ptr id ver 0) (hσ : σ[id]? = some (ver, some (.miter mid mver since (seen ++ [b]) c)))
    (hσm : σ[mid]? = some (mver, some (.map kvs (some (bs, c))))) (hb : bs[i]? = some b) (hik : i < kvs.length) : OpSpec cx n fr σ o (.tup [kvs[i].1, kvs[i].2]) σ := by
  intro r a w hi hf
  have hv := ev_rel hi hf x
  rw [hx0] at hv
  rcases hi.box id ver _ hσ with ⟨ib, o', hρ, hbx⟩ | ⟨_, ro, h⟩
  case inr => cases h
  obtain ⟨rfl, mb, hρm, hib⟩ := hbx
  rcases hi.box mid mver _ hσm with ⟨mb', o', hρ2, hbm⟩ | ⟨_, ro, h⟩
  case inr => cases h
  obtain ⟨rfl, es, clock, hmb, hm⟩ := hbm
  rw [hρm] at hρ2
  obtain rfl : mb = mb' := by cases hρ2; rfl
  obtain ⟨hbs, hck⟩ := hm.2.2.2.2 _ _ rfl
  subst hck
  have he : a.eval x = .pointer (some ⟨ib, 0, none⟩) := by
    generalize a.eval x = z at hv
    cases hv with
    | ptr h => rw [hρ] at h; cases h; rfl
  obtain ⟨e, k1, k2, k3⟩ := hm.2.1 i hik
  have hbe : e.born = b := by
    rw [← hbs, List.getElem?_map, Array.getElem?_toList, k1] at hb
    exact Option.some.inj hb
  have hnd : (es.toList.map (·.born)).Nodup := by
    refine List.pairwise_iff_getElem.2 (fun p q hp hq hpq hee => ?_)
    rw [List.length_map, Array.length_toList] at hp hq
    simp only [List.getElem_map, Array.getElem_toList] at hee
    have := hm.2.2.1 p q _ _ (Array.getElem?_eq_getElem hp) (Array.getElem?_eq_getElem hq) hee
    omega
  have hrun := run_entry_at (P := cx.P) w ib mb since seen.toArray es clock e (by rw [hbe]; simpa using hib) hmb (by rw [← Array.mem_def]; exact Array.mem_of_getElem? k1) hnd
  refine ⟨r, w, .tuple #[e.key, e.val], .inl ?_, .tup rfl (fun j hj => ?_), hi, Ext.refl _ _ _⟩
  · obtain ⟨dst, op, ty, ps, aft, guard⟩ := o
    simp only at ho
    subst ho
    refine exec_v ?_
    rw [he]; exact hrun
  · simp only [List.length_cons, List.length_nil] at hj
    rcases j with _ | _ | j
    · exact k2
    · exact k3
    · omega
end
end Go.Ab
end
section
set_option linter.unusedVariables false
set_option linter.unusedSimpArgs false
namespace Go.Ab
open Go
def sortT (l : List (List UInt8)) : List (List UInt8) := l.mergeSort fun x y => decide (x ≤ y)
theorem leT_trans (a b c : List UInt8) : decide (a ≤ b) = true → decide (b ≤ c) = true → decide (a ≤ c) = true := by
  simp only [decide_eq_true_eq]; exact fun h1 h2 => List.le_trans h1 h2
theorem leT_total (a b : List UInt8) : (decide (a ≤ b) || decide (b ≤ a)) = true := by
  simp only [Bool.or_eq_true, decide_eq_true_eq]; exact List.le_total a b
theorem perm_sorted : ∀ {a b : List (List UInt8)}, a.Perm b → a.Pairwise (fun x y => x ≤ y) → b.Pairwise (fun x y => x ≤ y) → a = b
  | [], b, h, _, _ => (List.nil_perm.1 h).symm
  | x :: a, [], h, _, _ => absurd h.length_eq (by simp)
  | x :: a, y :: b, h, h1, h2 => by
    obtain ⟨p1, p2⟩ := List.pairwise_cons.1 h1
    obtain ⟨q1, q2⟩ := List.pairwise_cons.1 h2
    have hxy : x = y := by
      have hx : x ∈ y :: b := h.mem_iff.1 (List.mem_cons_self ..)
      have hy : y ∈ x :: a := h.mem_iff.2 (List.mem_cons_self ..)
      rcases List.mem_cons.1 hx with hx | hx
      · exact hx
      · rcases List.mem_cons.1 hy with hy | hy
        · exact hy.symm
        · exact List.le_antisymm (p1 y hy) (q1 x hx)
    subst hxy
    rw [perm_sorted (List.Perm.cons_inv h) p2 q2]
theorem sortT_pw (l : List (List UInt8)) : (sortT l).Pairwise fun x y => x ≤ y := by
  have := List.pairwise_mergeSort (le := fun x y : List UInt8 => decide (x ≤ y)) leT_trans leT_total l
  exact this.imp (fun h => by simpa using h)
theorem sortT_perm (l : List (List UInt8)) : (sortT l).Perm l := List.mergeSort_perm _ _
theorem sortT_eq {a b : List (List UInt8)} (h : a.Perm b) : sortT a = sortT b :=
  perm_sorted ((sortT_perm a).trans (h.trans (sortT_perm b).symm)) (sortT_pw a) (sortT_pw b)
end Go.Ab
end
section
set_option linter.unusedVariables false
set_option linter.unusedSimpArgs false
set_option maxRecDepth 20000
namespace Go.Proofs.YtjkeekbfgnmngaaGreatDoor
open Go Go.Ab
def fstT (p : List UInt8) : List UInt8 := p.takeWhile (fun c => c != 47)
def rstT (p : List UInt8) : List UInt8 := (p.dropWhile (fun c => c != 47)).drop 1
def stp (f : Fil) : Fil := ⟨rstT f.path, f.text, f.run⟩
theorem fst_ok (p : List UInt8) : (p.count 47 = 0 ∧ fstT p = p ∧ rstT p = []) ∨ (0 < p.count 47 ∧ p = fstT p ++ 47 :: rstT p) := by
  induction p with
  | nil => exact .inl ⟨rfl, rfl, rfl⟩
  | cons c p ih =>
    by_cases hc : c = 47
    · subst hc
      exact .inr ⟨by simp, rfl⟩
    · have h1 : fstT (c :: p) = c :: fstT p := by unfold fstT; rw [List.takeWhile_cons, if_pos (by simpa using hc)]
      have h2 : rstT (c :: p) = rstT p := by unfold rstT; rw [List.dropWhile_cons, if_pos (by simpa using hc)]
      have h3 : (c :: p).count 47 = p.count 47 := by rw [List.count_cons, if_neg (by simpa using hc)]; rfl
      rw [h1, h2, h3]
      rcases ih with ⟨a, b, d⟩ | ⟨a, b⟩
      · exact .inl ⟨a, by rw [b], d⟩
      · exact .inr ⟨a, by rw [List.cons_append, ← b]⟩
theorem fst_no (p : List UInt8) : (fstT p).count 47 = 0 := by
  induction p with
  | nil => rfl
  | cons c p ih =>
    unfold fstT
    rw [List.takeWhile_cons]
    split
    · rename_i h
      have : ¬ c = 47 := by simpa using h
      rw [List.count_cons, if_neg (by simpa using this)]
      exact ih
    · rfl
theorem fst_of {n x : List UInt8} (hn : n.count 47 = 0) : fstT (n ++ 47 :: x) = n ∧ rstT (n ++ 47 :: x) = x := by
  induction n with
  | nil => exact ⟨rfl, rfl⟩
  | cons c n ih =>
    have hc : ¬ c = 47 := by rintro rfl; simp at hn
    have h' : n.count 47 = 0 := by rw [List.count_cons, if_neg (by simpa using hc)] at hn; exact hn
    obtain ⟨a, b⟩ := ih h'
    refine ⟨?_, ?_⟩
    · unfold fstT; rw [List.cons_append, List.takeWhile_cons, if_pos (by simpa using hc)]; exact congrArg _ a
    · unfold rstT; rw [List.cons_append, List.dropWhile_cons, if_pos (by simpa using hc)]; exact b
theorem fst_ix (p : List UInt8) : (Lib.indexByte p 47 = -1 ∧ fstT p = p ∧ rstT p = []) ∨ (∃ m : Nat, Lib.indexByte p 47 = m ∧ m < p.length ∧ fstT p = p.take m ∧ rstT p = p.drop (m + 1)) := by
  induction p with
  | nil => exact .inl ⟨rfl, rfl, rfl⟩
  | cons c p ih =>
    by_cases hc : c = 47
    · subst hc
      exact .inr ⟨0, by simp [Lib.indexByte], by simp, rfl, rfl⟩
    · have h1 : fstT (c :: p) = c :: fstT p := by unfold fstT; rw [List.takeWhile_cons, if_pos (by simpa using hc)]
      have h2 : rstT (c :: p) = rstT p := by unfold rstT; rw [List.dropWhile_cons, if_pos (by simpa using hc)]
      rw [h1, h2]
      rcases ih with ⟨a, b, d⟩ | ⟨m, a, b, d, e⟩
      · exact .inl ⟨by rw [Lib.indexByte, if_neg (by simpa using hc), if_pos (by rw [a]; rfl)], by rw [b], d⟩
      · exact .inr ⟨m + 1, by rw [Lib.indexByte, if_neg (by simpa using hc), if_neg (by rw [a]; simp), a]; rfl, by simp; omega, by rw [d]; rfl, by rw [e]; rfl⟩
theorem rst_len (p : List UInt8) : (rstT p).length ≤ p.length - 1 := by
  rcases fst_ok p with ⟨_, _, h⟩ | ⟨_, h⟩
  · rw [h]; simp
  · have := congrArg List.length h
    rw [List.length_append, List.length_cons] at this; omega
theorem fst_len (p : List UInt8) : (fstT p).length ≤ p.length := by
  rcases fst_ok p with ⟨_, h, _⟩ | ⟨_, h⟩
  · rw [h]; exact Nat.le_refl _
  · have := congrArg List.length h
    rw [List.length_append, List.length_cons] at this; omega
theorem split_fst (p : List UInt8) : splitB 47 p = fstT p :: (if p.count 47 = 0 then [] else splitB 47 (rstT p)) := by
  induction p with
  | nil => rfl
  | cons c p ih =>
    by_cases hc : c = 47
    · subst hc
      rw [splitB, if_pos rfl, if_neg (by simp)]; rfl
    · have h1 : fstT (c :: p) = c :: fstT p := by unfold fstT; rw [List.takeWhile_cons, if_pos (by simpa using hc)]
      have h2 : rstT (c :: p) = rstT p := by unfold rstT; rw [List.dropWhile_cons, if_pos (by simpa using hc)]
      have h3 : (c :: p).count 47 = p.count 47 := by rw [List.count_cons, if_neg (by simpa using hc)]; rfl
      rw [h1, h2, h3, splitB, if_neg hc, ih]
theorem path_fst {p : List UInt8} (h : isPathB p = true) : isName (fstT p) = true ∧ p.length ≤ 100 ∧ (rstT p = [] → fstT p = p) ∧ (rstT p ≠ [] → isPathB (rstT p) = true ∧ p = fstT p ++ 47 :: rstT p) := by
  unfold isPathB at h
  rw [Bool.and_eq_true, decide_eq_true_eq, split_fst, List.all_cons, Bool.and_eq_true] at h
  obtain ⟨⟨h1, h2⟩, h3⟩ := h
  refine ⟨h1, h3, fun hr => ?_, fun hr => ?_⟩
  · rcases fst_ok p with ⟨_, k, _⟩ | ⟨k0, k⟩
    · exact k
    · rw [if_neg (by omega), hr] at h2
      simp [splitB, isName] at h2
  · rcases fst_ok p with ⟨_, _, k⟩ | ⟨k0, k⟩
    · exact absurd k hr
    · rw [if_neg (by omega)] at h2
      refine ⟨?_, k⟩
      unfold isPathB
      have := rst_len p
      rw [h2]; simp; omega
def addU (l : List (List UInt8)) (s : List UInt8) : List (List UInt8) := if s ∈ l then l else l ++ [s]
def nmsT (l : List Fil) : List (List UInt8) := l.foldl (fun ns f => addU ns (fstT f.path)) []
def grT (l : List Fil) (n : List UInt8) : List Fil := (l.filter (fun f => fstT f.path == n)).map stp
theorem addU_nodup {l : List (List UInt8)} {s : List UInt8} (h : l.Nodup) : (addU l s).Nodup := by
  unfold addU
  split
  · exact h
  · rename_i hs
    rw [List.nodup_append]
    exact ⟨h, by simp, fun a ha b hb e => hs (by simp at hb; rw [← hb, ← e]; exact ha)⟩
theorem addU_mem {l : List (List UInt8)} {s x : List UInt8} : x ∈ addU l s ↔ x ∈ l ∨ x = s := by
  unfold addU
  split
  · rename_i h; exact ⟨.inl, fun h' => h'.elim id (fun e => e ▸ h)⟩
  · simp
theorem addU_fold_nodup {α : Type} (g : α → List UInt8) : ∀ (l : List α) (a : List (List UInt8)), a.Nodup → (l.foldl (fun ns f => addU ns (g f)) a).Nodup
  | [], _, h => h
  | x :: l, a, h => addU_fold_nodup g l _ (addU_nodup h)
theorem addU_fold_mem {α : Type} (g : α → List UInt8) {x : List UInt8} : ∀ (l : List α) (a : List (List UInt8)), x ∈ l.foldl (fun ns f => addU ns (g f)) a ↔ x ∈ a ∨ ∃ f ∈ l, g f = x
  | [], a => by simp
  | y :: l, a => by
    rw [List.foldl_cons, addU_fold_mem g l, addU_mem]
    constructor
    · rintro ((h | h) | ⟨f, h, e⟩)
      · exact .inl h
      · exact .inr ⟨y, by simp, h.symm⟩
      · exact .inr ⟨f, by simp [h], e⟩
    · rintro (h | ⟨f, h, e⟩)
      · exact .inl (.inl h)
      · rcases List.mem_cons.1 h with rfl | h
        · exact .inl (.inr e.symm)
        · exact .inr ⟨f, h, e⟩
theorem addU_fold_len {α : Type} (g : α → List UInt8) : ∀ (l : List α) (a : List (List UInt8)), (l.foldl (fun ns f => addU ns (g f)) a).length ≤ a.length + l.length
  | [], a => by simp
  | y :: l, a => by
    have := addU_fold_len g l (addU a (g y))
    have h2 : (addU a (g y)).length ≤ a.length + 1 := by unfold addU; split <;> simp
    rw [List.foldl_cons, List.length_cons]; omega
theorem nms_nodup (l : List Fil) : (nmsT l).Nodup := addU_fold_nodup _ l [] .nil
theorem nms_mem {l : List Fil} {n : List UInt8} : n ∈ nmsT l ↔ ∃ f ∈ l, fstT f.path = n := by
  unfold nmsT; rw [addU_fold_mem]; simp
theorem nms_len (l : List Fil) : (nmsT l).length ≤ l.length := by
  have := addU_fold_len (fun f : Fil => fstT f.path) l []
  simpa [nmsT] using this
theorem nms_step {l : List Fil} {i : Nat} (h : i < l.length) : nmsT (l.take (i + 1)) = addU (nmsT (l.take i)) (fstT l[i].path) := by
  unfold nmsT; rw [List.take_succ_eq_append_getElem h, List.foldl_append]; rfl
theorem gr_step {l : List Fil} {i : Nat} (h : i < l.length) (n : List UInt8) : grT (l.take (i + 1)) n = grT (l.take i) n ++ (if fstT l[i].path = n then [stp l[i]] else []) := by
  unfold grT
  rw [List.take_succ_eq_append_getElem h, List.filter_append, List.map_append]
  congr 1
  by_cases hn : fstT l[i].path = n
  · rw [if_pos hn, List.filter_cons_of_pos (by simpa using hn)]; rfl
  · rw [if_neg hn, List.filter_cons_of_neg (by simpa using hn)]; rfl
theorem gr_ne {l : List Fil} {n : List UInt8} (h : n ∈ nmsT l) : grT l n ≠ [] := by
  obtain ⟨f, h1, h2⟩ := nms_mem.1 h
  intro e
  have : stp f ∈ grT l n := List.mem_map.2 ⟨f, List.mem_filter.2 ⟨h1, by simpa using h2⟩, rfl⟩
  rw [e] at this; cases this
theorem gr_nil {l : List Fil} {n : List UInt8} (h : n ∉ nmsT l) : grT l n = [] := by
  unfold grT
  rw [List.map_eq_nil_iff, List.filter_eq_nil_iff]
  intro f hf he
  exact h (nms_mem.2 ⟨f, hf, by simpa using he⟩)
theorem between {p x y h : List UInt8} (h1 : Op.bytesLess (p ++ x) h = true) (h2 : Op.bytesLess h (p ++ y) = true) : p.isPrefixOf h = true := by
  induction p generalizing h with
  | nil => simp
  | cons c p ih =>
    cases h with
    | nil => simp [Op.bytesLess] at h1
    | cons d h =>
      rw [bl_eq] at h1 h2
      simp only [List.cons_append, decide_eq_true_eq, List.cons_lt_cons_iff] at h1 h2
      have hcd : c = d := by
        rcases h1 with h1 | ⟨h1, _⟩
        · rcases h2 with h2 | ⟨h2, _⟩
          · exact absurd (UInt8.lt_trans h1 h2) (UInt8.lt_irrefl c)
          · subst h2; exact absurd h1 (UInt8.lt_irrefl _)
        · exact h1
      subst hcd
      have h1' : p ++ x < h := h1.elim (fun h => absurd h (UInt8.lt_irrefl _)) (·.2)
      have h2' : h < p ++ y := h2.elim (fun h => absurd h (UInt8.lt_irrefl _)) (·.2)
      rw [List.isPrefixOf_cons_cons]
      simp only [beq_self_eq_true, Bool.true_and]
      exact ih (by rw [bl_eq]; simpa using h1') (by rw [bl_eq]; simpa using h2')
theorem fst_ins {p n : List UInt8} (hn : fstT p = n) : p = n ∨ insT n p = true := by
  rcases fst_ok p with ⟨_, k, _⟩ | ⟨_, k⟩
  · left; rw [← hn, k]
  · right
    unfold insT
    rw [List.isPrefixOf_iff_prefix]
    exact ⟨rstT p, by conv => rhs; rw [k]
                      rw [← hn]; simp⟩
theorem ins_fst {p n : List UInt8} (hn : n.count 47 = 0) (h : insT n p = true) : fstT p = n := by
  unfold insT at h
  rw [List.isPrefixOf_iff_prefix] at h
  obtain ⟨x, rfl⟩ := h
  rw [List.append_assoc]
  exact (fst_of hn).1
theorem contig {l : List Fil} (h : okT l) {j i : Nat} (hj : j < i) (hi : i < l.length) (he : fstT (l[j]'(by omega)).path = fstT l[i].path) : fstT (l[i - 1]'(by omega)).path = fstT l[i].path := by
  by_cases hji : j = i - 1
  · subst hji; exact he
  · have hn : (fstT l[i].path).count 47 = 0 := fst_no _
    have o1 : Op.bytesLess (l[j]'(by omega)).path (l[i - 1]'(by omega)).path = true := List.pairwise_iff_getElem.1 h.1 _ _ _ _ (by omega)
    have o2 : Op.bytesLess (l[i - 1]'(by omega)).path l[i].path = true := List.pairwise_iff_getElem.1 h.1 _ _ _ _ (by omega)
    have n1 : insT (l[j]'(by omega)).path l[i].path = false := h.2 _ (List.getElem_mem _) _ (List.getElem_mem _)
    have n2 : insT l[i].path (l[j]'(by omega)).path = false := h.2 _ (List.getElem_mem _) _ (List.getElem_mem _)
    have hne : (l[j]'(by omega)).path ≠ l[i].path := fun e => by
      have := bl_trans o1 o2
      rw [e, bl_irr] at this; cases this
    generalize hN : fstT l[i].path = n at *
    generalize l[i].path = q at *
    generalize (l[j]'(by omega)).path = p at *
    generalize (l[i - 1]'(by omega)).path = m at *
    rcases fst_ins he with rfl | hp
    · rcases fst_ins hN with rfl | hq
      · exact absurd rfl hne
      · rw [n1] at hq; cases hq
    · rcases fst_ins hN with rfl | hq
      · rw [n2] at hp; cases hp
      · unfold insT at hp hq
        rw [List.isPrefixOf_iff_prefix] at hp hq
        obtain ⟨x, rfl⟩ := hp
        obtain ⟨y, rfl⟩ := hq
        exact ins_fst hn (between o1 o2)
theorem gr_kind {l : List Fil} (h : okT l) (hp : ∀ f ∈ l, isPathB f.path = true) {n : List UInt8} (hn : n ∈ nmsT l) :
    (∃ f ∈ l, f.path = n ∧ rstT f.path = [] ∧ grT l n = [⟨[], f.text, f.run⟩]) ∨ ((∀ f ∈ l, fstT f.path = n → rstT f.path ≠ [] ∧ f.path = n ++ 47 :: rstT f.path ∧ isPathB (rstT f.path) = true) ∧ (∀ f ∈ l, f.path ≠ n) ∧ okT (grT l n)) := by
  have hc : n.count 47 = 0 := by obtain ⟨f, _, rfl⟩ := nms_mem.1 hn; exact fst_no _
  by_cases hex : ∃ f ∈ l, f.path = n
  · obtain ⟨f, hf, e⟩ := hex
    left
    have hfn : fstT f.path = n := by
      rcases fst_ok f.path with ⟨_, k, _⟩ | ⟨k, _⟩
      · rw [k, e]
      · rw [e] at k; omega
    have hr : rstT f.path = [] := by
      rcases fst_ok f.path with ⟨_, _, k⟩ | ⟨k, _⟩
      · exact k
      · rw [e] at k; omega
    refine ⟨f, hf, e, hr, ?_⟩
    obtain ⟨i, hi, rfl⟩ := List.getElem_of_mem hf
    have huniq : ∀ (j : Nat) (hj : j < l.length), fstT l[j].path = n → j = i := by
      intro j hj hjn
      rcases fst_ins hjn with h1 | h1
      · rcases Nat.lt_trichotomy i j with h2 | h2 | h2
        · have := List.pairwise_iff_getElem.1 h.1 i j hi hj h2
          rw [e, h1, bl_irr] at this; cases this
        · exact h2.symm
        · have := List.pairwise_iff_getElem.1 h.1 j i hj hi h2
          rw [e, h1, bl_irr] at this; cases this
      · have := h.2 _ (List.getElem_mem hi) _ (List.getElem_mem hj)
        rw [e, h1] at this; cases this
    have hfil : l.filter (fun f => fstT f.path == n) = [l[i]] := by
      have e1 : l = l.take i ++ l[i] :: l.drop (i + 1) := by rw [List.getElem_cons_drop, List.take_append_drop]
      conv => lhs; rw [e1]
      rw [List.filter_append, List.filter_cons_of_pos (by simpa using hfn)]
      have z1 : (l.take i).filter (fun f => fstT f.path == n) = [] := by
        rw [List.filter_eq_nil_iff]
        intro g hg hgn
        obtain ⟨j, hj, rfl⟩ := List.getElem_of_mem hg
        rw [List.length_take] at hj
        rw [List.getElem_take] at hgn
        have := huniq j (by omega) (by simpa using hgn); omega
      have z2 : (l.drop (i + 1)).filter (fun f => fstT f.path == n) = [] := by
        rw [List.filter_eq_nil_iff]
        intro g hg hgn
        obtain ⟨j, hj, rfl⟩ := List.getElem_of_mem hg
        rw [List.length_drop] at hj
        rw [List.getElem_drop] at hgn
        have := huniq (i + 1 + j) (by omega) (by simpa using hgn); omega
      rw [z1, z2]; rfl
    unfold grT
    rw [hfil, List.map_cons, List.map_nil, stp, hr]
  · right
    have hne : ∀ f ∈ l, f.path ≠ n := fun f hf e => hex ⟨f, hf, e⟩
    have hall : ∀ f ∈ l, fstT f.path = n → rstT f.path ≠ [] ∧ f.path = n ++ 47 :: rstT f.path ∧ isPathB (rstT f.path) = true := by
      intro f hf hfn
      obtain ⟨_, _, k3, k4⟩ := path_fst (hp f hf)
      have hr : rstT f.path ≠ [] := fun h => hne f hf (by rw [← hfn]; exact (k3 h).symm)
      exact ⟨hr, by rw [← hfn]; exact (k4 hr).2, (k4 hr).1⟩
    refine ⟨hall, hne, ?_, ?_⟩
    · unfold grT
      rw [List.pairwise_map]
      refine List.Pairwise.imp_of_mem ?_ (h.1.filter _)
      intro f g hf hg hfg
      obtain ⟨hf1, hf2⟩ := List.mem_filter.1 hf
      obtain ⟨hg1, hg2⟩ := List.mem_filter.1 hg
      rw [(hall f hf1 (by simpa using hf2)).2.1, (hall g hg1 (by simpa using hg2)).2.1] at hfg
      have e : ∀ x : List UInt8, n ++ 47 :: x = (n ++ [47]) ++ x := fun x => by simp
      rw [e (rstT f.path), e (rstT g.path)] at hfg
      show Op.bytesLess (rstT f.path) (rstT g.path) = true
      rw [bl_eq] at hfg ⊢
      simp only [decide_eq_true_eq] at hfg ⊢
      generalize n ++ [47] = q at hfg
      induction q with
      | nil => exact hfg
      | cons c q ih =>
        rw [List.cons_append, List.cons_append, List.cons_lt_cons_iff] at hfg
        exact ih (hfg.elim (fun h => absurd h (UInt8.lt_irrefl _)) (·.2))
    · intro f' hf0 g' hg0
      obtain ⟨f, hf, rfl⟩ := List.mem_map.1 hf0
      obtain ⟨g, hg, rfl⟩ := List.mem_map.1 hg0
      obtain ⟨hf1, hf2⟩ := List.mem_filter.1 hf
      obtain ⟨hg1, hg2⟩ := List.mem_filter.1 hg
      have := h.2 f hf1 g hg1
      rw [(hall f hf1 (by simpa using hf2)).2.1, (hall g hg1 (by simpa using hg2)).2.1] at this
      show insT (rstT f.path) (rstT g.path) = false
      unfold insT at this ⊢
      have e : ∀ x y : List UInt8, (n ++ 47 :: x) ++ y = (n ++ [47]) ++ (x ++ y) := fun x y => by simp
      have e2 : n ++ 47 :: rstT g.path = (n ++ [47]) ++ rstT g.path := by simp
      rw [e, e2] at this
      generalize n ++ [47] = q at this
      induction q with
      | nil => exact this
      | cons c q ih =>
        rw [List.cons_append, List.cons_append, List.isPrefixOf_cons_cons] at this
        simp only [beq_self_eq_true, Bool.true_and] at this
        exact ih this
structure DirOk (d : Nat) (l : List Fil) : Prop where
  len : l.length ≤ 60
  path : ∀ f ∈ l, isPathB f.path = true
  text : ∀ f ∈ l, f.text.length ≤ 100000
  ok : okT l
  dep : ∀ f ∈ l, f.path.length < d
theorem DirOk.of {l : List Fil} (h : chkT l = 0) : DirOk 101 l := by
  unfold chkT at h
  split at h
  · cases h
  rename_i h1
  split at h
  · rename_i h2; exact absurd h h2
  rename_i h2
  have h2 : formT l = 0 := Classical.not_not.1 h2
  split at h
  case isFalse => cases h
  rename_i h3
  refine ⟨by omega, fun f hf => (formT_mem h2 f hf).1, fun f hf => (formT_mem h2 f hf).2, h3, fun f hf => ?_⟩
  have := (path_fst (formT_mem h2 f hf).1).2.1
  omega
theorem DirOk.sub {d : Nat} {l : List Fil} (h : DirOk (d + 1) l) {n : List UInt8} (hn : n ∈ nmsT l) : (∃ f ∈ l, f.path = n ∧ rstT f.path = [] ∧ grT l n = [⟨[], f.text, f.run⟩]) ∨ ((∀ f ∈ grT l n, f.path ≠ []) ∧ DirOk d (grT l n)) := by
  rcases gr_kind h.ok h.path hn with k | ⟨k1, k2, k3⟩
  · exact .inl k
  · refine .inr ⟨fun g hg => ?_, ?_, fun g hg => ?_, fun g hg => ?_, k3, fun g hg => ?_⟩
    · obtain ⟨f, hf, rfl⟩ := List.mem_map.1 hg
      obtain ⟨hf1, hf2⟩ := List.mem_filter.1 hf
      exact (k1 f hf1 (by simpa using hf2)).1
    · unfold grT
      rw [List.length_map]
      exact Nat.le_trans (List.length_filter_le _ _) h.len
    all_goals
      obtain ⟨f, hf, rfl⟩ := List.mem_map.1 hg
      obtain ⟨hf1, hf2⟩ := List.mem_filter.1 hf
      have k := k1 f hf1 (by simpa using hf2)
    · exact k.2.2
    · exact h.text f hf1
    · have h1 := h.dep f hf1
      have h2 := rst_len f.path
      show (rstT f.path).length < d
      have : f.path.length ≠ 0 := fun e => by
        rw [List.length_eq_zero_iff] at e
        rw [e] at k; exact k.1 rfl
      omega
def entT (dir : List Fil → List UInt8 × List (List UInt8)) (n : List UInt8) : List Fil → NodeV × List (List UInt8)
  | [] => (⟨n, 3, sha []⟩, [])
  | f :: r => if f.path = [] then (⟨n, if f.run = true then 2 else 1, sha f.text⟩, [f.text]) else (⟨n, 3, sha (dir (f :: r)).1⟩, (dir (f :: r)).2 ++ [(dir (f :: r)).1])
def nodsT (dir : List Fil → List UInt8 × List (List UInt8)) (l : List Fil) (ns : List (List UInt8)) : List NodeV := ns.map fun n => (entT dir n (grT l n)).1
def blbsT (dir : List Fil → List UInt8 × List (List UInt8)) (l : List Fil) (ns : List (List UInt8)) : List (List UInt8) := ns.flatMap fun n => (entT dir n (grT l n)).2
def dirT : Nat → List Fil → List UInt8 × List (List UInt8)
  | 0, _ => ([], [])
  | d + 1, l => (packNs (nodsT (dirT d) l (sortT (nmsT l))), blbsT (dirT d) l (sortT (nmsT l)))
theorem ent_name (dir : List Fil → List UInt8 × List (List UInt8)) (n : List UInt8) (g : List Fil) : (entT dir n g).1.name = n ∧ 1 ≤ (entT dir n g).1.kind ∧ (entT dir n g).1.kind ≤ 3 ∧ isDig (entT dir n g).1.dig = true := by
  cases g with
  | nil => exact ⟨rfl, (by decide : (1 : Int) ≤ 3), (by decide : (3 : Int) ≤ 3), isDig_sha _⟩
  | cons f r =>
    by_cases h : f.path = []
    · rw [entT, if_pos h]
      refine ⟨rfl, ?_, ?_, isDig_sha _⟩
      · show (1 : Int) ≤ if f.run = true then 2 else 1
        split <;> decide
      · show (if f.run = true then (2 : Int) else 1) ≤ 3
        split <;> decide
    · rw [entT, if_neg h]
      exact ⟨rfl, (by decide : (1 : Int) ≤ 3), (by decide : (3 : Int) ≤ 3), isDig_sha _⟩
theorem nod_all {l : List NodeV} (h : ∀ n ∈ l, nodeE n = 0) : chkLoop l = 0 := by
  unfold chkLoop
  induction l with
  | nil => rfl
  | cons n r ih =>
    rw [List.foldl_cons, chkF, if_pos rfl, h n (List.mem_cons_self ..)]
    exact ih fun m hm => h m (List.mem_cons_of_mem _ hm)
theorem sort_nodup {l : List (List UInt8)} (h : l.Nodup) : (sortT l).Nodup := (sortT_perm l).nodup_iff.2 h
theorem sort_lt {l : List (List UInt8)} (h : l.Nodup) {i j : Nat} (hij : i < j) (hj : j < (sortT l).length) : (sortT l)[i]'(by omega) < (sortT l)[j] := by
  have h1 := List.pairwise_iff_getElem.1 (sortT_pw l) i j (by omega) hj hij
  have h2 := List.pairwise_iff_getElem.1 (sort_nodup h) i j (by omega) hj hij
  rcases Std.lt_trichotomy ((sortT l)[i]'(by omega)) (sortT l)[j] with h | h | h
  · exact h
  · exact absurd h h2
  · exact absurd (List.le_antisymm h1 (List.le_of_lt h)) h2
theorem rise_sort {l : List (List UInt8)} (h : l.Nodup) : riseB (sortT l) = true := by
  unfold riseB
  rw [List.all_eq_true]
  intro j hj
  have hj := List.mem_range.1 hj
  unfold riseP
  rcases Nat.eq_zero_or_pos j with h0 | h0
  · subst h0; rfl
  · have hl := sort_lt h (i := j - 1) (j := j) (by omega) hj
    have e1 : (sortT l).getD j [] = (sortT l)[j] := by simp [List.getD, hj]
    have e2 : (sortT l).getD (j - 1) [] = (sortT l)[j - 1]'(by omega) := by simp [List.getD, show j - 1 < (sortT l).length by omega]
    rw [e1, e2]
    have : leS (sortT l)[j] ((sortT l)[j - 1]'(by omega)) = false := by
      unfold leS
      rw [bl_eq]
      simp only [Bool.or_eq_false_iff, decide_eq_false_iff_not, beq_eq_false_iff_ne]
      exact ⟨List.lt_asymm hl, fun e => by rw [e] at hl; exact absurd hl (List.lt_irrefl _)⟩
    rw [this]; simp
theorem nods_chk {d : Nat} {l : List Fil} (h : DirOk d l) (dir : List Fil → List UInt8 × List (List UInt8)) : chkN (nodsT dir l (sortT (nmsT l))) = 0 := by
  have hlen : (nodsT dir l (sortT (nmsT l))).length ≤ 60 := by
    unfold nodsT
    rw [List.length_map, (sortT_perm _).length_eq]
    exact Nat.le_trans (nms_len l) h.len
  unfold chkN
  rw [if_neg (by omega), if_pos (nod_all fun m hm => ?_), if_pos]
  · have : (nodsT dir l (sortT (nmsT l))).map NodeV.name = sortT (nmsT l) := by
      unfold nodsT
      rw [List.map_map]
      conv => rhs; rw [← List.map_id (sortT (nmsT l))]
      exact List.map_congr_left fun n _ => (ent_name dir n _).1
    rw [this]; exact rise_sort (nms_nodup l)
  · obtain ⟨n, hn, rfl⟩ := List.mem_map.1 hm
    obtain ⟨k1, k2, k3, k4⟩ := ent_name dir n (grT l n)
    unfold nodeE
    have hn' : n ∈ nmsT l := (sortT_perm _).mem_iff.1 hn
    obtain ⟨f, hf, e⟩ := nms_mem.1 hn'
    have hnm : isName n = true := by rw [← e]; exact (path_fst (h.path f hf)).1
    rw [k1, k4, hnm, Bool.and_self, if_pos rfl, if_neg (by omega)]
theorem packNs_size {l : List NodeV} (h : NodesFit l) : (packNs l).length ≤ 10000 := by
  have h1 := packNs_len h.name h.dig
  have h2 := packN_len 9 l.length
  have h3 := h.len
  simp only [packNs, List.length_append]; omega
theorem dir_len {d : Nat} {l : List Fil} (h : DirOk d l) : (dirT d l).1.length ≤ 10000 := by
  cases d with
  | zero => exact Nat.zero_le _
  | succ d => exact packNs_size (chk_fit (nods_chk h _))
theorem blb_len : ∀ {d : Nat} {l : List Fil}, DirOk d l → ∀ t ∈ (dirT d l).2, t.length ≤ 100000
  | 0, l, h, t, ht => by cases ht
  | d + 1, l, h, t, ht => by
    obtain ⟨n, hn, ht⟩ := List.mem_flatMap.1 ht
    have hn' : n ∈ nmsT l := (sortT_perm _).mem_iff.1 hn
    rcases h.sub hn' with ⟨f, hf, _, _, hg⟩ | ⟨hne, hg⟩
    · rw [hg] at ht
      have ht : t ∈ [f.text] := ht
      simp at ht; subst ht; exact h.text f hf
    · cases hgr : grT l n with
      | nil => exact absurd hgr (gr_ne hn')
      | cons f r =>
        rw [hgr] at ht
        rw [entT, if_neg (hne f (by rw [hgr]; simp)), ← hgr] at ht
        rcases List.mem_append.1 ht with ht | ht
        · exact blb_len hg t ht
        · simp at ht
          subst ht
          have := dir_len hg; omega
end Go.Proofs.YtjkeekbfgnmngaaGreatDoor
end
section
set_option linter.unusedVariables false
set_option linter.unusedSimpArgs false
set_option maxRecDepth 20000
namespace Go.Proofs.YtjkeekbfgnmngaaGreatDoor
open Go Go.Ab
def cutAV (s : List UInt8) : AV := .tup [.str (fstT s), .str (rstT s), .bool (decide (0 ≤ Lib.indexByte s 47))]
theorem cutAV_free (s : List UInt8) : Free true (cutAV s) := .tup (by intro x hx; simp at hx; rcases hx with rfl | rfl | rfl; exact .str; exact .str; exact .bool)
theorem sCut_ok (s : List UInt8) (hs : s.length ≤ 1000000000) : Calc cx 109 [.str s, .str [47]] (cutAV s) :=
  pure_intro (fun a w => Tryz.call109 a w) Tryz.func109 rfl Tryz.ntmps109 rfl (cutAV_free s) fun B => by
    have hI := sIndex_ok s 47
    unfold cutAV
    rcases fst_ix s with ⟨h1, h2, h3⟩ | ⟨m, h1, h2, h3, h4⟩
    · rw [h1] at hI ⊢
      rw [h2, h3]
      refine pa [.v (.int .i64 (-1)), .b false] rfl ?_ ?_
      · (repeat' with_reducible apply AllP_cons) <;> try exact aC
        · exact ⟨_, hI, .cons (.refl .str) (.cons (.refl .str) (.nil _))⟩
      exact S_retc (.tup (by intro x hx; simp at hx; rcases hx with rfl | rfl | rfl; exact .str; exact .str; exact .bool)) rfl trivial rfl
    · rw [h1] at hI ⊢
      have e1 : decide ((m : Int) ≥ 0) = true := decide_eq_true (by omega)
      have hw : IntKind.i64.wrap ((m : Int) + ((([47] : List UInt8).length : Nat) : Int)) = ((m + 1 : Nat) : Int) := by
        show IntKind.i64.wrap ((m : Int) + 1) = ((m + 1 : Nat) : Int)
        exact w64 (by omega) (by omega)
      refine pa [.v (.int .i64 (m : Nat)), .b true] rfl ?_ ?_
      · (repeat' with_reducible apply AllP_cons) <;> try exact aC
        · exact ⟨_, hI, .cons (.refl .str) (.cons (.refl .str) (.nil _))⟩
        all_goals (rw [hw]; omega)
      refine S_retc (.tup (by intro x hx; simp at hx; rcases hx with rfl | rfl | rfl; exact .str; exact .str; exact .bool)) rfl trivial ?_
      rw [h3, h4]
      show AV.tup [.str (cutL none (some (m : Int)) s), .str (cutL (some (IntKind.i64.wrap ((m : Int) + ((([47] : List UInt8).length : Nat) : Int)))) none s), .bool true] = _
      rw [hw, decide_eq_true (by omega)]
      simp [cutL]
theorem Cut_ok (s : List UInt8) (hs : s.length ≤ 1000000000) : Calc cx 81 [.str s, .str [47]] (cutAV s) :=
  pure_intro (fun a w => Tryz.call81 a w) Tryz.func81 rfl Tryz.ntmps81 rfl (cutAV_free s) fun B => by
    refine pa [.v (cutAV s)] rfl ?_ ?_
    · (repeat' with_reducible apply AllP_cons) <;> try exact aC
      · exact ⟨_, sCut_ok s hs, .cons (.refl .str) (.cons (.refl .str) (.nil _))⟩
    exact S_retc (cutAV_free s) rfl trivial rfl
end Go.Proofs.YtjkeekbfgnmngaaGreatDoor
end
section
set_option linter.unusedVariables false
set_option linter.unusedSimpArgs false
set_option maxRecDepth 20000
namespace Go.Proofs.YtjkeekbfgnmngaaGreatDoor
open Go Go.Ab Go.Shelf Go.RowKit Go.Maps Go.Sort
def lay_keysB_ren : Go.Shelf.Ren := ⟨fun | 7 => 34 | 10 => 75 | n => n, fun | 23 => 66 | 26 => 9 | 3 => 4 | 28 => 59 | 0 => 0 | 27 => 58 | 33 => 64 | 4 => 4 | n => n, fun | n => n⟩
theorem lay_keysB : Go.Proofs.SlLaysZ.n7 Tryz.prog lay_keysB_ren := {
  mixed := by kernel_rfl
  f7 := ⟨Tryz.f34.name, by decide, Tryz.func34.trans (congrArg some (by kernel_rfl))⟩
  f10 := ⟨Tryz.f75.name, by decide, Tryz.func75.trans (congrArg some (by kernel_rfl))⟩
  t0 := Tryz.underlying0
  a0 := Tryz.isAgg0
  z0 := Tryz.sizeOf0
  v0 := Tryz.zeroValue0
  t4 := Tryz.underlying4
  a4 := Tryz.isAgg4
  z4 := Tryz.sizeOf4
  v4 := Tryz.zeroValue4
  t23 := Tryz.underlying66
  a23 := Tryz.isAgg66
  z23 := Tryz.sizeOf66
  v23 := Tryz.zeroValue66
  t26 := Tryz.underlying9
  a26 := Tryz.isAgg9
  z26 := Tryz.sizeOf9
  v26 := Tryz.zeroValue9
  t27 := Tryz.underlying58
  a27 := Tryz.isAgg58
  z27 := Tryz.sizeOf58
  v27 := Tryz.zeroValue58
  t28 := Tryz.underlying59
  a28 := Tryz.isAgg59
  z28 := Tryz.sizeOf59
  v28 := Tryz.zeroValue59
  t33 := Tryz.underlying64
  a33 := Tryz.isAgg64
  z33 := Tryz.sizeOf64
  v33 := Tryz.zeroValue64 }
def lay_keysL_ren : Go.Shelf.Ren := ⟨fun | 7 => 82 | 10 => 110 | n => n, fun | 23 => 119 | 26 => 9 | 3 => 22 | 28 => 59 | 0 => 0 | 27 => 58 | 33 => 64 | 4 => 4 | n => n, fun | n => n⟩
theorem lay_keysL : Go.Proofs.SlLaysZ.n7 Tryz.prog lay_keysL_ren := {
  mixed := by kernel_rfl
  f7 := ⟨Tryz.f82.name, by decide, Tryz.func82.trans (congrArg some (by kernel_rfl))⟩
  f10 := ⟨Tryz.f110.name, by decide, Tryz.func110.trans (congrArg some (by kernel_rfl))⟩
  t0 := Tryz.underlying0
  a0 := Tryz.isAgg0
  z0 := Tryz.sizeOf0
  v0 := Tryz.zeroValue0
  t4 := Tryz.underlying4
  a4 := Tryz.isAgg4
  z4 := Tryz.sizeOf4
  v4 := Tryz.zeroValue4
  t23 := Tryz.underlying119
  a23 := Tryz.isAgg119
  z23 := Tryz.sizeOf119
  v23 := Tryz.zeroValue119
  t26 := Tryz.underlying9
  a26 := Tryz.isAgg9
  z26 := Tryz.sizeOf9
  v26 := Tryz.zeroValue9
  t27 := Tryz.underlying58
  a27 := Tryz.isAgg58
  z27 := Tryz.sizeOf58
  v27 := Tryz.zeroValue58
  t28 := Tryz.underlying59
  a28 := Tryz.isAgg59
  z28 := Tryz.sizeOf59
  v28 := Tryz.zeroValue59
  t33 := Tryz.underlying64
  a33 := Tryz.isAgg64
  z33 := Tryz.sizeOf64
  v33 := Tryz.zeroValue64 }
def lay_sorted_ren : Go.Shelf.Ren := ⟨fun | 6 => 28 | 8 => 68 | 9 => 69 | 11 => 101 | 13 => 99 | 12 => 102 | 23 => 135 | 24 => 136 | 14 => 137 | 15 => 138 | 16 => 139 | 17 => 140 | 18 => 141 | 19 => 142 | 20 => 143 | 21 => 144 | 22 => 145 | 25 => 163 | 26 => 159 | 27 => 160 | 28 => 164 | 29 => 165 | 30 => 100 | 31 => 177 | n => n, fun | 26 => 9 | 28 => 59 | 24 => 30 | 0 => 0 | 3 => 3 | 37 => 115 | 48 => 153 | 50 => 151 | 4 => 4 | 40 => 170 | 39 => 169 | 45 => 174 | 5 => 5 | 9 => 9 | 51 => 191 | 55 => 195 | 57 => 206 | 58 => 207 | 33 => 64 | n => n, fun | n => n⟩
theorem lay_sorted : Go.Proofs.SlLaysZ.n6 Tryz.prog lay_sorted_ren := {
  mixed := by kernel_rfl
  f6 := ⟨Tryz.f28.name, by decide, Tryz.func28.trans (congrArg some (by kernel_rfl))⟩
  f8 := ⟨Tryz.f68.name, by decide, Tryz.func68.trans (congrArg some (by kernel_rfl))⟩
  f11 := ⟨Tryz.f101.name, by decide, Tryz.func101.trans (congrArg some (by kernel_rfl))⟩
  t0 := Tryz.underlying0
  a0 := Tryz.isAgg0
  z0 := Tryz.sizeOf0
  v0 := Tryz.zeroValue0
  t24 := Tryz.underlying30
  a24 := Tryz.isAgg30
  z24 := Tryz.sizeOf30
  v24 := Tryz.zeroValue30
  t26 := Tryz.underlying9
  a26 := Tryz.isAgg9
  z26 := Tryz.sizeOf9
  v26 := Tryz.zeroValue9
  t28 := Tryz.underlying59
  a28 := Tryz.isAgg59
  z28 := Tryz.sizeOf59
  v28 := Tryz.zeroValue59
  i26 := by kernel_rfl }
def lay_sort_ren : Go.Shelf.Ren := ⟨fun | 6 => 69 | 8 => 99 | 9 => 102 | 19 => 135 | 20 => 136 | 21 => 137 | 22 => 138 | 23 => 139 | 24 => 140 | 25 => 141 | 26 => 142 | 27 => 143 | 28 => 144 | 29 => 145 | 36 => 163 | 31 => 159 | 32 => 160 | 37 => 164 | 38 => 165 | 39 => 100 | 41 => 177 | n => n, fun | 27 => 30 | 29 => 9 | 3 => 3 | 32 => 115 | 26 => 30 | 0 => 0 | 44 => 153 | 46 => 151 | 4 => 4 | 36 => 170 | 35 => 169 | 41 => 174 | 5 => 5 | 9 => 9 | 53 => 191 | 57 => 195 | 63 => 206 | 64 => 207 | n => n, fun | n => n⟩
theorem lay_sort : Go.Proofs.SlLaysM.n6 Tryz.prog lay_sort_ren := {
  mixed := by kernel_rfl
  f6 := ⟨Tryz.f69.name, by decide, Tryz.func69.trans (congrArg some (by kernel_rfl))⟩
  f8 := Tryz.func99.trans (congrArg some (by kernel_rfl))
  f9 := ⟨Tryz.f102.name, by decide, Tryz.func102.trans (congrArg some (by kernel_rfl))⟩
  f19 := Tryz.func135.trans (congrArg some (by kernel_rfl))
  f20 := Tryz.func136.trans (congrArg some (by kernel_rfl))
  f21 := ⟨Tryz.f137.name, by decide, Tryz.func137.trans (congrArg some (by kernel_rfl))⟩
  f22 := ⟨Tryz.f138.name, by decide, Tryz.func138.trans (congrArg some (by kernel_rfl))⟩
  f23 := ⟨Tryz.f139.name, by decide, Tryz.func139.trans (congrArg some (by kernel_rfl))⟩
  f24 := ⟨Tryz.f140.name, by decide, Tryz.func140.trans (congrArg some (by kernel_rfl))⟩
  f25 := ⟨Tryz.f141.name, by decide, Tryz.func141.trans (congrArg some (by kernel_rfl))⟩
  f26 := ⟨Tryz.f142.name, by decide, Tryz.func142.trans (congrArg some (by kernel_rfl))⟩
  f27 := ⟨Tryz.f143.name, by decide, Tryz.func143.trans (congrArg some (by kernel_rfl))⟩
  f28 := ⟨Tryz.f144.name, by decide, Tryz.func144.trans (congrArg some (by kernel_rfl))⟩
  f29 := ⟨Tryz.f145.name, by decide, Tryz.func145.trans (congrArg some (by kernel_rfl))⟩
  f31 := Tryz.func159.trans (congrArg some (by kernel_rfl))
  f32 := Tryz.func160.trans (congrArg some (by kernel_rfl))
  f36 := ⟨Tryz.f163.name, by decide, Tryz.func163.trans (congrArg some (by kernel_rfl))⟩
  f37 := ⟨Tryz.f164.name, by decide, Tryz.func164.trans (congrArg some (by kernel_rfl))⟩
  f38 := ⟨Tryz.f165.name, by decide, Tryz.func165.trans (congrArg some (by kernel_rfl))⟩
  f39 := ⟨Tryz.f100.name, by decide, Tryz.func100.trans (congrArg some (by kernel_rfl))⟩
  f41 := ⟨Tryz.f177.name, by decide, Tryz.func177.trans (congrArg some (by kernel_rfl))⟩
  t0 := Tryz.underlying0
  a0 := Tryz.isAgg0
  z0 := Tryz.sizeOf0
  v0 := Tryz.zeroValue0
  t3 := Tryz.underlying3
  a3 := Tryz.isAgg3
  z3 := Tryz.sizeOf3
  v3 := Tryz.zeroValue3
  t4 := Tryz.underlying4
  a4 := Tryz.isAgg4
  z4 := Tryz.sizeOf4
  v4 := Tryz.zeroValue4
  t5 := Tryz.underlying5
  a5 := Tryz.isAgg5
  z5 := Tryz.sizeOf5
  v5 := Tryz.zeroValue5
  t9 := Tryz.underlying9
  a9 := Tryz.isAgg9
  z9 := Tryz.sizeOf9
  v9 := Tryz.zeroValue9
  t26 := Tryz.underlying30
  a26 := Tryz.isAgg30
  z26 := Tryz.sizeOf30
  v26 := Tryz.zeroValue30
  t27 := Tryz.underlying30
  a27 := Tryz.isAgg30
  z27 := Tryz.sizeOf30
  v27 := Tryz.zeroValue30
  t29 := Tryz.underlying9
  a29 := Tryz.isAgg9
  z29 := Tryz.sizeOf9
  v29 := Tryz.zeroValue9
  t32 := Tryz.underlying115
  a32 := Tryz.isAgg115
  z32 := Tryz.sizeOf115
  v32 := Tryz.zeroValue115
  t35 := Tryz.underlying169
  a35 := Tryz.isAgg169
  z35 := Tryz.sizeOf169
  v35 := Tryz.zeroValue169
  t36 := Tryz.underlying170
  a36 := Tryz.isAgg170
  z36 := Tryz.sizeOf170
  v36 := Tryz.zeroValue170
  t41 := Tryz.underlying174
  a41 := Tryz.isAgg174
  z41 := Tryz.sizeOf174
  v41 := Tryz.zeroValue174
  t44 := Tryz.underlying153
  a44 := Tryz.isAgg153
  z44 := Tryz.sizeOf153
  v44 := Tryz.zeroValue153
  t46 := Tryz.underlying151
  a46 := Tryz.isAgg151
  z46 := Tryz.sizeOf151
  v46 := Tryz.zeroValue151
  t53 := Tryz.underlying191
  a53 := Tryz.isAgg191
  z53 := Tryz.sizeOf191
  v53 := Tryz.zeroValue191
  t57 := Tryz.underlying195
  a57 := Tryz.isAgg195
  z57 := Tryz.sizeOf195
  v57 := Tryz.zeroValue195
  t63 := Tryz.underlying206
  a63 := Tryz.isAgg206
  z63 := Tryz.sizeOf206
  v63 := Tryz.zeroValue206
  t64 := Tryz.underlying207
  a64 := Tryz.isAgg207
  z64 := Tryz.sizeOf207
  v64 := Tryz.zeroValue207 }
end Go.Proofs.YtjkeekbfgnmngaaGreatDoor
end
section
set_option linter.unusedVariables false
set_option linter.unusedSimpArgs false
namespace Go.Ab
open Go
theorem Inv.grown {cx : Cx} {r : Rl} {σ : Heap} {w w' : World} (hi : Inv cx r σ w) (hsame : ∀ b, b < w.heap.size → w'.heap[b]? = w.heap[b]?) (hs : w.heap.size ≤ w'.heap.size) (hos : w'.os = w.os) (hout : w'.output = w.output) (htape : w'.tape = w.tape) :
    Inv cx r σ w' ∧ Ext r σ w r σ w' := by
  have hsize : ∀ (b : Nat) (c : Array Value) (t : TypeId) (f : Nat × Nat), w.heap[b]? = some (Obj.cells c t f) → ∃ (c' : Array Value) (f' : Nat × Nat), w'.heap[b]? = some (Obj.cells c' t f') ∧ c'.size = c.size := by
    intro b c t f h
    have hlt : b < w.heap.size := by
      rcases Nat.lt_or_ge b w.heap.size with h' | h'
      · exact h'
      · simp [Array.getElem?_eq_none h'] at h
    exact ⟨c, f, by rw [hsame b hlt, h], rfl⟩
  have g : Grow r w r w' := ⟨fun _ h => h, fun _ h => h, fun _ _ _ h => h, fun b hb => hsame b (hi.Ilt b hb), hsize⟩
  refine ⟨⟨?_, fun id ver b o h => ?_, hi.inj, hi.imm, fun b hb => Nat.lt_of_lt_of_le (hi.Ilt b hb) hs, hi.SI, hi.glob.mono g hi.SI⟩, ?_⟩
  · intro id ver x hx
    rcases hi.box id ver x hx with ⟨b, o, h1, h2⟩ | h1
    · exact .inl ⟨b, o, h1, h2.mono g (hsame b h2.lt)⟩
    · exact .inr h1
  · obtain ⟨h1, h2⟩ := hi.lt id ver b o h
    exact ⟨h1, Nat.lt_of_lt_of_le h2 hs⟩
  · exact ⟨fun _ h => h, fun _ h => h, fun _ h => .inl h, fun _ h => .inl h, fun _ _ _ h => h, hs, Nat.le_refl _, fun b hb _ => hsame b hb, fun _ h => .inl h, hsize, hos, hout, htape, fun id ver b o h => .inl ⟨ver, o, h⟩⟩
theorem Inv.whole {cx : Cx} {r : Rl} {σ : Heap} {w : World} {g : Nat} {vs : Array Value} {name : String} (hi : Inv cx r σ w) (hg : cx.P.globalNamed name = some g) (hx : cx.X g = some vs) : w.var? cx.P name = some vs := by
  obtain ⟨_, t, f, h⟩ := hi.glob.X g vs hx
  unfold World.var?
  rw [hg]
  show (match w.heap[g]? with | some (.cells cs _ _) => some cs | _ => none) = _
  rw [h]
end Go.Ab
end
section
set_option linter.unusedVariables false
set_option linter.unusedSimpArgs false
namespace Go.Ab
open Go Go.Shelf Go.RowKit Go.Maps Go.Sort
theorem Inv.adopt {cx : Cx} {r : Rl} {σ : Heap} {w : World} {b : Nat} (hi : Inv cx r σ w) (hb : b < w.heap.size) (hl : ¬ Live r σ b) : Inv cx (r.add b) σ w ∧ Grow r w (r.add b) w := by
  have g : Grow r w (r.add b) w := ⟨fun _ h => .inl h, fun _ h => .inl h, fun _ _ _ h => h, fun _ _ => rfl, fun b c t f h => ⟨c, f, h, rfl⟩⟩
  refine ⟨⟨fun id ver x hx => ?_, hi.lt, hi.inj, fun k hk hI => ?_, fun k hk => ?_, fun k hk => ?_, hi.glob.mono g hi.SI⟩, g⟩
  · rcases hi.box id ver x hx with ⟨b', o, h1, h2⟩ | h1
    · exact .inl ⟨b', o, h1, h2.mono g rfl⟩
    · exact .inr h1
  · rcases hI with hI | rfl
    · exact hi.imm k hk hI
    · exact hl hk
  · rcases hk with hk | rfl
    · exact hi.Ilt k hk
    · exact hb
  · rcases hk with hk | hk
    · exact .inl (hi.SI k hk)
    · exact .inr hk
section
variable {cx : Cx} {ρ : Ren}
theorem Keys_gen (L : Go.Proofs.SlLaysZ.n7 cx.P ρ) (he : Enters cx.P (ρ.f 7)) {σ : Heap} {id ver i v : Nat} {σ' : Heap} (ha : allocH σ (.cells [.map id ver] ⟨false, some (ρ.t 23)⟩) = (i, v, σ')) :
    CallOk cx (ρ.f 7) [.map id ver] σ (fun e s => e = .ret (.func (.func (ρ.f 10)) [] [.ptr i v 0]) ∧ s = σ') := by
  refine ⟨he, fun r w vs hi hv => ?_⟩
  obtain ⟨hs, hv⟩ := hv
  have g0 := hv 0 (by simp)
  have hvs : vs = #[vs.getD 0 undef] := by
    have hs : vs.size = 1 := hs
    refine Array.ext (by simp [hs]) fun j h1 h2 => ?_
    match j, h1 with
    | 0, h1 => simp [Array.getD, h1]
    | j + 1, h1 => omega
  rw [hvs]
  generalize vs.getD 0 undef = z at g0
  have g0 : VRel r w z (.map id ver) := g0
  cases g0 with
  | map hρ =>
    rename_i b o
    refine (callsIn_wide.1 (Go.Proofs.AnyZ.keys_in L Fence.wide 5 trivial rfl (some b) w)).mono ?_
    rintro e w' ⟨rfl, rfl⟩
    obtain ⟨r', k1, k2, k3, k4, k5⟩ := hi.newCells (c := #[.map (some b)]) (t := ρ.t 23) (cs := [.map id ver]) ha (fun j hj => by
      have : j = 0 := by simpa using hj
      subst this
      exact ⟨_, rfl, .map hρ⟩) (by intro x hx; simp at hx; subst hx; rfl) (fun T h => by cases h; rfl)
    exact ⟨_, _, r', ⟨rfl, rfl⟩, .func rfl (fun j hj => absurd hj (by simp)) rfl (fun j hj => by
      have : j = 0 := by simpa using hj
      subst this
      exact VRel.ptr (o := 0) (off := 0) k3), k1, k2⟩
theorem ones_map_str (l : List (List UInt8)) : (l.map AV.str).flatMap AV.cells = l.map AV.str := by
  induction l with
  | nil => rfl
  | cons x r ih => rw [List.map_cons, List.flatMap_cons, ih]; rfl
theorem keys_own {P : Program} {k : TypeId} (hk : P.underlying k = some .string) {r : Rl} {w : World} {es : Array MapEntry} {clock mb : Nat} {kvs : List (AV × AV)} {st : Option (List Nat × Nat)} (hb : w.heap[mb]? = some (.map es clock)) (hm : MapIs r w es clock kvs st)
    {ks : List (List UInt8)} (hks : kvs.map Prod.fst = ks.map AV.str) (hnd : ks.Nodup) (hlen : ks.length ≤ 1000000000) (hsz : ∀ x ∈ ks, x.length ≤ maxLen) :
    ∃ D : DataW Unit, w.ownsMap P k (fun _ => some (DataW.nil, [])) mb ks.length D ∧ (strKeys D).Perm ks ∧ Maps.size D = ks.length := by
  have hl : kvs.length = ks.length := by have := congrArg List.length hks; simpa using this
  have hel : ∀ (j : Nat) (hj : j < ks.length), ∃ e, es[j]? = some e ∧ ∃ s : ByteArray, e.key = .string s ∧ s.data.toList = ks[j] := by
    intro j hj
    obtain ⟨e, h1, h2, h3⟩ := hm.2.1 j (by omega)
    have : (kvs[j]'(by omega)).1 = .str ks[j] := by
      have h4 : (kvs.map Prod.fst)[j]? = (ks.map AV.str)[j]? := by rw [hks]
      rw [List.getElem?_map, List.getElem?_map, List.getElem?_eq_getElem (by omega), List.getElem?_eq_getElem hj] at h4
      exact Option.some.inj h4
    rw [this] at h2
    refine ⟨e, h1, ?_⟩
    generalize e.key = z at h2
    cases h2 with
    | str hs => exact ⟨_, rfl, hs⟩
  have hes : es.size = ks.length := by rw [hm.1, hl]
  have hmem : ∀ x ∈ es.toList, ∃ (j : Nat) (hj : j < ks.length), es[j]? = some x ∧ ∃ s : ByteArray, x.key = .string s ∧ s.data.toList = ks[j] := by
    intro x hx
    obtain ⟨j, hj, rfl⟩ := List.getElem_of_mem hx
    rw [Array.length_toList] at hj
    obtain ⟨e, h1, h2⟩ := hel j (by omega)
    have h3 : es[j]? = some es.toList[j] := by rw [Array.getElem?_eq_getElem hj]; simp
    rw [h3] at h1
    obtain rfl := Option.some.inj h1
    exact ⟨j, by omega, h3, h2⟩
  let R : Value → Option (DataW Unit × List MemPlace) := fun _ => some (DataW.nil, [])
  have hrd : ∀ x ∈ es.toList, ∃ (j : Nat) (hj : j < ks.length), WideElems.rd P k R x = some (.string ks[j], DataW.nil) := by
    intro x hx
    obtain ⟨j, hj, _, s, h2, h3⟩ := hmem x hx
    refine ⟨j, hj, ?_⟩
    have hsl : s.size ≤ maxLen := by
      have := hsz ks[j] (List.getElem_mem hj)
      rw [← h3, Array.length_toList] at this
      exact this
    unfold WideElems.rd
    rw [h2, WideMaps.keyOf_string_mk hk hsl, h3]; rfl
  have hlist : es.toList.map (fun x => strOf (WideElems.rg P k R x).1) = ks := by
    apply List.ext_getElem
    · rw [List.length_map, Array.length_toList, hes]
    · intro j h1 h2
      obtain ⟨e, k1, s, k2, k3⟩ := hel j h2
      have hsl : s.size ≤ maxLen := by
        have := hsz ks[j] (List.getElem_mem h2)
        rw [← k3, Array.length_toList] at this
        exact this
      have hje : es.toList[j]'(by simpa using h1) = e := by
        have h3 : es[j]? = some (es.toList[j]'(by simpa using h1)) := by rw [Array.getElem?_eq_getElem (by rw [List.length_map, Array.length_toList] at h1; exact h1)]; simp
        rw [h3] at k1; exact Option.some.inj k1
      rw [List.getElem_map, hje]
      unfold WideElems.rg WideElems.rd
      rw [k2, WideMaps.keyOf_string_mk hk hsl, k3]; rfl
  refine ⟨.map ((es.toList.map (WideElems.rg P k R)).foldr DataW.insert []), ⟨es, clock, hb, ⟨?_, ⟨?_, ?_, ?_⟩, ?_⟩, by omega, rfl⟩, ?_, ?_⟩
  · rw [hes]; unfold maxLen; omega
  · intro x hx
    obtain ⟨j, hj, h1, _⟩ := hmem x hx
    exact hm.2.2.2.1 j x h1
  · refine List.pairwise_iff_getElem.2 (fun p q hp hq hpq hee => ?_)
    rw [List.length_map, Array.length_toList] at hp hq
    simp only [List.getElem_map, Array.getElem_toList] at hee
    have := hm.2.2.1 p q _ _ (Array.getElem?_eq_getElem hp) (Array.getElem?_eq_getElem hq) hee
    omega
  · refine List.pairwise_iff_getElem.2 (fun p q hp hq hpq hee => ?_)
    rw [List.length_map, Array.length_toList] at hp hq
    simp only [List.getElem_map, Array.getElem_toList] at hee
    obtain ⟨e1, a1, s1, a2, a3⟩ := hel p (by omega)
    obtain ⟨e2, b1, s2, b2, b3⟩ := hel q (by omega)
    rw [Array.getElem?_eq_getElem hp] at a1
    rw [Array.getElem?_eq_getElem hq] at b1
    rw [Option.some.inj a1, Option.some.inj b1, a2, b2] at hee
    cases hee
    have : ks[p]'(by omega) = ks[q]'(by omega) := by rw [← a3, ← b3]
    exact (List.pairwise_iff_getElem.1 hnd p q (by omega) (by omega) hpq) this
  · intro x hx
    obtain ⟨j, hj, h⟩ := hrd x hx
    exact ⟨_, h⟩
  · show (List.map (fun p : Lit × DataW Unit => strOf p.1) _).Perm ks
    refine ((WideShapes.sorted_perm _).map _).trans ?_
    rw [List.map_map]
    exact List.Perm.of_eq hlist
  · show List.length _ = ks.length
    rw [length_sorted, List.length_map, Array.length_toList, hes]
theorem Sorted_gen {ρk : Ren} (Lk : Go.Proofs.SlLaysZ.n7 cx.P ρk) (Ls : Go.Proofs.SlLaysZ.n6 cx.P ρ) (hsort : ∀ m, Go.Proofs.AnyZ.SortsIn cx.P ρ Fence.wide m) (he : Enters cx.P (ρ.f 6)) (e9 : ∀ args w, (callFunc (ρ.f 9) args).run cx.P w = .ok (.enter (ρ.f 9) args) w)
    (eg : ∀ args w, (callFunc (ρk.f 10) args).run cx.P w = .ok (.enter (ρk.f 10) args) w) (hk : cx.P.underlying (ρk.t 26) = some .string) {σ : Heap} {id ver i v : Nat} {kvs : List (AV × AV)} {st : Option (List Nat × Nat)} {T : TypeId}
    (hσi : σ[i]? = some (v, some (.cells [.map id ver] ⟨false, some T⟩))) (hσ : σ[id]? = some (ver, some (.map kvs st))) {ks : List (List UInt8)} (hks : kvs.map Prod.fst = ks.map AV.str) (hnd : ks.Nodup) (hlen : ks.length ≤ 1000000000) (hsz : ∀ x ∈ ks, x.length ≤ maxLen) :
    CallOk cx (ρ.f 6) [.func (.func (ρk.f 10)) [] [.ptr i v 0]] σ (fun e s => e = .ret (.sl true false 1 ((sortT ks).map AV.str)) ∧ s = σ) := by
  refine ⟨he, fun r w vs hi hv => ?_⟩
  obtain ⟨hs, hv⟩ := hv
  have g0 := hv 0 (by simp)
  have hvs : vs = #[vs.getD 0 undef] := by
    have hs : vs.size = 1 := hs
    refine Array.ext (by simp [hs]) fun j h1 h2 => ?_
    match j, h1 with
    | 0, h1 => simp [Array.getD, h1]
    | j + 1, h1 => omega
  rw [hvs]
  generalize vs.getD 0 undef = z at g0
  have g0 : VRel r w z (.func (.func (ρk.f 10)) [] [.ptr i v 0]) := g0
  cases g0 with
  | func h1 hf h2 hb =>
    rename_i first captured
    have hfirst : first = #[] := Array.eq_empty_of_size_eq_zero h1
    have hp := hb 0 (by simp)
    have hcap : captured = #[captured.getD 0 undef] := by
      have h2 : captured.size = 1 := h2
      refine Array.ext (by simp [h2]) fun j h1 h2 => ?_
      match j, h1 with
      | 0, h1 => simp [Array.getD, h1]
      | j + 1, h1 => omega
    rw [hcap, hfirst]
    generalize captured.getD 0 undef = pz at hp
    have hp : VRel r w pz (.ptr i v 0) := hp
    cases hp with
    | ptr hρ =>
      rename_i b1 o1
      rcases hi.box i v _ hσi with ⟨b1', o', hρ', hbx⟩ | ⟨_, ro, h⟩
      case inr => cases h
      rw [hρ] at hρ'
      obtain ⟨rfl, rfl⟩ : b1 = b1' ∧ o1 = o' := by cases hρ'; exact ⟨rfl, rfl⟩
      obtain ⟨c, t, lo, hi0, q1, q2, q3, q4, q5⟩ := hbx
      obtain ⟨_, rfl, _⟩ := q5 T rfl
      obtain ⟨mv, m1, m2⟩ := q2 0 (by simp)
      have m2 : VRel r w mv (.map id ver) := m2
      obtain ⟨mb, es, clock, rfl, hρm, hmb, hmi⟩ := hi.mapAt hσ m2
      have hcell : w.cell? ⟨b1, 0, none⟩ = some (.map (some mb)) := by simp [World.cell?, q1, ← m1]
      have hb1 : b1 < w.heap.size := (hi.lt _ _ _ _ hρ).2
      obtain ⟨D, d1, d2, d3⟩ := keys_own hk hmb hmi hks hnd hlen hsz
      have hseq := Go.Proofs.AnyZ.keys_gives (ρ := ρk) { Lk with } Fence.wide 2 trivial rfl (by omega) b1 mb ks.length D w hb1 hcell d1
      have hc := Go.Proofs.AnyZ.sorted_in Ls Fence.wide 5 trivial trivial trivial trivial rfl (by omega) (hsort _) e9 (ρk.f 10) #[.pointer (some ⟨b1, 0, none⟩)] trivial eg _ _ (by rw [d3]; unfold maxLen; omega) (by rw [d3]; omega) w hseq
      refine (callsIn_wide.1 hc).mono ?_
      rintro e w' ⟨v', ss, rfl, hS, hrow, hnil, hbel⟩
      obtain ⟨p1, p2⟩ := hi.grown (w' := w') hbel.block hbel.size hbel.os hbel.output hbel.tape
      have hss : (ss.mergeSort fun x y => decide (x ≤ y)) = sortT ks := sortT_eq (hS.trans d2)
      have hsl : ss.length = (sortT ks).length := by rw [← hss, List.length_mergeSort]
      rw [hss] at hrow
      rcases hrow.2 with ⟨rfl, hz⟩ | ⟨gb, cap, cur, rfl, hbase, hgb, r1, r2, r3, r4⟩
      · have hke : sortT ks = [] := List.length_eq_zero_iff.1 (by omega)
        rw [hke]
        exact ⟨_, _, r, ⟨rfl, rfl⟩, .sl0 (fun h => by cases h), p1, p2⟩
      · have hlt : gb < w'.heap.size := by
          rcases Nat.lt_or_ge gb w'.heap.size with h | h
          · exact h
          · rw [Array.getElem?_eq_none h] at hgb; cases hgb
        have hnl : ¬ Live r σ gb := by
          rintro ⟨id', ver', x, o, _, h2⟩
          have := (hi.lt _ _ _ _ h2).2
          omega
        obtain ⟨a1, a2⟩ := p1.adopt hlt hnl
        have hx : Ext r σ w (r.add gb) σ w' :=
          ⟨fun b h => .inl h, fun b h => .inl h, fun b h => h.elim .inl (fun e => .inr (by omega)), fun b h => h.elim .inl (fun e => .inr (.inr (by omega))), p2.ρ, p2.hs, p2.σl, p2.same, p2.liv, p2.size, p2.os, p2.output, p2.tape, p2.blk⟩
        refine ⟨_, _, r.add gb, ⟨rfl, rfl⟩, ?_, a1, hx⟩
        rw [hsl]
        refine Cells.sl (by rw [List.length_map]) (by rw [← hsl]; exact r1) (fun h => by cases h) (.inr rfl) (fun _ => .inr rfl) (fun x hx => by obtain ⟨y, _, rfl⟩ := List.mem_map.1 hx; rfl) ?_
        intro j hj
        rw [ones_map_str, List.length_map] at hj
        have hcj : cur[0 + j]? = some (Go.Proofs.encStr (sortT ks)[j]) := by
          have h5 : (cur.toList.take (ss.length * 1))[j]? = ((sortT ks).map Go.Proofs.encStr)[j]? := by rw [r4]
          rw [List.getElem?_take_of_lt (by omega), List.getElem?_map, List.getElem?_eq_getElem hj, Array.getElem?_toList] at h5
          rw [Nat.zero_add]; exact h5
        refine ⟨Go.Proofs.encStr (sortT ks)[j], by simp only [World.cell?, hgb]; exact hcj, ?_⟩
        simp only [ones_map_str, List.getElem_map]
        exact .str (by simp)
end
end Go.Ab
end
section
set_option linter.unusedVariables false
set_option linter.unusedSimpArgs false
namespace Go.Ab
open Go
def mapF (ks : List (List UInt8)) (val : List UInt8 → AV) : List (AV × AV) := ks.map fun k => (.str k, val k)
def addK (l : List (List UInt8)) (s : List UInt8) : List (List UInt8) := if s ∈ l then l else l ++ [s]
def updF (val : List UInt8 → AV) (t : List UInt8) (v : AV) : List UInt8 → AV := fun k => if k = t then v else val k
def hitF (ks : List (List UInt8)) (val : List UInt8 → AV) (t : List UInt8) : Option (Nat × AV) := if t ∈ ks then some (ks.idxOf t, val t) else none
theorem mapF_keys (ks : List (List UInt8)) (val : List UInt8 → AV) : (mapF ks val).map Prod.fst = ks.map AV.str := by
  unfold mapF; rw [List.map_map]; rfl
theorem mapF_congr {ks : List (List UInt8)} {f g : List UInt8 → AV} (h : ∀ k ∈ ks, f k = g k) : mapF ks f = mapF ks g := by
  unfold mapF
  exact List.map_congr_left fun k hk => by rw [h k hk]
theorem findF (val : List UInt8 → AV) (t : List UInt8) : ∀ (ks : List (List UInt8)) (i : Nat), findK (.str t) (mapF ks val) i = some (if t ∈ ks then some (i + ks.idxOf t, val t) else none)
  | [], i => rfl
  | k :: ks, i => by
    show (match sameK (.str t) (.str k) with
      | some true => some (some (i, val k))
      | some false => findK (.str t) (mapF ks val) (i + 1)
      | none => none) = _
    show (match some (t == k) with
      | some true => some (some (i, val k))
      | some false => findK (.str t) (mapF ks val) (i + 1)
      | none => none) = _
    by_cases h : t = k
    · subst h
      rw [beq_self_eq_true]
      simp [List.idxOf_cons_self]
    · have h1 : (t == k) = false := by simpa using h
      rw [h1]
      show findK (.str t) (mapF ks val) (i + 1) = _
      rw [findF val t ks (i + 1)]
      by_cases hm : t ∈ ks
      · rw [if_pos hm, if_pos (List.mem_cons_of_mem _ hm), List.idxOf_cons, show (k == t) = false by simpa using Ne.symm h]
        show some (some (i + 1 + ks.idxOf t, val t)) = some (some (i + (ks.idxOf t + 1), val t))
        rw [show i + 1 + ks.idxOf t = i + (ks.idxOf t + 1) by omega]
      · rw [if_neg hm, if_neg (by simp [h, hm])]
theorem findF0 (ks : List (List UInt8)) (val : List UInt8 → AV) (t : List UInt8) : findK (.str t) (mapF ks val) 0 = some (hitF ks val t) := by
  rw [findF]; unfold hitF; rw [Nat.zero_add]
theorem updF_const (v : AV) (t : List UInt8) : updF (fun _ => v) t v = fun _ => v := by
  funext k; unfold updF; split <;> rfl
theorem setF {ks : List (List UInt8)} (hn : ks.Nodup) (val : List UInt8 → AV) (t : List UInt8) (v : AV) : setK (mapF ks val) (.str t) v (hitF ks val t) = mapF (addK ks t) (updF val t v) := by
  unfold hitF addK
  by_cases hm : t ∈ ks
  · rw [if_pos hm, if_pos hm]
    show (mapF ks val).set (ks.idxOf t) (.str t, v) = _
    have hlt : ks.idxOf t < ks.length := List.idxOf_lt_length_of_mem hm
    have hat : ks[ks.idxOf t] = t := List.getElem_idxOf hlt
    unfold mapF
    apply List.ext_getElem
    · simp
    · intro i h1 h2
      have hi : i < ks.length := by simpa using h1
      rw [List.getElem_set, List.getElem_map, List.getElem_map]
      by_cases hi2 : ks.idxOf t = i
      · subst hi2
        rw [if_pos rfl, hat]; unfold updF; rw [if_pos rfl]
      · rw [if_neg hi2]
        unfold updF
        rw [if_neg]
        intro e
        exact hi2 ((List.getElem_inj hn).1 (hat.trans e.symm))
  · rw [if_neg hm, if_neg hm]
    show mapF ks val ++ [(.str t, v)] = _
    unfold mapF
    rw [List.map_append]
    congr 1
    · exact List.map_congr_left fun k hk => by unfold updF; rw [if_neg (fun e : k = t => hm (e ▸ hk))]
    · simp [updF]
def mapBx (ks : List (List UInt8)) (val : List UInt8 → AV) : Option Box := some (.map (mapF ks val) none)
section
variable {cx : Cx} {n : Nat} {B : Bs} {k : List AI} {Q : Post} {fr : Fr} {σ : Heap}
theorem pan (f : Nat) {k k' : List AI} {fr fr' : Fr} {σ σ' : Heap} {C : List Prop} (hs : List Ht) {hs' : List Ht} (h : runP cx [] n f [] hs k fr σ = ⟨C, k', fr', σ', hs'⟩) (hC : AllP C)
    (hk : S cx n B k' Q fr' σ') : S cx n B k Q fr σ := by
  have hg := runP_sound (M := []) (cx := cx) (n := n) (B := B) (Q := Q) f [] hs k fr σ
  rw [h] at hg
  exact (hg hC).2 hk
theorem OpSpec.mget {o : Oper} {t kt et : TypeId} {m key : Operand} {ok : Bool} {id ver : Nat} {ks : List (List UInt8)} {val : List UInt8 → AV} {z : AV} {s : List UInt8} (ho : o.op = .lookup t m key ok) (ht : cx.P.underlying t = some (.map kt et)) (hk : keyFits cx.P kt (.str s) = true)
    (hm : ev cx fr m = .map id ver) (hkey : ev cx fr key = .str s) (hσ : σ[id]? = some (ver, mapBx ks val)) (hz : zeroV cx.P et = some z) {v : AV} (hv : okV ok (if s ∈ ks then val s else z) (decide (s ∈ ks)) = v) :
    OpSpec cx n fr σ o v σ := by
  subst hv
  have hf := findF0 ks val s
  by_cases h : s ∈ ks
  · have hh : hitF ks val s = some (ks.idxOf s, val s) := if_pos h
    refine OpSpec.map (hitF ks val s) (C := [ver = ver, findK (ev cx fr key) (mapF ks val) 0 = some (hitF ks val s)]) ?_ ⟨rfl, by rw [hkey]; exact hf, trivial⟩
    rw [ho, mapA, ht, hkey]
    simp only [hk, hm, hσ, mapBx, hh]
    rw [if_pos h, decide_eq_true h]
  · have hh : hitF ks val s = none := if_neg h
    refine OpSpec.map (hitF ks val s) (C := [ver = ver, findK (ev cx fr key) (mapF ks val) 0 = some (hitF ks val s)]) ?_ ⟨rfl, by rw [hkey]; exact hf, trivial⟩
    rw [ho, mapA, ht, hkey]
    simp only [hk, hm, hσ, mapBx, hh, hz]
    rw [if_neg h, decide_eq_false h]
theorem OpSpec.mput {o : Oper} {t kt et : TypeId} {m key x : Operand} {id ver : Nat} {ks : List (List UInt8)} {val : List UInt8 → AV} {s : List UInt8} {v : AV} (ho : o.op = .mapUpdate t m key x) (ht : cx.P.underlying t = some (.map kt et)) (hk : keyFits cx.P kt (.str s) = true)
    (hm : ev cx fr m = .map id ver) (hkey : ev cx fr key = .str s) (hx : ev cx fr x = v) (hσ : σ[id]? = some (ver, mapBx ks val)) (hn : ks.Nodup) {σ' : Heap} (hσ' : σ.set id (ver, mapBx (addK ks s) (updF val s v)) = σ') :
    OpSpec cx n fr σ o (.tup []) σ' := by
  subst hσ'
  have hf := findF0 ks val s
  refine OpSpec.map (hitF ks val s) (C := [ver = ver, findK (ev cx fr key) (mapF ks val) 0 = some (hitF ks val s)]) ?_ ⟨rfl, by rw [hkey]; exact hf, trivial⟩
  rw [ho, mapA, ht, hkey, hx]
  simp only [hk, hm, hσ, mapBx, setF hn]
  have hb : setB none (hitF ks val s) = none := by cases hitF ks val s <;> rfl
  rw [hb]
theorem OpSpec.append0 {o : Oper} {s x : Operand} {t u : TypeId} {e sz by_ : Nat} {st fl st' fl' : Bool} {xs : List AV} (ho : o.op = .call { callee := .builtin .append, args := #[s, x], argTypes := #[t, u] }) (hel : elemInfo cx.P t = some (e, sz, by_)) (hnt : notInt cx.P u = true)
    (hs : ev cx fr s = .sl st fl sz xs) (hx : ev cx fr x = .sl st' fl' sz []) : OpSpec cx n fr σ o (.sl st fl sz xs) σ := by
  intro r ac w hi hf
  have h1 := ev_rel hi hf s
  have h2 := ev_rel hi hf x
  rw [hs] at h1
  rw [hx] at h2
  obtain ⟨dst, op, ty, pos, after, guard⟩ := o
  simp only at ho
  subst ho
  obtain ⟨i, z, hu, hinfo, hz, hz1, hz2, hz3⟩ := elemInfo_some hel
  obtain ⟨d, hd, hdk⟩ := notInt_some hnt
  obtain ⟨bs, hbs⟩ := run_len_call cx.P w ac.eval .append #[s, x] #[t, u] dst ty pos after guard
  have key : ∀ (a b : Value), VRel r w a (.sl st fl sz xs) → VRel r w b (.sl st' fl' sz []) → (Builtin.append_ #[t, u] ty #[a, b]).run cx.P w = .ok a w := by
    intro a b ha hb
    have hsrc : aSrc sz (.sl st' fl' sz []) σ = some ([sz = sz, ∀ y ∈ flatA sz [], y.one = true], 0, flatA sz []) := rfl
    have hfn : flatA sz ([] : List AV) = [] := by unfold flatA; split <;> rfl
    obtain ⟨hl1, hl2, news, hl3, hl4⟩ := aSrc_run hi hsrc ⟨rfl, by (rw [hfn]; exact ⟨(fun y hy => by cases hy), trivial⟩)⟩ hb
    have hnews : news = [] := List.eq_nil_of_length_eq_zero (by rw [hl3.1, hl2]; omega)
    subst hnews
    cases a with
    | slice p n' cap =>
      obtain ⟨q1, q2, _, _⟩ := sl_cells ha
      exact run_append_room' (P := cx.P) (w := w) (ty := ty) (base := p) (sLen := n') (sCap := cap) hu hd hdk hinfo hz2 hl1 hl4 (by omega) (w2 := w) (stO_nil _ _ _ _)
    | _ => cases ha
  refine ⟨r, w, ac.eval s, .inl ?_, h1, hi, Ext.refl _ _ _⟩
  rw [hbs]
  simp only [builtin, List.map_toArray, List.map_cons, List.map_nil]
  exact exec_v (key _ _ h1 h2)
theorem S_freezeM {todo : List AI} {mid mver id cur len sz : Nat} {kvs kvs' : List (AV × AV)} {cs : List AV} {g : Tag} (xs : List AV) (hm : σ[mid]? = some (mver, some (.map kvs none))) (hb : boxAt σ id = some (cur, cs, g)) (hcs : cs ≠ [])
    (hx : cs.take (len * sz) = xs.flatMap AV.cells) (hsz : ∀ x ∈ xs, x.cells.length = sz) (hl : xs.length = len) (hle : len * sz ≤ cs.length)
    (hkv : kvs.length = kvs'.length) (he : ∀ i (h : i < kvs.length) (h' : i < kvs'.length), kvs'[i].1 = kvs[i].1 ∧ (kvs'[i].2 = kvs[i].2 ∨ (kvs[i].2 = .ms id cur 0 len sz false ∧ kvs'[i].2 = .sl false false sz xs)))
    (hT : ∃ c k, todo = .code c :: k ∨ ∃ all l K, todo = .ops all l K :: k) (hk : S cx n B todo Q fr ((σ.set id (cur, none)).set mid (mver, some (.map kvs' none)))) : S cx n B todo Q fr σ := by
  have bx := boxAt_some hb
  have hne : id ≠ mid := fun e => by subst e; rw [bx] at hm; cases hm
  have key : ∀ r w, Inv cx r σ w → ∃ r', Inv cx r' ((σ.set id (cur, none)).set mid (mver, some (.map kvs' none))) w ∧ Ext r σ w r' ((σ.set id (cur, none)).set mid (mver, some (.map kvs' none))) w := by
    intro r w hi
    rcases hi.box id cur _ bx with ⟨b, o, hρ, _⟩ | ⟨_, ro, h⟩
    case inr => cases h; exact absurd rfl hcs
    obtain ⟨q1, q2⟩ := hi.freeze bx hρ
    have hbr := hi.cells hb rfl hρ
    have hc := hbr.cells'
    have hm2 : (σ.set id (cur, none))[mid]? = some (mver, some (.map kvs none)) := by rw [List.getElem?_set, if_neg hne]; exact hm
    obtain ⟨p1, p2⟩ := q1.recast (y := .map kvs' none) hm2 (fun b' o' hb' => by
      obtain ⟨rfl, es, clock, h1, h2, h3, h4, h5, h6⟩ := hb'
      refine ⟨rfl, es, clock, h1, by rw [h2, hkv], fun i hi' => ?_, h4, h5, fun bs c hst => by cases hst⟩
      have hi2 : i < kvs.length := by omega
      obtain ⟨e, k1, k2, k3⟩ := h3 i hi2
      obtain ⟨e1, e2⟩ := he i hi2 hi'
      refine ⟨e, k1, by rw [e1]; exact k2, ?_⟩
      rcases e2 with e2 | ⟨e2, e3⟩
      · rw [e2]; exact k3
      · rw [e3]
        rw [e2] at k3
        generalize e.val = z at k3
        cases k3 with
        | ms0 =>
          obtain rfl := List.eq_nil_of_length_eq_zero hl
          exact .sl0 (fun h => by cases h)
        | ms hρ' hcap hn hff =>
          have hρ2 : r.ρ id cur = some _ := hρ'
          rw [hρ] at hρ2; cases hρ2
          refine Cells.sl hl.symm hn (fun h => by cases h) (.inr rfl) (fun h => by cases h) hsz (fun j hj => ?_)
          have hj2 : j < cs.length := by rw [← hx, List.length_take] at hj; omega
          obtain ⟨u, u1, u2⟩ := hc j hj2
          refine ⟨u, u1, ?_⟩
          have : (xs.flatMap AV.cells)[j] = cs[j] := by
            have : (cs.take (len * sz))[j]? = some cs[j] := by rw [List.getElem?_take_of_lt (by rw [← hx, List.length_take] at hj; omega)]; exact List.getElem?_eq_getElem hj2
            rw [hx, List.getElem?_eq_getElem hj] at this
            exact Option.some.inj this
          rw [this]; exact u2.mono (q2.grow hi)) (fun ro hro => by cases hro)
    exact ⟨_, p1, q2.trans p2⟩
  obtain ⟨c0, k0, hT⟩ := hT
  rcases hT with rfl | ⟨all, l, K, rfl⟩
  · intro r a w hi hf hd hx
    obtain ⟨r', q1, q2⟩ := key r w hi
    exact hk r' a w q1 (hf.mono (q2.grow hi)) hd (hx.trans q2)
  · intro r a w hi hf hd hx
    obtain ⟨r', q1, q2⟩ := key r w hi
    exact hk r' a w q1 (hf.mono (q2.grow hi)) hd (hx.trans q2)
end
theorem Calc.weak {cx : Cx} {f : FuncId} {args : List AV} {res res' : AV} (h : Calc cx f args res) (hf : Free true res') (hw : ∀ r w v, VRel r w v res → VRel r w v res') : Calc cx f args res' := by
  refine ⟨hf, h.call.1, fun r w vs hi hv => (h.call.2 r w vs hi hv).mono fun e w' ⟨out, σ', r', ⟨ho, hσ⟩, hor, hi', hx'⟩ => ?_⟩
  subst ho
  cases e with
  | returned u => exact ⟨.ret res', σ', r', ⟨rfl, hσ⟩, hw _ _ _ hor, hi', hx'⟩
  | panicked chain => exact hor.elim
  | outgrown => exact hor.elim
end Go.Ab
end
section
set_option linter.unusedVariables false
set_option linter.unusedSimpArgs false
namespace Go.Ab
open Go
theorem putAll_pre {σ τ es : Heap} {n : Nat} (hn : σ.length = n) (he : es.length = n) : putAll (σ ++ τ) (List.range n) es = es ++ τ := by
  have hl : (putAll (σ ++ τ) (List.range n) es).length = (es ++ τ).length := by
    rw [putAll_length _ _ _ (by simp; omega)]; simp; omega
  refine List.ext_getElem? fun i => ?_
  rcases Nat.lt_or_ge i n with h | h
  · rw [putAll_at (List.range n) es (σ ++ τ) i i List.nodup_range (fun j hj => by rw [List.mem_range] at hj; simp; omega) (by simp; omega) (by rw [List.getElem?_append_left (by simpa using h)]; simp [h]), List.getElem?_append_left (by omega)]
  · rcases Nat.lt_or_ge i (σ ++ τ).length with h2 | h2
    · rw [putAll_other _ _ _ i h2 (by simp; omega), List.getElem?_append_right (by omega), List.getElem?_append_right (by omega), hn, he]
    · rw [List.getElem?_eq_none (by rw [hl]; simp at h2 ⊢; omega), List.getElem?_eq_none (by simp at h2 ⊢; omega)]
def RnO (ids : List Nat) : Out → Prop
  | .ret v => Rn ids v v
  | .panic v => Rn ids v v
theorem CallOk.pre {cx : Cx} {f : FuncId} {args : List AV} {σ : Heap} {R : Out → Heap → Prop} (n : Nat) (τ : Heap) (h : CallOk cx f args σ R) (hn : σ.length = n) (ha : Rns (List.range n) args args) (hs : RnH (List.range n) σ σ)
    (hR : ∀ o s, R o s → s.length = n ∧ RnH (List.range n) s s ∧ RnO (List.range n) o) : CallOk cx f args (σ ++ τ) (fun o s => ∃ s0, s = s0 ++ τ ∧ R o s0) := by
  have hp : Part (List.range n) σ (σ ++ τ) := by
    refine ⟨List.nodup_range, fun j hj => by rw [List.mem_range] at hj; simp; omega, by simp [hn], fun i j e hi he => ?_⟩
    have hil : i < σ.length := by
      rcases Nat.lt_or_ge i σ.length with h' | h'
      · exact h'
      · rw [List.getElem?_eq_none h'] at he; cases he
    have : j = i := by
      rw [List.getElem?_range (by omega)] at hi; exact (Option.some.inj hi).symm
    subst this
    refine ⟨e, by rw [List.getElem?_append_left hil]; exact he, ?_⟩
    have h1 := hs.2 j hil hil
    rw [List.getElem?_eq_getElem hil] at he
    rw [Option.some.inj he] at h1; exact h1
  refine ⟨h.1, fun r w vs hi hv => ?_⟩
  have hsub := frame_down hi hp
  have hvs : VRels (r.sub (List.range n)) w vs args := by
    refine ⟨hv.1, fun i hi' => ?_⟩
    refine (ha.2 i hi' hi').down (r := r) (r' := r.sub (List.range n)) (fun _ h => h) (fun _ h => h) hi.SI (fun i j ver p h1 h2 => ?_) (hv.2 i hi')
    simp only [Rl.sub, h1]; exact h2
  refine (h.2 _ w vs hsub hvs).mono fun e w' ⟨out, σ1, r1, hRo, ho, hi1, hx1⟩ => ?_
  obtain ⟨k1, k2, k3⟩ := hR _ _ hRo
  have hids : List.range n = List.range n ++ newIds (σ ++ τ).length (σ1.length - (List.range n).length) := by
    rw [List.length_range, k1, Nat.sub_self]; simp [newIds]
  obtain ⟨q1, q2, q3⟩ := frame_up hi hp hi1 hx1 hids k2
  rw [putAll_pre hn k1] at q1 q2
  cases e <;> cases out <;> first | exact ho.elim | skip
  · exact ⟨_, _, _, ⟨σ1, rfl, hRo⟩, q3 _ _ _ k3 ho, q1, q2⟩
  · obtain ⟨u, hu1, hu2⟩ := ho
    exact ⟨_, _, _, ⟨σ1, rfl, hRo⟩, ⟨u, hu1, q3 _ _ _ k3 hu2⟩, q1, q2⟩
theorem CallOk.pre1 {cx : Cx} {f : FuncId} {args : List AV} {σ σ' : Heap} {x : AV} (n : Nat) (τ : Heap) (h : CallOk cx f args σ (fun e s => e = .ret x ∧ s = σ')) (hn : σ.length = n) (hn' : σ'.length = n) (ha : Rns (List.range n) args args) (hs : RnH (List.range n) σ σ)
    (hs' : RnH (List.range n) σ' σ') (hx : Rn (List.range n) x x) : CallOk cx f args (σ ++ τ) (fun e s => e = .ret x ∧ s = σ' ++ τ) :=
  (h.pre n τ hn ha hs (fun o s h => by obtain ⟨rfl, rfl⟩ := h; exact ⟨hn', hs', hx⟩)).mono fun o s ⟨s0, h1, h2, h3⟩ => ⟨h2, by rw [h1, h3]⟩
theorem putAll_mid {τ σ τ' es : Heap} {k n : Nat} (hk : τ.length = k) (hn : σ.length = n) (he : es.length = n) : putAll (τ ++ (σ ++ τ')) (List.range' k n) es = τ ++ (es ++ τ') := by
  have hl : (putAll (τ ++ (σ ++ τ')) (List.range' k n) es).length = (τ ++ (es ++ τ')).length := by
    rw [putAll_length _ _ _ (by simp; omega)]; simp; omega
  refine List.ext_getElem? fun i => ?_
  by_cases hm : k ≤ i ∧ i < k + n
  · obtain ⟨h1, h2⟩ := hm
    have e1 : (List.range' k n ++ newIds (τ ++ (σ ++ τ')).length (es.length - (List.range' k n).length))[i - k]? = some i := by
      rw [List.getElem?_append_left (by simp; omega), List.getElem?_range' (by omega)]
      congr 1; omega
    rw [putAll_at (List.range' k n) es (τ ++ (σ ++ τ')) (i - k) i List.nodup_range' (fun j hj => by rw [List.mem_range'_1] at hj; simp; omega) (by simp; omega) e1, List.getElem?_append_right (by omega), hk, List.getElem?_append_left (by omega)]
  · rcases Nat.lt_or_ge i (τ ++ (σ ++ τ')).length with h2 | h2
    · rw [putAll_other _ _ _ i h2 (by rw [List.mem_range'_1]; omega)]
      rcases Nat.lt_or_ge i k with h3 | h3
      · rw [List.getElem?_append_left (by omega), List.getElem?_append_left (by omega)]
      · rw [List.getElem?_append_right (by omega), List.getElem?_append_right (by omega), List.getElem?_append_right (by omega), List.getElem?_append_right (by omega), hn, he]
    · rw [List.getElem?_eq_none (by rw [hl]; simp at h2 ⊢; omega), List.getElem?_eq_none (by simp at h2 ⊢; omega)]
theorem CallOk.mid {cx : Cx} {f : FuncId} {args args' : List AV} {σ σ' σ2 σ2' : Heap} {x x' : AV} (k n : Nat) (τ τ' : Heap) (h : CallOk cx f args σ (fun e s => e = .ret x ∧ s = σ')) (hk : τ.length = k) (hn : σ.length = n) (hn' : σ'.length = n)
    (ha : Rns (List.range' k n) args args') (hs : RnH (List.range' k n) σ σ2) (hs' : RnH (List.range' k n) σ' σ2') (hx : Rn (List.range' k n) x x') : CallOk cx f args' (τ ++ (σ2 ++ τ')) (fun e s => e = .ret x' ∧ s = τ ++ (σ2' ++ τ')) := by
  have hn2 : σ2.length = n := hs.1.symm.trans hn
  have hn2' : σ2'.length = n := hs'.1.symm.trans hn'
  have hp : Part (List.range' k n) σ (τ ++ (σ2 ++ τ')) := by
    refine ⟨List.nodup_range', fun j hj => by rw [List.mem_range'_1] at hj; simp; omega, by simp [hn], fun i j e hi he => ?_⟩
    have hil : i < σ.length := by
      rcases Nat.lt_or_ge i σ.length with h' | h'
      · exact h'
      · rw [List.getElem?_eq_none h'] at he; cases he
    have : j = k + i := by
      rw [List.getElem?_range' (by omega)] at hi; have := Option.some.inj hi; omega
    subst this
    have hil2 : i < σ2.length := by omega
    refine ⟨σ2[i], by rw [List.getElem?_append_right (by omega), List.getElem?_append_left (by omega), hk, Nat.add_sub_cancel_left, List.getElem?_eq_getElem hil2], ?_⟩
    have h1 := hs.2 i hil hil2
    rw [List.getElem?_eq_getElem hil] at he
    rw [Option.some.inj he] at h1; exact h1
  refine ⟨h.1, fun r w vs hi hv => ?_⟩
  have hsub := frame_down hi hp
  have hvs : VRels (r.sub (List.range' k n)) w vs args := by
    refine ⟨hv.1.trans ha.1.symm, fun i hi' => ?_⟩
    refine (ha.2 i hi' (by rw [← ha.1]; exact hi')).down (r := r) (r' := r.sub (List.range' k n)) (fun _ h => h) (fun _ h => h) hi.SI (fun i j ver p h1 h2 => ?_) (hv.2 i (by rw [← ha.1]; exact hi'))
    simp only [Rl.sub, h1]; exact h2
  refine (h.2 _ w vs hsub hvs).mono fun e w' ⟨out, σ1, r1, hRo, ho, hi1, hx1⟩ => ?_
  obtain ⟨rfl, rfl⟩ := hRo
  have hids : List.range' k n = List.range' k n ++ newIds (τ ++ (σ2 ++ τ')).length (σ2'.length - (List.range' k n).length) := by
    rw [List.length_range', hn2', Nat.sub_self]; simp [newIds]
  obtain ⟨q1, q2, q3⟩ := frame_up hi hp hi1 hx1 hids hs'
  rw [putAll_mid hk hn2 hn2'] at q1 q2
  cases e with
  | returned u => exact ⟨.ret x', _, _, ⟨rfl, rfl⟩, q3 _ _ _ hx ho, q1, q2⟩
  | panicked chain => exact ho.elim
  | outgrown => exact ho.elim
end Go.Ab
end
section
set_option linter.unusedVariables false
set_option linter.unusedSimpArgs false
namespace Go.Ab
open Go
theorem BoxRel.freeC {P : Program} {r r' : Rl} {w : World} {b o : Nat} {cs : List AV} {g : Tag} (h : BoxRel P r w b o (.cells cs g)) (hf : ∀ x ∈ cs, Free true x) (hS : ∀ b, r.S b → r'.S b) (hSI : ∀ b, r'.S b → r'.I b) : BoxRel P r' w b o (.cells cs g) := by
  obtain ⟨c, t, lo, hi, h1, h2, h3⟩ := h
  refine ⟨c, t, lo, hi, h1, fun i hi' => ?_, h3⟩
  obtain ⟨v, hv, hr⟩ := h2 i hi'
  exact ⟨v, hv, hr.free (hf _ (List.getElem_mem hi')) hS (fun b h => hSI b h) (fun h => by cases h)⟩
def Rl.raw (r r1 : Rl) (k : Nat) (p : Option (Nat × Nat)) : Rl := { S := r1.S, I := fun b => r.I b ∨ r1.S b, ρ := fun i v => if i = k ∧ v = 0 then p else r.ρ i v }
theorem after_raw {cx : Cx} {r r1 : Rl} {σ τ : Heap} {w w' : World} (hi : Inv cx r σ w) (hi1 : Inv cx r1 τ w') (hx : Ext { S := r.S, I := fun b => r.I b ∨ Live r σ b, ρ := fun _ _ => none } [] w r1 τ w') {id ver : Nat} {cs : List AV} {g : Tag} {b o : Nat}
    (hb : τ[id]? = some (ver, some (.cells cs g))) (hρ : r1.ρ id ver = some (b, o)) (hr : BoxRel cx.P r1 w' b o (.cells cs g)) (hf : ∀ x ∈ cs, Free true x) :
    Inv cx (r.raw r1 σ.length (some (b, o))) (σ ++ [(0, some (.cells cs g))]) w' ∧ Ext r σ w (r.raw r1 σ.length (some (b, o))) (σ ++ [(0, some (.cells cs g))]) w' := by
  have hsame : ∀ b, b < w.heap.size → w'.heap[b]? = w.heap[b]? := fun b hb => hx.same b hb (by rintro ⟨id, ver, x, o, h1, _⟩; simp at h1)
  have hSf : ∀ b, r1.S b → r.S b ∨ w.heap.size ≤ b := hx.Sf
  have hnew : w.heap.size ≤ b := by
    rcases hx.blk id ver b o hρ with ⟨v, o', h⟩ | h
    · cases h
    · exact h
  have hold : ∀ v, r.ρ σ.length v = none := fun v => by
    cases h : r.ρ σ.length v with
    | none => rfl
    | some p =>
      obtain ⟨b', o'⟩ := p
      obtain ⟨⟨cur, x, h1, _⟩, _⟩ := hi.lt _ _ _ _ h
      rw [List.getElem?_eq_none (Nat.le_refl _)] at h1; cases h1
  have hρ1 : ∀ i v p, r.ρ i v = some p → (r.raw r1 σ.length (some (b, o))).ρ i v = some p := fun i v p h => by
    show (if i = σ.length ∧ v = 0 then _ else r.ρ i v) = _
    rw [if_neg (by rintro ⟨rfl, rfl⟩; rw [hold] at h; cases h)]; exact h
  have hρ2 : ∀ i v b' o', (r.raw r1 σ.length (some (b, o))).ρ i v = some (b', o') → (i = σ.length ∧ v = 0 ∧ b' = b ∧ o' = o) ∨ r.ρ i v = some (b', o') := fun i v b' o' h => by
    have h : (if i = σ.length ∧ v = 0 then some (b, o) else r.ρ i v) = some (b', o') := h
    split at h
    · rename_i hc
      cases h
      exact .inl ⟨hc.1, hc.2, rfl, rfl⟩
    · exact .inr h
  have hbS : ¬ r1.S b := fun h => hi1.imm b ⟨id, ver, _, o, hb, hρ⟩ (hi1.SI b h)
  have hbI : ¬ r.I b := fun h => by have := hi.Ilt b h; omega
  have g1 : Grow r w (r.raw r1 σ.length (some (b, o))) w' := ⟨hx.S, fun b h => .inl h, hρ1, fun b hb => hsame b (hi.Ilt b hb), hx.size⟩
  have get : ∀ (i : Nat) e, (σ ++ [((0 : Nat), some (Box.cells cs g))])[i]? = some e → σ[i]? = some e ∨ (i = σ.length ∧ e = (0, some (.cells cs g))) := fun i e h => by
    rcases Nat.lt_or_ge i σ.length with hl | hl
    · rw [List.getElem?_append_left hl] at h; exact .inl h
    · rw [List.getElem?_append_right hl] at h
      rcases Nat.eq_or_lt_of_le hl with he | he
      · subst he
        rw [Nat.sub_self] at h
        exact .inr ⟨rfl, (Option.some.inj h).symm⟩
      · rw [List.getElem?_eq_none (by simp; omega)] at h; cases h
  have live : ∀ k, Live (r.raw r1 σ.length (some (b, o))) (σ ++ [(0, some (.cells cs g))]) k → Live r σ k ∨ k = b := by
    rintro k ⟨i, v, x, o', h1, h2⟩
    rcases get i _ h1 with e1 | ⟨hi0, e1⟩
    · rcases hρ2 _ _ _ _ h2 with ⟨hi0, _⟩ | e2
      · rw [hi0, List.getElem?_eq_none (Nat.le_refl _)] at e1; cases e1
      · exact .inl ⟨i, v, x, o', e1, e2⟩
    · have hv : v = 0 := congrArg Prod.fst e1
      rcases hρ2 _ _ _ _ h2 with ⟨_, _, hk, _⟩ | e2
      · exact .inr hk
      · rw [hi0, hold] at e2; cases e2
  refine ⟨⟨?_, ?_, ?_, ?_, ?_, fun b h => .inr h, ?_⟩, ⟨hx.S, fun b h => .inl h, hSf, ?_, hρ1, hx.hs, by simp, fun b hb _ => hsame b hb, ?_, hx.size, hx.os, hx.output, hx.tape, ?_⟩⟩
  · intro i v x hid
    rcases get i _ hid with hid | ⟨rfl, he⟩
    · rcases hi.box i v x hid with ⟨b', o', h1, h2⟩ | ⟨h1, h2⟩
      · exact .inl ⟨b', o', hρ1 _ _ _ h1, h2.mono g1 (hsame b' h2.lt)⟩
      · refine .inr ⟨?_, h2⟩
        show (if i = σ.length ∧ v = 0 then _ else r.ρ i v) = _
        rw [if_neg (by rintro ⟨rfl, _⟩; rw [List.getElem?_eq_none (Nat.le_refl _)] at hid; cases hid)]; exact h1
    · cases he
      refine .inl ⟨b, o, ?_, hr.freeC hf (fun b h => h) (fun b h => .inr h)⟩
      show (if σ.length = σ.length ∧ 0 = 0 then _ else _) = _
      rw [if_pos ⟨rfl, rfl⟩]
  · intro i v b' o' h
    rcases hρ2 _ _ _ _ h with ⟨rfl, rfl, rfl, rfl⟩ | h
    · exact ⟨⟨0, some (.cells cs g), by simp, Nat.le_refl _⟩, (hi1.lt _ _ _ _ hρ).2⟩
    · obtain ⟨⟨cur, x, h1, h2⟩, h3⟩ := hi.lt i v b' o' h
      have hl : i < σ.length := by
        rcases Nat.lt_or_ge i σ.length with hl | hl
        · exact hl
        · rw [List.getElem?_eq_none hl] at h1; cases h1
      exact ⟨⟨cur, x, by rw [List.getElem?_append_left hl]; exact h1, h2⟩, Nat.lt_of_lt_of_le h3 hx.hs⟩
  · intro i i' v v' x x' b' o1 o2 h1 h2 h3 h4
    have key : ∀ i v (x : Box) o1, σ[i]? = some (v, some x) → (r.raw r1 σ.length (some (b, o))).ρ i v = some (b', o1) → r.ρ i v = some (b', o1) := fun i v x o1 h h3 => by
      rcases hρ2 _ _ _ _ h3 with ⟨hi0, _⟩ | e3
      · rw [hi0, List.getElem?_eq_none (Nat.le_refl _)] at h; cases h
      · exact e3
    have key2 : ∀ v o1, (r.raw r1 σ.length (some (b, o))).ρ σ.length v = some (b', o1) → b' = b := fun v o1 h3 => by
      rcases hρ2 _ _ _ _ h3 with ⟨_, _, hk, _⟩ | e3
      · exact hk
      · rw [hold] at e3; cases e3
    rcases get i _ h1 with e1 | ⟨hi0, e1⟩ <;> rcases get i' _ h2 with e2 | ⟨hi1', e2⟩
    · exact hi.inj i i' v v' x x' b' o1 o2 e1 e2 (key _ _ _ _ e1 h3) (key _ _ _ _ e2 h4)
    · exfalso
      have q1 := (hi.lt _ _ _ _ (key _ _ _ _ e1 h3)).2
      rw [hi1'] at h4
      have q2 := key2 _ _ h4
      omega
    · exfalso
      have q1 := (hi.lt _ _ _ _ (key _ _ _ _ e2 h4)).2
      rw [hi0] at h3
      have q2 := key2 _ _ h3
      omega
    · rw [hi0, hi1']
  · intro k hl hk
    rcases live k hl with hl | rfl
    · have hbl : k < w.heap.size := by obtain ⟨id, ver, x, o, h1, h2⟩ := hl; exact (hi.lt _ _ _ _ h2).2
      rcases hk with hk | hk
      · exact hi.imm k hl hk
      · rcases hSf k hk with h | h
        · exact hi.imm k hl (hi.SI k h)
        · omega
    · rcases hk with hk | hk
      · exact hbI hk
      · exact hbS hk
  · intro k hk
    rcases hk with hk | hk
    · exact Nat.lt_of_lt_of_le (hi.Ilt k hk) hx.hs
    · exact hi1.Ilt k (hi1.SI k hk)
  · exact hi1.glob.free (fun b h => h) (fun b h => .inr h)
  · intro k hk
    rcases hk with hk | hk
    · exact .inl hk
    · rcases hSf k hk with h | h
      · exact .inl (hi.SI k h)
      · exact .inr (.inr h)
  · intro k hl
    rcases live k hl with hl | rfl
    · exact .inl hl
    · exact .inr hnew
  · intro i v b' o' h
    rcases hρ2 _ _ _ _ h with ⟨_, _, rfl, _⟩ | h
    · exact .inr hnew
    · exact .inl ⟨v, o', h⟩
theorem CallOk.lift {cx : Cx} {f : FuncId} {args args' : List AV} {σ : Heap} {n sz : Nat} {e : AV} {cs : List AV} {g : Tag} (hn : cs ≠ [])
    (h : CallOk cx f args' [] (fun o s => ∃ id ver, o = .ret (.tup [.ms id ver 0 n sz false, e]) ∧ s[id]? = some (ver, some (.cells cs g)))) (hz : Frzs σ args args') (hcs : ∀ x ∈ cs, Free true x) (he : Free true e) :
    CallOk cx f args σ (fun o u => o = .ret (.tup [.ms σ.length 0 0 n sz false, e]) ∧ u = σ ++ [(0, some (.cells cs g))]) := by
  refine ⟨h.1, fun r w vs hi hv => ?_⟩
  have hvs : VRels { S := r.S, I := fun b => r.I b ∨ Live r σ b, ρ := fun _ _ => none } w vs args' := by
    refine ⟨hv.1.trans hz.1, fun i hi' => ?_⟩
    exact (hz.2 i (by rw [hz.1]; exact hi') hi').rel (r' := { S := r.S, I := fun b => r.I b ∨ Live r σ b, ρ := fun _ _ => none }) hi (fun b h => h) (fun b h => Or.inl (hi.SI b h)) (fun _ b h => Or.inl h) (fun b h => ⟨Or.inr h, fun h => by cases h⟩) (hv.2 i (by rw [hz.1]; exact hi'))
  refine (h.2 _ w vs hi.empty hvs).mono fun ev w' ⟨out, τ, r1, ⟨id, ver, ho, hb⟩, hor, hi1, hx1⟩ => ?_
  subst ho
  cases ev with
  | returned u =>
    rcases hi1.box id ver _ hb with ⟨b, o, hρ, hr⟩ | ⟨_, ro, hc⟩
    · obtain ⟨q1, q2⟩ := after_raw hi hi1 hx1 hb hρ hr hcs
      refine ⟨_, _, r.raw r1 σ.length (some (b, o)), ⟨rfl, rfl⟩, ?_, q1, q2⟩
      have hu : VRel r1 w' u (.tup [.ms id ver 0 n sz false, e]) := hor
      have key : ∀ x, VRel r1 w' x (.ms id ver 0 n sz false) → VRel (r.raw r1 σ.length (some (b, o))) w' x (.ms σ.length 0 0 n sz false) := fun x h0 => by
        cases h0 with
        | ms0 => exact .ms0
        | ms hq hcap hnc hff =>
          rw [hρ] at hq
          cases hq
          refine .ms ?_ hcap hnc hff
          show (if σ.length = σ.length ∧ 0 = 0 then _ else _) = _
          rw [if_pos ⟨rfl, rfl⟩]
      show VRel _ w' u (.tup [.ms σ.length 0 0 n sz false, e])
      cases hu with
      | tup hn h2 =>
        refine .tup hn fun i hi' => ?_
        match i, hi' with
        | 0, hi' =>
          exact key _ (h2 0 (by simp))
        | 1, hi' =>
          have h1 := h2 1 (by simp)
          exact VRel.free (a := e) h1 he (fun b h => h) (fun b h => .inr h) (fun h => by cases h)
        | i + 2, hi' => simp at hi'; omega
    · injection hc with hc _
      exact absurd hc hn
  | panicked chain => exact hor.elim
  | outgrown => exact hor.elim
end Go.Ab
end
section
set_option linter.unusedVariables false
set_option linter.unusedSimpArgs false
namespace Go.Ab
open Go
def Rl.box (r : Rl) (k b : Nat) : Rl := { r with ρ := fun i v => if i = k ∧ v = 0 then some (b, 0) else r.ρ i v }
theorem Inv.box1 {cx : Cx} {r : Rl} {σ : Heap} {w : World} {b : Nat} {cur : Array Value} {t : TypeId} {cs : List AV} (hi : Inv cx r σ w) (hb : w.heap[b]? = some (.cells cur t (0, 0))) (hI : ¬ r.I b) (hρ : ∀ i v o, r.ρ i v ≠ some (b, o))
    (hcs : ∀ i (h : i < cs.length), ∃ v, cur[i]? = some v ∧ VRel r w v cs[i]) (hone : ∀ x ∈ cs, x.one = true) :
    Inv cx (r.box σ.length b) (σ ++ [(0, some (.cells cs ⟨false, none⟩))]) w ∧ Grow r w (r.box σ.length b) w := by
  have hlt : b < w.heap.size := by
    rcases Nat.lt_or_ge b w.heap.size with h | h
    · exact h
    · rw [Array.getElem?_eq_none h] at hb; cases hb
  have hold : ∀ v, r.ρ σ.length v = none := fun v => by
    cases h : r.ρ σ.length v with
    | none => rfl
    | some p =>
      obtain ⟨b', o'⟩ := p
      obtain ⟨⟨cur, x, h1, _⟩, _⟩ := hi.lt _ _ _ _ h
      rw [List.getElem?_eq_none (Nat.le_refl _)] at h1; cases h1
  have hρ1 : ∀ i v p, r.ρ i v = some p → (r.box σ.length b).ρ i v = some p := fun i v p h => by
    show (if i = σ.length ∧ v = 0 then _ else r.ρ i v) = _
    rw [if_neg (by rintro ⟨rfl, rfl⟩; rw [hold] at h; cases h)]; exact h
  have hρ2 : ∀ i v b' o', (r.box σ.length b).ρ i v = some (b', o') → (i = σ.length ∧ v = 0 ∧ b' = b ∧ o' = 0) ∨ r.ρ i v = some (b', o') := fun i v b' o' h => by
    have h : (if i = σ.length ∧ v = 0 then some (b, 0) else r.ρ i v) = some (b', o') := h
    split at h
    · rename_i hc
      cases h
      exact .inl ⟨hc.1, hc.2, rfl, rfl⟩
    · exact .inr h
  have g1 : Grow r w (r.box σ.length b) w := ⟨fun _ h => h, fun _ h => h, hρ1, fun _ _ => rfl, fun _ c _ f h => ⟨c, f, h, rfl⟩⟩
  have get : ∀ (i : Nat) e, (σ ++ [((0 : Nat), some (Box.cells cs ⟨false, none⟩))])[i]? = some e → σ[i]? = some e ∨ (i = σ.length ∧ e = (0, some (.cells cs ⟨false, none⟩))) := fun i e h => by
    rcases Nat.lt_or_ge i σ.length with hl | hl
    · rw [List.getElem?_append_left hl] at h; exact .inl h
    · rw [List.getElem?_append_right hl] at h
      rcases Nat.eq_or_lt_of_le hl with he | he
      · subst he
        rw [Nat.sub_self] at h
        exact .inr ⟨rfl, (Option.some.inj h).symm⟩
      · rw [List.getElem?_eq_none (by simp; omega)] at h; cases h
  refine ⟨⟨?_, ?_, ?_, ?_, hi.Ilt, hi.SI, hi.glob.mono g1 hi.SI⟩, g1⟩
  · intro i v x hid
    rcases get i _ hid with hid | ⟨hi0, he⟩
    · rcases hi.box i v x hid with ⟨b', o', h1, h2⟩ | ⟨h1, h2⟩
      · exact .inl ⟨b', o', hρ1 _ _ _ h1, h2.mono g1 rfl⟩
      · refine .inr ⟨?_, h2⟩
        show (if i = σ.length ∧ v = 0 then _ else r.ρ i v) = _
        rw [if_neg (by rintro ⟨rfl, _⟩; rw [List.getElem?_eq_none (Nat.le_refl _)] at hid; cases hid)]; exact h1
    · cases he
      refine .inl ⟨b, 0, ?_, cur, t, 0, 0, hb, fun i hi' => ?_, hone, fun i h3 h4 => by omega, fun T h => by cases h⟩
      · show (if i = σ.length ∧ 0 = 0 then _ else _) = _
        rw [if_pos ⟨hi0, rfl⟩]
      · obtain ⟨v, h1, h2⟩ := hcs i hi'
        exact ⟨v, by rw [Nat.zero_add]; exact h1, h2.mono g1⟩
  · intro i v b' o' h
    rcases hρ2 _ _ _ _ h with ⟨rfl, rfl, rfl, rfl⟩ | h
    · exact ⟨⟨0, some (.cells cs ⟨false, none⟩), by simp, Nat.le_refl _⟩, hlt⟩
    · obtain ⟨⟨cur, x, h1, h2⟩, h3⟩ := hi.lt i v b' o' h
      have hl : i < σ.length := by
        rcases Nat.lt_or_ge i σ.length with hl | hl
        · exact hl
        · rw [List.getElem?_eq_none hl] at h1; cases h1
      exact ⟨⟨cur, x, by rw [List.getElem?_append_left hl]; exact h1, h2⟩, h3⟩
  · intro i i' v v' x x' b' o1 o2 h1 h2 h3 h4
    have key : ∀ i v (x : Box) o1, σ[i]? = some (v, some x) → (r.box σ.length b).ρ i v = some (b', o1) → r.ρ i v = some (b', o1) := fun i v x o1 h h3 => by
      rcases hρ2 _ _ _ _ h3 with ⟨hi0, _⟩ | e3
      · rw [hi0, List.getElem?_eq_none (Nat.le_refl _)] at h; cases h
      · exact e3
    have key2 : ∀ v o1, (r.box σ.length b).ρ σ.length v = some (b', o1) → b' = b := fun v o1 h3 => by
      rcases hρ2 _ _ _ _ h3 with ⟨_, _, hk, _⟩ | e3
      · exact hk
      · rw [hold] at e3; cases e3
    rcases get i _ h1 with e1 | ⟨hi0, e1⟩ <;> rcases get i' _ h2 with e2 | ⟨hi1', e2⟩
    · exact hi.inj i i' v v' x x' b' o1 o2 e1 e2 (key _ _ _ _ e1 h3) (key _ _ _ _ e2 h4)
    · exfalso
      have q1 := key _ _ _ _ e1 h3
      rw [hi1'] at h4
      exact hρ _ _ _ (by rw [← key2 _ _ h4]; exact q1)
    · exfalso
      have q1 := key _ _ _ _ e2 h4
      rw [hi0] at h3
      exact hρ _ _ _ (by rw [← key2 _ _ h3]; exact q1)
    · rw [hi0, hi1']
  · rintro k ⟨i, v, x, o', h1, h2⟩ hk
    rcases get i _ h1 with e1 | ⟨hi0, e1⟩
    · rcases hρ2 _ _ _ _ h2 with ⟨hi0, _⟩ | e2
      · rw [hi0, List.getElem?_eq_none (Nat.le_refl _)] at e1; cases e1
      · exact hi.imm k ⟨i, v, x, o', e1, e2⟩ hk
    · rcases hρ2 _ _ _ _ h2 with ⟨_, _, hkk, _⟩ | e2
      · exact hI (hkk ▸ hk)
      · rw [hi0, hold] at e2; cases e2
theorem Ext.box1 {cx : Cx} {r : Rl} {σ : Heap} {w w' : World} {b : Nat} {x : Box} (hi : Inv cx r σ w) (h : Ext r σ w r σ w') (hnew : w.heap.size ≤ b) : Ext r σ w (r.box σ.length b) (σ ++ [(0, some x)]) w' := by
  have hold : ∀ v, r.ρ σ.length v = none := fun v => by
    cases h : r.ρ σ.length v with
    | none => rfl
    | some p =>
      obtain ⟨b', o'⟩ := p
      obtain ⟨⟨cur, x, h1, _⟩, _⟩ := hi.lt _ _ _ _ h
      rw [List.getElem?_eq_none (Nat.le_refl _)] at h1; cases h1
  have hρ2 : ∀ i v b' o', (r.box σ.length b).ρ i v = some (b', o') → (i = σ.length ∧ v = 0 ∧ b' = b ∧ o' = 0) ∨ r.ρ i v = some (b', o') := fun i v b' o' h => by
    have h : (if i = σ.length ∧ v = 0 then some (b, 0) else r.ρ i v) = some (b', o') := h
    split at h
    · rename_i hc
      cases h
      exact .inl ⟨hc.1, hc.2, rfl, rfl⟩
    · exact .inr h
  refine ⟨h.S, h.I, h.Sf, h.If, fun i v p hp => ?_, h.hs, by simp, h.same, ?_, h.size, h.os, h.output, h.tape, ?_⟩
  · show (if i = σ.length ∧ v = 0 then _ else r.ρ i v) = _
    rw [if_neg (by rintro ⟨rfl, rfl⟩; rw [hold] at hp; cases hp)]; exact hp
  · rintro k ⟨i, v, y, o', h1, h2⟩
    rcases hρ2 _ _ _ _ h2 with ⟨_, _, rfl, _⟩ | e2
    · exact .inr hnew
    · obtain ⟨⟨cur, x', q1, _⟩, _⟩ := hi.lt _ _ _ _ e2
      have hl : i < σ.length := by
        rcases Nat.lt_or_ge i σ.length with hl | hl
        · exact hl
        · rw [List.getElem?_eq_none hl] at q1; cases q1
      rw [List.getElem?_append_left hl] at h1
      exact .inl ⟨i, v, y, o', h1, e2⟩
  · intro i v b' o' hp
    rcases hρ2 _ _ _ _ hp with ⟨_, _, rfl, _⟩ | e2
    · exact .inr hnew
    · exact .inl ⟨v, o', e2⟩
end Go.Ab
end
section
set_option linter.unusedVariables false
set_option linter.unusedSimpArgs false
set_option maxHeartbeats 2000000
namespace Go.Ab
open Go Go.Shelf Go.RowKit Go.Maps Go.Sort
section
variable {cx : Cx} {ρ : Ren}
theorem Sorted_raw {ρk : Ren} (Lk : Go.Proofs.SlLaysZ.n7 cx.P ρk) (Ls : Go.Proofs.SlLaysZ.n6 cx.P ρ) (hsort : ∀ m, Go.Proofs.AnyZ.SortsIn cx.P ρ Fence.wide m) (he : Enters cx.P (ρ.f 6)) (e9 : ∀ args w, (callFunc (ρ.f 9) args).run cx.P w = .ok (.enter (ρ.f 9) args) w)
    (eg : ∀ args w, (callFunc (ρk.f 10) args).run cx.P w = .ok (.enter (ρk.f 10) args) w) (hk : cx.P.underlying (ρk.t 26) = some .string) {σ : Heap} {id ver i v : Nat} {kvs : List (AV × AV)} {st : Option (List Nat × Nat)} {T : TypeId}
    (hσi : σ[i]? = some (v, some (.cells [.map id ver] ⟨false, some T⟩))) (hσ : σ[id]? = some (ver, some (.map kvs st))) {ks : List (List UInt8)} (hks : kvs.map Prod.fst = ks.map AV.str) (hnd : ks.Nodup) (hne : ks ≠ []) (hlen : ks.length ≤ 1000000000) (hsz : ∀ x ∈ ks, x.length ≤ maxLen) :
    CallOk cx (ρ.f 6) [.func (.func (ρk.f 10)) [] [.ptr i v 0]] σ (fun e s => e = .ret (.ms σ.length 0 0 (sortT ks).length 1 false) ∧ s = σ ++ [(0, some (.cells ((sortT ks).map AV.str) ⟨false, none⟩))]) := by
  refine ⟨he, fun r w vs hi hv => ?_⟩
  obtain ⟨hs, hv⟩ := hv
  have g0 := hv 0 (by simp)
  have hvs : vs = #[vs.getD 0 undef] := by
    have hs : vs.size = 1 := hs
    refine Array.ext (by simp [hs]) fun j h1 h2 => ?_
    match j, h1 with
    | 0, h1 => simp [Array.getD, h1]
    | j + 1, h1 => omega
  rw [hvs]
  generalize vs.getD 0 undef = z at g0
  have g0 : VRel r w z (.func (.func (ρk.f 10)) [] [.ptr i v 0]) := g0
  cases g0 with
  | func h1 hf h2 hb =>
    rename_i first captured
    have hfirst : first = #[] := Array.eq_empty_of_size_eq_zero h1
    have hp := hb 0 (by simp)
    have hcap : captured = #[captured.getD 0 undef] := by
      have h2 : captured.size = 1 := h2
      refine Array.ext (by simp [h2]) fun j h1 h2 => ?_
      match j, h1 with
      | 0, h1 => simp [Array.getD, h1]
      | j + 1, h1 => omega
    rw [hcap, hfirst]
    generalize captured.getD 0 undef = pz at hp
    have hp : VRel r w pz (.ptr i v 0) := hp
    cases hp with
    | ptr hρ =>
      rename_i b1 o1
      rcases hi.box i v _ hσi with ⟨b1', o', hρ', hbx⟩ | ⟨_, ro, h⟩
      case inr => cases h
      rw [hρ] at hρ'
      obtain ⟨rfl, rfl⟩ : b1 = b1' ∧ o1 = o' := by cases hρ'; exact ⟨rfl, rfl⟩
      obtain ⟨c, t, lo, hi0, q1, q2, q3, q4, q5⟩ := hbx
      obtain ⟨_, rfl, _⟩ := q5 T rfl
      obtain ⟨mv, m1, m2⟩ := q2 0 (by simp)
      have m2 : VRel r w mv (.map id ver) := m2
      obtain ⟨mb, es, clock, rfl, hρm, hmb, hmi⟩ := hi.mapAt hσ m2
      have hcell : w.cell? ⟨b1, 0, none⟩ = some (.map (some mb)) := by simp [World.cell?, q1, ← m1]
      have hb1 : b1 < w.heap.size := (hi.lt _ _ _ _ hρ).2
      obtain ⟨D, d1, d2, d3⟩ := keys_own hk hmb hmi hks hnd hlen hsz
      have hseq := Go.Proofs.AnyZ.keys_gives (ρ := ρk) { Lk with } Fence.wide 2 trivial rfl (by omega) b1 mb ks.length D w hb1 hcell d1
      have hc := Go.Proofs.AnyZ.sorted_in Ls Fence.wide 5 trivial trivial trivial trivial rfl (by omega) (hsort _) e9 (ρk.f 10) #[.pointer (some ⟨b1, 0, none⟩)] trivial eg _ _ (by rw [d3]; unfold maxLen; omega) (by rw [d3]; omega) w hseq
      refine (callsIn_wide.1 hc).mono ?_
      rintro e w' ⟨v', ss, rfl, hS, hrow, hnil, hbel⟩
      obtain ⟨p1, p2⟩ := hi.grown (w' := w') hbel.block hbel.size hbel.os hbel.output hbel.tape
      have hss : (ss.mergeSort fun x y => decide (x ≤ y)) = sortT ks := sortT_eq (hS.trans d2)
      have hsl : ss.length = (sortT ks).length := by rw [← hss, List.length_mergeSort]
      rw [hss] at hrow
      rcases hrow.2 with ⟨rfl, hz⟩ | ⟨gb, cap, cur, rfl, hbase, hgb, r1, r2, r3, r4⟩
      · have hke : sortT ks = [] := List.length_eq_zero_iff.1 (by omega)
        exact absurd (by have := (sortT_perm ks).length_eq; rw [hke] at this; exact List.length_eq_zero_iff.1 this.symm) hne
      · have hlt : gb < w'.heap.size := by
          rcases Nat.lt_or_ge gb w'.heap.size with h | h
          · exact h
          · rw [Array.getElem?_eq_none h] at hgb; cases hgb
        have hnew : ∀ i v o, r.ρ i v ≠ some (gb, o) := fun i v o h => by have := (hi.lt _ _ _ _ h).2; omega
        have hnI : ¬ r.I gb := fun h => by have := hi.Ilt gb h; omega
        obtain ⟨a1, a2⟩ := p1.box1 (cs := (sortT ks).map AV.str) hgb hnI hnew (fun j hj => by
          rw [List.length_map] at hj
          have h5 : (cur.toList.take (ss.length * 1))[j]? = ((sortT ks).map Go.Proofs.encStr)[j]? := by rw [r4]
          rw [List.getElem?_take_of_lt (by omega), List.getElem?_map, List.getElem?_eq_getElem hj, Array.getElem?_toList] at h5
          refine ⟨Go.Proofs.encStr (sortT ks)[j], h5, ?_⟩
          rw [List.getElem_map]
          exact .str (by simp)) (fun x hx => by obtain ⟨y, _, rfl⟩ := List.mem_map.1 hx; rfl)
        refine ⟨_, _, r.box σ.length gb, ⟨rfl, rfl⟩, ?_, a1, Ext.box1 hi p2 hbase⟩
        rw [hsl]
        show VRel _ w' _ (.ms σ.length 0 0 (sortT ks).length 1 false)
        refine VRel.ms (o := 0) (off := 0) ?_ ⟨cur, _, _, hgb, by omega⟩ (by omega) (fun h => by cases h)
        show (if σ.length = σ.length ∧ 0 = 0 then _ else _) = _
        rw [if_pos ⟨rfl, rfl⟩]
end
end Go.Ab
end
section
set_option linter.unusedVariables false
set_option linter.unusedSimpArgs false
set_option maxRecDepth 20000
set_option maxHeartbeats 4000000
namespace Go.Proofs.YtjkeekbfgnmngaaGreatDoor
open Go Go.Ab Go.Shelf Go.RowKit Go.Maps Go.Sort
theorem sorts_str (m : Nat) : Go.Proofs.AnyZ.SortsIn Tryz.prog lay_sorted_ren Fence.wide m :=
  ⟨fun blk off cap ss W hH hblk hsz => callsIn_wide.2 (Go.Proofs.AnyM.slices_Sort_string lay_sort blk off cap ss W hH hblk hsz),
   fun p cap W => callsIn_wide.2 (Go.Proofs.AnyM.slices_Sort_string_none lay_sort p cap W)⟩
theorem KeysL_ok {σ : Heap} {id ver i v : Nat} {σ' : Heap} (ha : allocH σ (.cells [.map id ver] ⟨false, some 119⟩) = (i, v, σ')) :
    CallOk cx 82 [.map id ver] σ (fun e s => e = .ret (.func (.func 110) [] [.ptr i v 0]) ∧ s = σ') :=
  Keys_gen (cx := cx) lay_keysL (fun a w => Tryz.call82 a w) ha
theorem KeysB_ok {σ : Heap} {id ver i v : Nat} {σ' : Heap} (ha : allocH σ (.cells [.map id ver] ⟨false, some 66⟩) = (i, v, σ')) :
    CallOk cx 34 [.map id ver] σ (fun e s => e = .ret (.func (.func 75) [] [.ptr i v 0]) ∧ s = σ') :=
  Keys_gen (cx := cx) lay_keysB (fun a w => Tryz.call34 a w) ha
theorem SortedL_ok {σ : Heap} {id ver i v : Nat} {ks : List (List UInt8)} {val : List UInt8 → AV} {T : TypeId} (hσi : σ[i]? = some (v, some (.cells [.map id ver] ⟨false, some T⟩))) (hσ : σ[id]? = some (ver, mapBx ks val)) (hnd : ks.Nodup) (hlen : ks.length ≤ 1000000000) (hsz : ∀ x ∈ ks, x.length ≤ 1000000000) :
    CallOk cx 28 [.func (.func 110) [] [.ptr i v 0]] σ (fun e s => e = .ret (.sl true false 1 ((sortT ks).map AV.str)) ∧ s = σ) :=
  Sorted_gen (cx := cx) lay_keysL lay_sorted sorts_str (fun a w => Tryz.call28 a w) (fun a w => Tryz.call69 a w) (fun a w => Tryz.call110 a w) Tryz.underlying9 hσi hσ (mapF_keys ks val) hnd hlen (fun x hx => Nat.le_trans (hsz x hx) (by unfold maxLen; omega))
theorem SortedB_ok {σ : Heap} {id ver i v : Nat} {ks : List (List UInt8)} {val : List UInt8 → AV} {T : TypeId} (hσi : σ[i]? = some (v, some (.cells [.map id ver] ⟨false, some T⟩))) (hσ : σ[id]? = some (ver, mapBx ks val)) (hnd : ks.Nodup) (hlen : ks.length ≤ 1000000000) (hsz : ∀ x ∈ ks, x.length ≤ 1000000000) :
    CallOk cx 28 [.func (.func 75) [] [.ptr i v 0]] σ (fun e s => e = .ret (.sl true false 1 ((sortT ks).map AV.str)) ∧ s = σ) :=
  Sorted_gen (cx := cx) lay_keysB lay_sorted sorts_str (fun a w => Tryz.call28 a w) (fun a w => Tryz.call69 a w) (fun a w => Tryz.call75 a w) Tryz.underlying9 hσi hσ (mapF_keys ks val) hnd hlen (fun x hx => Nat.le_trans (hsz x hx) (by unfold maxLen; omega))
theorem SortedB_raw {σ : Heap} {id ver i v : Nat} {ks : List (List UInt8)} {val : List UInt8 → AV} {T : TypeId} (hσi : σ[i]? = some (v, some (.cells [.map id ver] ⟨false, some T⟩))) (hσ : σ[id]? = some (ver, mapBx ks val)) (hnd : ks.Nodup) (hne : ks ≠ []) (hlen : ks.length ≤ 1000000000) (hsz : ∀ x ∈ ks, x.length ≤ 1000000000) :
    CallOk cx 28 [.func (.func 75) [] [.ptr i v 0]] σ (fun e s => e = .ret (.ms σ.length 0 0 (sortT ks).length 1 false) ∧ s = σ ++ [(0, some (.cells ((sortT ks).map AV.str) ⟨false, none⟩))]) :=
  Sorted_raw (cx := cx) lay_keysB lay_sorted sorts_str (fun a w => Tryz.call28 a w) (fun a w => Tryz.call69 a w) (fun a w => Tryz.call75 a w) Tryz.underlying9 hσi hσ (mapF_keys ks val) hnd hne hlen (fun x hx => Nat.le_trans (hsz x hx) (by unfold maxLen; omega))
end Go.Proofs.YtjkeekbfgnmngaaGreatDoor
end
section
set_option linter.unusedVariables false
set_option linter.unusedSimpArgs false
set_option maxRecDepth 20000
set_option maxHeartbeats 4000000
namespace Go.Proofs.YtjkeekbfgnmngaaGreatDoor
open Go Go.Ab
def bxB (bs : List (List UInt8)) : Option Box := mapBx bs fun _ => .bool true
def valG (l : List Fil) (i : Nat) (last : List UInt8) : List UInt8 → AV := fun n => if n = last then .ms 3 i 0 (grT (l.take i) n).length 3 false else .sl false false 3 (fils (grT (l.take i) n))
def valZ (l : List Fil) : List UInt8 → AV := fun n => .sl false false 3 (fils (grT l n))
def celsF (g : List Fil) : List AV := (fils g).flatMap AV.cells
def hpG (v0 : Nat) (bs : List (List UInt8)) (l : List Fil) : Nat → Heap
  | 0 => [(v0, bxB bs), (0, mapBx [] fun _ => .top), (0, none), (0, none)]
  | i + 1 => [(v0, bxB bs), (0, mapBx (nmsT (l.take (i + 1))) (valG l (i + 1) (fstT (l.getD i ⟨[], [], false⟩).path))), (i + 1, none), (i + 1, some (.cells (celsF (grT (l.take (i + 1)) (fstT (l.getD i ⟨[], [], false⟩).path))) ⟨false, none⟩))]
theorem gr_one {l : List Fil} {i : Nat} (h : i < l.length) (hn : fstT l[i].path ∉ nmsT (l.take i)) : grT (l.take (i + 1)) (fstT l[i].path) = [stp l[i]] := by
  rw [gr_step h, if_pos rfl, gr_nil hn]; rfl
theorem getD_at {l : List Fil} {i : Nat} (h : i < l.length) : l.getD i ⟨[], [], false⟩ = l[i] := by simp [List.getD, h]
theorem mapG_new {l : List Fil} {i : Nat} (h : i < l.length) (hn : fstT l[i].path ∉ nmsT (l.take i)) :
    mapBx (addK (nmsT (l.take i)) (fstT l[i].path)) (updF (valZ (l.take i)) (fstT l[i].path) (.ms 3 (i + 1) 0 1 3 false)) = mapBx (nmsT (l.take (i + 1))) (valG l (i + 1) (fstT l[i].path)) := by
  unfold mapBx
  rw [nms_step h]
  show some (Box.map (mapF (addU _ _) _) none) = some (Box.map (mapF (addU _ _) _) none)
  congr 2
  refine mapF_congr fun n _ => ?_
  unfold updF valG valZ
  by_cases e : n = fstT l[i].path
  · rw [if_pos e, if_pos e, e, gr_one h hn]; rfl
  · rw [if_neg e, if_neg e, gr_step h, if_neg (Ne.symm e), List.append_nil]
theorem mapG_old {l : List Fil} {i : Nat} (h : i < l.length) :
    mapBx (addK (nmsT (l.take i)) (fstT l[i].path)) (updF (valG l i (fstT l[i].path)) (fstT l[i].path) (.ms 3 (i + 1) 0 ((grT (l.take i) (fstT l[i].path)).length + 1) 3 false)) = mapBx (nmsT (l.take (i + 1))) (valG l (i + 1) (fstT l[i].path)) := by
  unfold mapBx
  rw [nms_step h]
  show some (Box.map (mapF (addU _ _) _) none) = some (Box.map (mapF (addU _ _) _) none)
  congr 2
  refine mapF_congr fun n _ => ?_
  unfold updF valG
  by_cases e : n = fstT l[i].path
  · rw [if_pos e, if_pos e, e, gr_step h, if_pos rfl, List.length_append]; rfl
  · rw [if_neg e, if_neg e, if_neg e, gr_step h, if_neg (Ne.symm e), List.append_nil]
theorem cels_len (g : List Fil) : (celsF g).length = g.length * 3 := by
  unfold celsF fils
  induction g with
  | nil => rfl
  | cons f g ih => rw [List.map_cons, List.flatMap_cons, List.length_append, ih, List.length_cons]; show 3 + _ = _; omega
theorem fil_size (g : List Fil) : ∀ x ∈ fils g, x.cells.length = 3 := by
  intro x hx
  obtain ⟨f, _, rfl⟩ := List.mem_map.1 hx
  rfl
section
variable {n : Nat} {B : Bs} {k : List AI} {Q : Post} {fr : Fr} {σ : Heap}
theorem S_frzG {todo : List AI} {v0 : Nat} {bs : List (List UInt8)} {l : List Fil} {i : Nat} (hi : i ≤ l.length) (hT : ∃ c k, todo = .code c :: k)
    (hk : S cx n B todo Q fr [(v0, bxB bs), (0, mapBx (nmsT (l.take i)) (valZ (l.take i))), (i, none), (i, none)]) : S cx n B todo Q fr (hpG v0 bs l i) := by
  obtain ⟨c0, k0, rfl⟩ := hT
  have hi0 : i = 0 ∨ ∃ k, i = k + 1 := by cases i with | zero => exact .inl rfl | succ k => exact .inr ⟨k, rfl⟩
  rcases hi0 with h0 | ⟨k, h0⟩
  · subst h0; exact hk
  · have hkl : k < l.length := by omega
    obtain ⟨c, hc⟩ : ∃ c, c = fstT (l.getD k ⟨[], [], false⟩).path := ⟨_, rfl⟩
    have hcm : c ∈ nmsT (l.take i) := by
      rw [hc, getD_at hkl]
      refine nms_mem.2 ⟨l[k], ?_, rfl⟩
      rw [List.mem_iff_getElem]
      exact ⟨k, by rw [List.length_take]; omega, by rw [List.getElem_take]⟩
    have hcl := cels_len (grT (l.take i) c)
    have hgne := gr_ne hcm
    have hgp : 0 < (grT (l.take i) c).length := List.length_pos_iff.2 hgne
    refine S_heap [(v0, bxB bs), (0, mapBx (nmsT (l.take i)) (valG l i c)), (i, none), (i, some (.cells (celsF (grT (l.take i) c)) ⟨false, none⟩))] (by subst h0; subst hc; rfl) ?_
    refine S_freezeM (mid := 1) (id := 3) (len := (grT (l.take i) c).length) (sz := 3) (kvs' := mapF (nmsT (l.take i)) (valZ (l.take i))) (fils (grT (l.take i) c)) rfl rfl (fun e => by rw [e] at hcl; simp at hcl; omega) (by rw [List.take_of_length_le (by omega)]; rfl) (fil_size _) (fils_len _) (by omega) (by simp [mapF]) (fun j h1 h2 => ?_) ⟨_, _, .inl rfl⟩ ?_
    · simp only [mapF, List.getElem_map, true_and]
      unfold valG valZ
      by_cases e : (nmsT (l.take i))[j]'(by simpa [mapF] using h1) = c
      · rw [if_pos e, e]; exact .inr ⟨rfl, rfl⟩
      · rw [if_neg e]; exact .inl rfl
    exact hk
end
theorem ncel_len (g : List NodeV) : ((nodes g).flatMap AV.cells).length = g.length * 3 := by
  unfold nodes
  induction g with
  | nil => rfl
  | cons f g ih => rw [List.map_cons, List.flatMap_cons, List.length_append, ih, List.length_cons]; show 3 + _ = _; omega
theorem bxB_rn (bs : List (List UInt8)) (v : Nat) (ids : List Nat) : RnE ids (v, bxB bs) (v, bxB bs) :=
  .live (.map rfl fun i h1 h2 => by simp only [mapF, List.getElem_map]; exact ⟨.free .str, .free .bool⟩)
theorem putB (bs : List (List UInt8)) (t : List UInt8) : mapBx (addK bs t) (updF (fun _ => .bool true) t (.bool true)) = bxB (addU bs t) := by
  rw [updF_const]; rfl
theorem putH {v0 : Nat} (bs : List (List UInt8)) (t : List UInt8) (r : Heap) : ((v0, bxB bs) :: r).set 0 (v0, mapBx (addK bs t) (updF (fun _ => .bool true) t (.bool true))) = (v0, bxB (addU bs t)) :: r := by
  rw [putB]; rfl
theorem foldU_nodup {ts bs : List (List UInt8)} (h : bs.Nodup) : (ts.foldl addU bs).Nodup := by
  have := addU_fold_nodup (fun t : List UInt8 => t) ts bs h
  exact this
theorem packed_ok {st fl : Bool} (d : Nat) (v0 : Nat) (bs : List (List UInt8)) (l : List Fil) (h : DirOk (d + 1) l) (hb : bs.Nodup) : CallOk cx 42 [.sl st fl 3 (fils l), .map 0 v0] [(v0, bxB bs)] (fun o s => o = .ret (.str (dirT (d + 1) l).1) ∧ s = [(v0, bxB ((dirT (d + 1) l).2.foldl addU bs))]) := by
  induction d using Nat.strongRecOn generalizing st fl v0 bs l with | ind d ih => ?_
  exact callOk_introT (fun a w => Tryz.call42 a w) Tryz.func42 rfl Tryz.ntmps42 rfl fun B => by
    have hll := fils_len l
    have hlen := h.len
    refine pa [.f (.map 1 0) (fun _ => [(v0, bxB bs), (0, some (.map [] (some ([], 0))))])] rfl ?_ ?_
    · (repeat' with_reducible apply AllP_cons) <;> try exact aC
      · exact OpSpec.mapN (C := []) rfl trivial
    refine S_unstamp (id := 1) rfl ?_ ⟨_, _, .inl rfl⟩
    refine S_dead ?_ ⟨_, _, .inl rfl⟩
    refine S_dead ?_ ⟨_, _, .inl rfl⟩
    refine S_while (α := Nat) (fun i => [(0, .sl st fl 3 (fils l)), (1, .map 0 v0), (5, .map 1 0), (20, .sl st fl 3 (fils l)), (21, .int .i64 (((fils l).length : Nat) : Int)), (22, .int .i64 (i : Nat))]) (hpG v0 bs l) (fun i => i ≤ l.length) (fun i => l.length - i) 0
      (Nat.zero_le _) (.cons rfl (.cons rfl (.cons rfl (.cons rfl (.cons rfl (.cons rfl (.nil _))))))) rfl ?_
    intro i hi
    have hi : i ≤ l.length := hi
    by_cases hlt : i < l.length
    · have e1 : decide ((i : Int) < (((fils l).length : Nat) : Int)) = true := decide_eq_true (by omega)
      have g1 : (fils l)[(i : Int).toNat]? = some (filA l[i]) := fils_get hlt
      have hm := List.getElem_mem hlt
      have hC := Cut_ok l[i].path (by have := (path_fst (h.path _ hm)).2.1; omega)
      have hi0 : i = 0 ∨ ∃ k, i = k + 1 := by cases i with | zero => exact .inl rfl | succ k => exact .inr ⟨k, rfl⟩
      by_cases hk : fstT l[i].path ∈ nmsT (l.take i)
      · rcases hi0 with h0 | ⟨k, h0⟩
        · subst h0; cases hk
        have hkl : k < l.length := by omega
        have hlast : fstT (l.getD k ⟨[], [], false⟩).path = fstT l[i].path := by
          obtain ⟨f, hf, he⟩ := nms_mem.1 hk
          obtain ⟨j, hj, rfl⟩ := List.getElem_of_mem hf
          rw [List.length_take] at hj
          rw [List.getElem_take] at he
          have := contig h.ok (j := j) (i := i) (by omega) hlt he
          rw [getD_at hkl, ← this]
          congr 2; simp only [h0]; rfl
        have hcl := cels_len (grT (l.take i) (fstT l[i].path))
        have hgl : (grT (l.take i) (fstT l[i].path)).length ≤ 60 := by
          unfold grT
          rw [List.length_map]
          refine Nat.le_trans (List.length_filter_le _ _) ?_
          rw [List.length_take]; omega
        refine S_heap [(v0, bxB bs), (0, mapBx (nmsT (l.take i)) (valG l i (fstT l[i].path))), (i, none), (i, some (.cells (celsF (grT (l.take i) (fstT l[i].path))) ⟨false, none⟩))] (by subst h0; show hpG v0 bs l (k + 1) = _; simp only [hpG]; rw [hlast]) ?_
        refine pa [.b true, .v (filA l[i]), .v (cutAV l[i].path), .v (.ms 3 i 0 (grT (l.take i) (fstT l[i].path)).length 3 false), .f (.tup []) (fun σ => (v0, bxB bs) :: (0, mapBx (addK (nmsT (l.take i)) (fstT l[i].path)) (updF (valG l i (fstT l[i].path)) (fstT l[i].path) (.ms 3 (i + 1) 0 ((grT (l.take i) (fstT l[i].path)).length + 1) 3 false))) :: σ.tail.tail), .s] rfl ?_ ?_
        · (repeat' with_reducible apply AllP_cons) <;> try exact aC
          · exact ⟨_, hC, .cons (.refl .str) (.cons (.refl .str) (.nil _))⟩
          · exact OpSpec.mget (kt := 9) (et := 22) (ks := nmsT (l.take i)) (val := valG l i (fstT l[i].path)) (s := fstT l[i].path) (z := .nils) rfl (Tryz.underlying119) rfl rfl rfl rfl rfl (by rw [if_pos hk]; show valG l i (fstT l[i].path) (fstT l[i].path) = _; unfold valG; rw [if_pos rfl])
          · show 0 + (grT (l.take i) (fstT l[i].path)).length * 3 = _
            omega
          · show ((grT (l.take i) (fstT l[i].path)).length + 1) * 40 ≤ 140737488355328
            omega
          · exact OpSpec.mput (kt := 9) (et := 22) (ks := nmsT (l.take i)) (val := valG l i (fstT l[i].path)) (s := fstT l[i].path) rfl (Tryz.underlying119) rfl rfl rfl rfl rfl (nms_nodup _) rfl
        refine S_drop (id := 2) rfl ?_ ⟨.skip, _, .inr ⟨_, _, _, rfl⟩⟩
        refine S_heap (hpG v0 bs l (i + 1)) ?_ ?_
        · rw [mapG_old hlt]
          simp only [hpG]
          rw [getD_at hlt]
          have hce : celsF (grT (l.take (i + 1)) (fstT l[i].path)) = dropA 0 (celsF (grT (l.take i) (fstT l[i].path))) ++ [.str (rstT l[i].path), .str l[i].text, .bool l[i].run] := by
            rw [gr_step hlt, if_pos rfl]
            unfold celsF fils
            rw [List.map_append, List.flatMap_append]; rfl
          rw [hce]; rfl
        refine pB [] rfl ?_
        exact S_round (i + 1) (by show l.length - (i + 1) < l.length - i; omega) hlt (.cons rfl (.cons rfl (.cons rfl (.cons rfl (.cons rfl (.cons (nX (by omega)) (.nil _))))))) rfl
      · refine S_frzG hi ⟨_, _, rfl⟩ ?_
        refine pa [.b true, .v (filA l[i]), .v (cutAV l[i].path), .v .nils, .f (.tup []) (fun σ => (v0, bxB bs) :: (0, mapBx (addK (nmsT (l.take i)) (fstT l[i].path)) (updF (valZ (l.take i)) (fstT l[i].path) (.ms 3 (i + 1) 0 1 3 false))) :: σ.tail.tail), .s] rfl ?_ ?_
        · (repeat' with_reducible apply AllP_cons) <;> try exact aC
          · exact ⟨_, hC, .cons (.refl .str) (.cons (.refl .str) (.nil _))⟩
          · exact OpSpec.mget (kt := 9) (et := 22) (ks := nmsT (l.take i)) (val := valZ (l.take i)) (s := fstT l[i].path) (z := .nils) rfl (Tryz.underlying119) rfl rfl rfl rfl rfl (by rw [if_neg hk]; rfl)
          · exact OpSpec.mput (kt := 9) (et := 22) (ks := nmsT (l.take i)) (val := valZ (l.take i)) (s := fstT l[i].path) rfl (Tryz.underlying119) rfl rfl rfl rfl rfl (nms_nodup _) rfl
        refine S_drop (id := 2) rfl ?_ ⟨.skip, _, .inr ⟨_, _, _, rfl⟩⟩
        refine S_heap (hpG v0 bs l (i + 1)) ?_ ?_
        · rw [mapG_new hlt hk]
          simp only [hpG]
          rw [getD_at hlt]
          rw [gr_one hlt hk]; rfl
        refine pB [] rfl ?_
        exact S_round (i + 1) (by show l.length - (i + 1) < l.length - i; omega) hlt (.cons rfl (.cons rfl (.cons rfl (.cons rfl (.cons rfl (.cons (nX (by omega)) (.nil _))))))) rfl
    · have hil : i = l.length := by omega
      subst hil
      refine S_frzG (Nat.le_refl _) ⟨_, _, rfl⟩ ?_
      rw [List.take_length]
      generalize hu : l.length = u
      rw [hll, hu]
      have e1 : decide ((u : Int) < (u : Int)) = false := decide_eq_false (by omega)
      have hnl := nms_len l
      have hns : ∀ x ∈ nmsT l, x.length ≤ 1000000000 := by
        intro x hx
        obtain ⟨f, hf, rfl⟩ := nms_mem.1 hx
        have := (path_fst (h.path f hf)).2.1
        have := fst_len f.path
        omega
      refine pa [.b false, .f (.func (.func 110) [] [.ptr 2 (u + 1) 0]) (fun σ => (v0, bxB bs) :: (0, mapBx (nmsT l) (valZ l)) :: (u + 1, some (.cells [.map 1 0] ⟨false, some 119⟩)) :: σ.tail.tail.tail), .k (.sl true false 1 ((sortT (nmsT l)).map AV.str)), .s] rfl ?_ ?_
      · (repeat' with_reducible apply AllP_cons) <;> try exact aC
        · exact KeysL_ok rfl
        · exact SortedL_ok (ks := nmsT l) (val := valZ l) rfl rfl (nms_nodup l) (by omega) hns
      refine S_drop (id := 2) rfl ?_ ⟨.skip, _, .inr ⟨_, _, _, rfl⟩⟩
      refine pB [] rfl ?_
      refine S_ghostF (t := 11) 3 ⟨false, none⟩ rfl rfl ⟨_, _, .inl rfl⟩ ?_
      have hdir : dirT (d + 1) l = (packNs (nodsT (dirT d) l (sortT (nmsT l))), blbsT (dirT d) l (sortT (nmsT l))) := rfl
      rw [hdir]
      have hkm : ∀ n ∈ sortT (nmsT l), n ∈ nmsT l := fun n hn => (sortT_perm _).mem_iff.1 hn
      have hkl : (sortT (nmsT l)).length ≤ 60 := by rw [(sortT_perm _).length_eq]; omega
      have hchk := nods_chk h (dirT d)
      have hnk : NodesOk (nodsT (dirT d) l (sortT (nmsT l))) := ⟨by have := (chk_fit hchk).len; omega, fun n hn => by have := (chk_fit hchk).name n hn; omega, fun n hn => by have := (chk_fit hchk).dig n hn; omega⟩
      have hN := Nodes_ok (st := false) (fl := false) _ hnk
      rw [hchk, if_pos rfl] at hN
      generalize hks : sortT (nmsT l) = ks at *
      have hkt : (ks.map AV.str).length = ks.length := List.length_map ..
      refine S_while (α := Nat) (fun j => [(1, .map 0 v0), (5, .map 1 0), (46, .sl true false 1 (ks.map AV.str)), (47, .int .i64 (((ks.map AV.str).length : Nat) : Int)), (48, .int .i64 (j : Nat)), (11, .ms 2 (u + 2 + j) 0 j 3 false)])
        (fun j => [(v0, bxB ((blbsT (dirT d) l (ks.take j)).foldl addU bs)), (0, mapBx (nmsT l) (valZ l)), (u + 2 + j, some (.cells ((nodes (nodsT (dirT d) l (ks.take j))).flatMap AV.cells) ⟨false, none⟩)), (u + j, none)]) (fun j => j ≤ ks.length) (fun j => ks.length - j) 0
        (Nat.zero_le _) (.cons rfl (.cons rfl (.cons rfl (.cons rfl (.cons rfl (.cons rfl (.nil _))))))) rfl ?_
      intro j hj
      have hj : j ≤ ks.length := hj
      by_cases hjt : j < ks.length
      · have e2 : decide ((j : Int) < (((ks.map AV.str).length : Nat) : Int)) = true := decide_eq_true (by omega)
        have g2 : (ks.map AV.str)[(j : Int).toNat]? = some (.str ks[j]) := by rw [Int.toNat_natCast, List.getElem?_map, List.getElem?_eq_getElem hjt]; rfl
        have hn := hkm _ (List.getElem_mem hjt)
        obtain ⟨g, hg⟩ : ∃ g, g = grT l ks[j] := ⟨_, rfl⟩
        have hgne : g ≠ [] := hg ▸ gr_ne hn
        have hcn : ((nodes (nodsT (dirT d) l (ks.take j))).flatMap AV.cells).length = j * 3 := by
          rw [ncel_len]; unfold nodsT; rw [List.length_map, List.length_take, Nat.min_eq_left (by omega)]
        obtain ⟨bj, hbj⟩ : ∃ bj, bj = (blbsT (dirT d) l (ks.take j)).foldl addU bs := ⟨_, rfl⟩
        have hbn : bj.Nodup := hbj ▸ foldU_nodup hb
        have hstep : ∀ e : NodeV × List (List UInt8), entT (dirT d) ks[j] g = e → nodsT (dirT d) l (ks.take (j + 1)) = nodsT (dirT d) l (ks.take j) ++ [e.1] ∧ (blbsT (dirT d) l (ks.take (j + 1))).foldl addU bs = e.2.foldl addU bj := by
          intro e he
          unfold nodsT blbsT
          rw [List.take_succ_eq_append_getElem hjt, List.map_append, List.flatMap_append, List.foldl_append, hbj]
          simp only [List.map_cons, List.map_nil, List.flatMap_cons, List.flatMap_nil, List.append_nil]
          rw [← hg, he]; exact ⟨rfl, rfl⟩
        have hend : ∀ (m : NodeV), nodsT (dirT d) l (ks.take (j + 1)) = nodsT (dirT d) l (ks.take j) ++ [m] → (nodes (nodsT (dirT d) l (ks.take j))).flatMap AV.cells ++ [.str m.name, .int .i64 m.kind, .str m.dig] = (nodes (nodsT (dirT d) l (ks.take (j + 1)))).flatMap AV.cells := by
          intro m hm
          rw [hm]; unfold nodes
          rw [List.map_append, List.flatMap_append]; rfl
        rw [← hbj]
        rcases h.sub hn with ⟨f, hf, hfp, hfr, hgf⟩ | ⟨hne, hsub⟩
        · rw [← hg] at hgf
          have g3 : (fils g)[((0 : Nat) : Int).toNat]? = some (filA ⟨[], f.text, f.run⟩) := by rw [hgf]; rfl
          have htx := h.text f hf
          have hS := Sum_ok f.text (by omega)
          cases hr : f.run with
          | true =>
            rw [hr] at g3 hgf
            have hent : entT (dirT d) ks[j] g = (⟨ks[j], 2, sha f.text⟩, [f.text]) := by rw [hgf, entT, if_pos rfl]; rfl
            obtain ⟨s1, s2⟩ := hstep _ hent
            refine pan 81 [.b true, .v (.str ks[j]), .v (.sl false false 3 (fils g)), .v (filA ⟨[], f.text, true⟩), .v (filA ⟨[], f.text, true⟩), .b false, .v (filA ⟨[], f.text, true⟩), .b true, .f (.tup []) (fun σ => (v0, bxB (addU bj f.text)) :: σ.tail), .v (.str (sha f.text))] rfl ?_ ?_
            · (repeat' with_reducible apply AllP_cons) <;> try exact aC
              · exact OpSpec.mget (kt := 9) (et := 22) (ks := nmsT l) (val := valZ l) (s := ks[j]) (z := .nils) rfl (Tryz.underlying119) rfl rfl rfl rfl rfl (by rw [if_pos hn, hg]; rfl)
              · exact OpSpec.mput (kt := 9) (et := 4) (ks := bj) (val := fun _ => .bool true) (s := f.text) rfl (Tryz.underlying66) rfl rfl rfl rfl rfl hbn (putH _ _ _)
              · exact ⟨_, hS, .cons (.refl .str) (.nil _)⟩
              · show 0 + j * 3 = _
                rw [hcn]; omega
              · show (j + 1) * 40 ≤ 140737488355328
                omega
            refine S_drop (id := 3) rfl ?_ ⟨.skip, _, .inr ⟨_, _, _, rfl⟩⟩
            refine S_heap [(v0, bxB ((blbsT (dirT d) l (ks.take (j + 1))).foldl addU bs)), (0, mapBx (nmsT l) (valZ l)), (u + 2 + (j + 1), some (.cells ((nodes (nodsT (dirT d) l (ks.take (j + 1)))).flatMap AV.cells) ⟨false, none⟩)), (u + (j + 1), none)] ?_ ?_
            · rw [s2, ← hend _ s1]; rfl
            refine pB [] rfl ?_
            exact S_round (j + 1) (by show ks.length - (j + 1) < ks.length - j; omega) hjt (.cons rfl (.cons rfl (.cons rfl (.cons rfl (.cons (nX (by omega)) (.cons rfl (.nil _))))))) rfl
          | false =>
            rw [hr] at g3 hgf
            have hent : entT (dirT d) ks[j] g = (⟨ks[j], 1, sha f.text⟩, [f.text]) := by rw [hgf, entT, if_pos rfl]; rfl
            obtain ⟨s1, s2⟩ := hstep _ hent
            refine pan 81 [.b true, .v (.str ks[j]), .v (.sl false false 3 (fils g)), .v (filA ⟨[], f.text, false⟩), .v (filA ⟨[], f.text, false⟩), .b false, .v (filA ⟨[], f.text, false⟩), .b false, .f (.tup []) (fun σ => (v0, bxB (addU bj f.text)) :: σ.tail), .v (.str (sha f.text))] rfl ?_ ?_
            · (repeat' with_reducible apply AllP_cons) <;> try exact aC
              · exact OpSpec.mget (kt := 9) (et := 22) (ks := nmsT l) (val := valZ l) (s := ks[j]) (z := .nils) rfl (Tryz.underlying119) rfl rfl rfl rfl rfl (by rw [if_pos hn, hg]; rfl)
              · exact OpSpec.mput (kt := 9) (et := 4) (ks := bj) (val := fun _ => .bool true) (s := f.text) rfl (Tryz.underlying66) rfl rfl rfl rfl rfl hbn (putH _ _ _)
              · exact ⟨_, hS, .cons (.refl .str) (.nil _)⟩
              · show 0 + j * 3 = _
                rw [hcn]; omega
              · show (j + 1) * 40 ≤ 140737488355328
                omega
            refine S_drop (id := 3) rfl ?_ ⟨.skip, _, .inr ⟨_, _, _, rfl⟩⟩
            refine S_heap [(v0, bxB ((blbsT (dirT d) l (ks.take (j + 1))).foldl addU bs)), (0, mapBx (nmsT l) (valZ l)), (u + 2 + (j + 1), some (.cells ((nodes (nodsT (dirT d) l (ks.take (j + 1)))).flatMap AV.cells) ⟨false, none⟩)), (u + (j + 1), none)] ?_ ?_
            · rw [s2, ← hend _ s1]; rfl
            refine pB [] rfl ?_
            exact S_round (j + 1) (by show ks.length - (j + 1) < ks.length - j; omega) hjt (.cons rfl (.cons rfl (.cons rfl (.cons rfl (.cons (nX (by omega)) (.cons rfl (.nil _))))))) rfl
        · rw [← hg] at hne hsub
          obtain ⟨f, r, hfr⟩ : ∃ f r, g = f :: r := by cases g with | nil => exact absurd rfl hgne | cons f r => exact ⟨f, r, rfl⟩
          have hd1 : ∃ d', d = d' + 1 := by
            cases d with
            | zero => have := hsub.dep f (by rw [hfr]; simp); omega
            | succ d' => exact ⟨d', rfl⟩
          obtain ⟨d', hd1⟩ := hd1
          have hfne : f.path ≠ [] := hne f (by rw [hfr]; simp)
          have hp := ih d' (by omega) (st := false) (fl := false) v0 bj g (by rw [← hd1]; exact hsub) hbn
          rw [← hd1] at hp
          have hent : entT (dirT d) ks[j] g = (⟨ks[j], 3, sha (dirT d g).1⟩, (dirT d g).2 ++ [(dirT d g).1]) := by rw [hfr, entT, if_neg hfne]
          obtain ⟨s1, s2⟩ := hstep _ hent
          have hsl := dir_len hsub
          generalize (dirT d g).1 = tx at *
          generalize (dirT d g).2 = tb at *
          have g3 : (fils g)[((0 : Nat) : Int).toNat]? = some (filA f) := by rw [hfr]; rfl
          have hS := Sum_ok tx (by omega)
          refine pan 78 [.b true, .v (.str ks[j]), .v (.sl false false 3 (fils g)), .v (filA f), .v (filA f), .b true, .f (.str tx) (fun σ => (v0, bxB (tb.foldl addU bj)) :: σ.tail), .f (.tup []) (fun σ => (v0, bxB (addU (tb.foldl addU bj) tx)) :: σ.tail), .v (.str (sha tx))] rfl ?_ ?_
          · (repeat' with_reducible apply AllP_cons) <;> try exact aC
            · exact OpSpec.mget (kt := 9) (et := 22) (ks := nmsT l) (val := valZ l) (s := ks[j]) (z := .nils) rfl (Tryz.underlying119) rfl rfl rfl rfl rfl (by rw [if_pos hn, hg]; rfl)
            · show (!(f.path == [])) = true
              simp [hfne]
            · exact CallOk.pre1 (σ := [(v0, bxB bj)]) (σ' := [(v0, bxB (tb.foldl addU bj))]) 1 _ hp rfl rfl (.cons (.free (.sl (fun h => by cases h) (fils_free g))) (.cons (.map rfl) (.nil _))) (.cons (bxB_rn _ _ _) (.nil _)) (.cons (bxB_rn _ _ _) (.nil _)) (.free .str)
            · exact OpSpec.mput (kt := 9) (et := 4) (ks := tb.foldl addU bj) (val := fun _ => .bool true) (s := tx) rfl (Tryz.underlying66) rfl rfl rfl rfl rfl (foldU_nodup hbn) (putH _ _ _)
            · exact ⟨_, hS, .cons (.refl .str) (.nil _)⟩
            · show 0 + j * 3 = _
              rw [hcn]; omega
            · show (j + 1) * 40 ≤ 140737488355328
              omega
          refine S_drop (id := 3) rfl ?_ ⟨.skip, _, .inr ⟨_, _, _, rfl⟩⟩
          refine S_heap [(v0, bxB ((blbsT (dirT d) l (ks.take (j + 1))).foldl addU bs)), (0, mapBx (nmsT l) (valZ l)), (u + 2 + (j + 1), some (.cells ((nodes (nodsT (dirT d) l (ks.take (j + 1)))).flatMap AV.cells) ⟨false, none⟩)), (u + (j + 1), none)] ?_ ?_
          · rw [s2, ← hend _ s1, List.foldl_append]; rfl
          refine pB [] rfl ?_
          exact S_round (j + 1) (by show ks.length - (j + 1) < ks.length - j; omega) hjt (.cons rfl (.cons rfl (.cons rfl (.cons rfl (.cons (nX (by omega)) (.cons rfl (.nil _))))))) rfl
      · have hje : j = ks.length := by omega
        subst hje
        have e2 : decide ((ks.length : Int) < (((ks.map AV.str).length : Nat) : Int)) = false := decide_eq_false (by omega)
        rw [List.take_length]
        have hnn : (nodsT (dirT d) l ks).length = ks.length := by unfold nodsT; exact List.length_map ..
        have hcn := ncel_len (nodsT (dirT d) l ks)
        refine pa [.b false, .v (.tup [.str (packNs (nodsT (dirT d) l ks)), .int .i64 ((0 : Nat) : Int)])] rfl ?_ ?_
        · (repeat' with_reducible apply AllP_cons) <;> try exact aC
          · exact ⟨_, hN, .cons (.ms rfl (by show 0 + ks.length * 3 ≤ _; omega) (by rw [List.drop_zero, List.take_of_length_le (by omega)]) (by intro x hx; obtain ⟨y, _, rfl⟩ := List.mem_map.1 hx; rfl) (by rw [nodes_len]; exact hnn) (nodes_any _)) (.nil _)⟩
        refine S_ret ⟨_, _, rfl, trivial, ?_⟩
        exact ⟨1, Nat.le_refl _, LowH.of (fun e he x hx => by
          have he : e ∈ [(v0, bxB ((blbsT (dirT d) l ks).foldl addU bs))] := he
          simp at he; subst he
          cases hx
          exact .map fun p hp => by obtain ⟨t, _, rfl⟩ := List.mem_map.1 hp; exact ⟨.str, .bool⟩), _, .low .str, rfl, rfl⟩
end Go.Proofs.YtjkeekbfgnmngaaGreatDoor
end
section
set_option linter.unusedVariables false
set_option linter.unusedSimpArgs false
set_option maxRecDepth 20000
set_option maxHeartbeats 4000000
namespace Go.Proofs.YtjkeekbfgnmngaaGreatDoor
open Go Go.Ab
theorem grp_sum : ∀ (ns : List (List UInt8)) (l : List Fil), ns.Nodup → ∀ (F : List UInt8 → Nat) (c : Nat), (∀ n ∈ ns, F n ≤ (grT l n).length * c) → (ns.map F).sum ≤ l.length * c
  | [], l, _, F, c, _ => Nat.zero_le _
  | n :: ns, l, hn, F, c, h => by
    obtain ⟨h1, h2⟩ := List.nodup_cons.1 hn
    have hg : ∀ m, (grT l m).length = (l.filter (fun f => fstT f.path == m)).length := fun m => List.length_map ..
    have ih := grp_sum ns (l.filter (fun f => !(fstT f.path == n))) h2 F c (fun m hm => by
      have := h m (List.mem_cons_of_mem _ hm)
      rw [hg] at this
      have e : (grT (l.filter (fun f => !(fstT f.path == n))) m).length = (l.filter (fun f => fstT f.path == m)).length := by
        unfold grT
        rw [List.length_map, List.filter_filter]
        congr 1
        apply List.filter_congr
        intro f _
        by_cases e : fstT f.path = m
        · have : fstT f.path ≠ n := fun e2 => h1 (by rw [← e2, e]; exact hm)
          simp [e, this]
          intro e3; exact this (e.trans e3)
        · simp [e]
      rw [e]; exact this)
    have h3 := h n (List.mem_cons_self ..)
    rw [hg] at h3
    have h4 : l.length = (l.filter (fun f => fstT f.path == n)).length + (l.filter (fun f => !(fstT f.path == n))).length := by
      rw [← List.countP_eq_length_filter, ← List.countP_eq_length_filter]
      have := List.length_eq_countP_add_countP (fun f : Fil => fstT f.path == n) (l := l)
      rw [this]
      congr 1
      apply List.countP_congr
      intro f _; simp
    rw [List.map_cons, List.sum_cons, h4, Nat.add_mul]
    omega
theorem blb_count : ∀ {d : Nat} {l : List Fil}, DirOk d l → (dirT d l).2.length ≤ l.length * d
  | 0, l, h => Nat.zero_le _
  | d + 1, l, h => by
    show (blbsT (dirT d) l (sortT (nmsT l))).length ≤ _
    unfold blbsT
    rw [List.length_flatMap]
    refine grp_sum _ l (sort_nodup (nms_nodup l)) _ (d + 1) (fun n hn => ?_)
    have hn' : n ∈ nmsT l := (sortT_perm _).mem_iff.1 hn
    have hgl : 0 < (grT l n).length := List.length_pos_iff.2 (gr_ne hn')
    rcases h.sub hn' with ⟨f, hf, _, _, hg⟩ | ⟨hne, hg⟩
    · rw [hg]
      show 1 ≤ 1 * (d + 1)
      omega
    · have ih := blb_count hg
      cases hgr : grT l n with
      | nil => rw [hgr] at hgl; simp at hgl
      | cons f r =>
        rw [entT, if_neg (hne f (by rw [hgr]; simp)), ← hgr, List.length_append, Nat.mul_add]
        show _ + 1 ≤ _
        omega
def rootT (l : List Fil) : List UInt8 := sha (dirT 101 l).1
def blobT (l : List Fil) : List (List UInt8) := sortT (addU ((dirT 101 l).2.foldl addU []) (dirT 101 l).1)
def rootAV (l : List Fil) : AV := .tup [.str (if chkT l = 0 then rootT l else []), .int .i64 (chkT l : Nat)]
def blobAV (l : List Fil) : AV := .tup [if chkT l = 0 then .sl true false 1 (texts (blobT l)) else .nils, .int .i64 (chkT l : Nat)]
theorem blobAV_free (l : List Fil) : Free true (blobAV l) := .tup (by
  intro x hx; simp at hx
  rcases hx with rfl | rfl
  · split
    · exact .sl (fun _ => rfl) (by intro y hy; obtain ⟨t, _, rfl⟩ := List.mem_map.1 hy; exact .str)
    · exact .nils
  · exact .int)
theorem chk_bne (n : Nat) : (((n : Int)) != 0) = (n != 0) := by
  cases n with
  | zero => rfl
  | succ n => simp; omega
theorem Root_ok {st fl : Bool} (l : List Fil) (hl : FilsOk l) : Calc cx 24 [.sl st fl 3 (fils l)] (rootAV l) :=
  pure_intro (fun a w => Tryz.call24 a w) Tryz.func24 rfl Tryz.ntmps24 rfl (.tup (by intro x hx; simp at hx; rcases hx with rfl | rfl; exact .str; exact .int)) fun B => by
    have hC := Check_ok (st := st) (fl := fl) l hl
    unfold rootAV
    by_cases h : chkT l = 0
    · rw [h] at hC
      rw [if_pos h, h]
      have hd := DirOk.of h
      have hp := packed_ok (st := st) (fl := fl) 100 0 [] l hd .nil
      have hs := Sum_ok (dirT 101 l).1 (by have := dir_len hd; omega)
      refine pa [.v (.int .i64 ((0 : Nat) : Int)), .b false, .f (.map 0 0) (fun _ => [(0, some (.map [] (some ([], 0))))]), .s] rfl ?_ ?_
      · (repeat' with_reducible apply AllP_cons) <;> try exact aC
        · exact ⟨_, hC, .cons (.refl (.sl (fun h => by cases h) (fils_free l))) (.nil _)⟩
        · exact OpSpec.mapN (C := []) rfl trivial
      refine S_unstamp (id := 0) rfl ?_ ⟨.skip, _, .inr ⟨_, _, _, rfl⟩⟩
      refine pa [.f (.str (dirT 101 l).1) (fun _ => [(0, bxB ((dirT 101 l).2.foldl addU []))]), .v (.str (sha (dirT 101 l).1))] rfl ?_ ?_
      · (repeat' with_reducible apply AllP_cons) <;> try exact aC
        · exact ⟨_, hs, .cons (.refl .str) (.nil _)⟩
      refine S_retc (.tup (by intro x hx; simp at hx; rcases hx with rfl | rfl; exact .str; exact .int)) rfl trivial rfl
    · rw [if_neg h]
      refine pa [.v (.int .i64 (chkT l : Nat)), .b true] rfl ?_ ?_
      · (repeat' with_reducible apply AllP_cons) <;> try exact aC
        · exact ⟨_, hC, .cons (.refl (.sl (fun h => by cases h) (fils_free l))) (.nil _)⟩
        · show ((((chkT l : Nat) : Int)) != 0) = true
          rw [chk_bne]; simpa using h
      refine S_retc (.tup (by intro x hx; simp at hx; rcases hx with rfl | rfl; exact .str; exact .int)) rfl trivial rfl
theorem Blobs_ok {st fl : Bool} (l : List Fil) (hl : FilsOk l) : Calc cx 17 [.sl st fl 3 (fils l)] (blobAV l) :=
  pure_intro (fun a w => Tryz.call17 a w) Tryz.func17 rfl Tryz.ntmps17 rfl (blobAV_free l) fun B => by
    have hC := Check_ok (st := st) (fl := fl) l hl
    unfold blobAV
    by_cases h : chkT l = 0
    · rw [h] at hC
      rw [if_pos h, h]
      have hd := DirOk.of h
      have hp := packed_ok (st := st) (fl := fl) 100 0 [] l hd .nil
      have hfn := foldU_nodup (ts := (dirT 101 l).2) (bs := []) .nil
      have hks : (addU ((dirT 101 l).2.foldl addU []) (dirT 101 l).1).Nodup := addU_nodup hfn
      have hlen : (addU ((dirT 101 l).2.foldl addU []) (dirT 101 l).1).length ≤ 1000000000 := by
        have h1 := blb_count hd
        have h2 := addU_fold_len (fun t : List UInt8 => t) (dirT 101 l).2 []
        have h2 : ((dirT 101 l).2.foldl addU []).length ≤ 0 + (dirT 101 l).2.length := h2
        have h3 : (addU ((dirT 101 l).2.foldl addU []) (dirT 101 l).1).length ≤ ((dirT 101 l).2.foldl addU []).length + 1 := by unfold addU; split <;> simp
        have h4 := hd.len
        have h5 : l.length * 101 ≤ 60 * 101 := Nat.mul_le_mul_right _ h4
        omega
      have hsz : ∀ x ∈ addU ((dirT 101 l).2.foldl addU []) (dirT 101 l).1, x.length ≤ 1000000000 := by
        intro x hx
        rcases addU_mem.1 hx with hx | rfl
        · have hx := (addU_fold_mem (fun t : List UInt8 => t) (dirT 101 l).2 []).1 hx
          rcases hx with hx | ⟨t, ht, rfl⟩
          · cases hx
          · have := blb_len hd t ht; show t.length ≤ _; omega
        · have := dir_len hd; omega
      refine pa [.v (.int .i64 ((0 : Nat) : Int)), .b false, .f (.map 0 0) (fun _ => [(0, some (.map [] (some ([], 0))))]), .s] rfl ?_ ?_
      · (repeat' with_reducible apply AllP_cons) <;> try exact aC
        · exact ⟨_, hC, .cons (.refl (.sl (fun h => by cases h) (fils_free l))) (.nil _)⟩
        · exact OpSpec.mapN (C := []) rfl trivial
      refine S_unstamp (id := 0) rfl ?_ ⟨.skip, _, .inr ⟨_, _, _, rfl⟩⟩
      refine pa [.f (.str (dirT 101 l).1) (fun _ => [(0, bxB ((dirT 101 l).2.foldl addU []))]), .f (.tup []) (fun _ => [(0, bxB (addU ((dirT 101 l).2.foldl addU []) (dirT 101 l).1))]),
        .f (.func (.func 75) [] [.ptr 1 0 0]) (fun _ => [(0, bxB (addU ((dirT 101 l).2.foldl addU []) (dirT 101 l).1)), (0, some (.cells [.map 0 0] ⟨false, some 66⟩))]), .k (.sl true false 1 ((blobT l).map AV.str))] rfl ?_ ?_
      · (repeat' with_reducible apply AllP_cons) <;> try exact aC
        · exact OpSpec.mput (kt := 9) (et := 4) (ks := (dirT 101 l).2.foldl addU []) (val := fun _ => .bool true) (s := (dirT 101 l).1) rfl (Tryz.underlying66) rfl rfl rfl rfl rfl hfn (putH _ _ _)
        · exact KeysB_ok rfl
        · exact SortedB_ok (ks := addU ((dirT 101 l).2.foldl addU []) (dirT 101 l).1) (val := fun _ => .bool true) rfl rfl hks hlen hsz
      refine S_retc (.tup (by intro x hx; simp at hx; rcases hx with rfl | rfl; exact .sl (fun _ => rfl) (by intro y hy; obtain ⟨t, _, rfl⟩ := List.mem_map.1 hy; exact .str); exact .int)) rfl trivial rfl
    · rw [if_neg h]
      refine pa [.v (.int .i64 (chkT l : Nat)), .b true] rfl ?_ ?_
      · (repeat' with_reducible apply AllP_cons) <;> try exact aC
        · exact ⟨_, hC, .cons (.refl (.sl (fun h => by cases h) (fils_free l))) (.nil _)⟩
        · show ((((chkT l : Nat) : Int)) != 0) = true
          rw [chk_bne]; simpa using h
      refine S_retc (.tup (by intro x hx; simp at hx; rcases hx with rfl | rfl; exact .nils; exact .int)) rfl trivial rfl
end Go.Proofs.YtjkeekbfgnmngaaGreatDoor
end
section
set_option linter.unusedVariables false
set_option linter.unusedSimpArgs false
set_option maxRecDepth 20000
namespace Go.Proofs.YtjkeekbfgnmngaaGreatDoor
open Go Go.Ab
def rNode (r : List UInt8) : Option (NodeV × List UInt8) :=
  match rText r with
  | none => none
  | some (a, r1) =>
    match rNum r1 with
    | none => none
    | some (k, r2) =>
      match rText r2 with
      | none => none
      | some (d, r3) => some (⟨a, k, d⟩, r3)
def rNodeRep : Nat → List UInt8 → Option (List NodeV × List UInt8)
  | 0, r => some ([], r)
  | n + 1, r =>
    match rNode r with
    | none => none
    | some (t, r') =>
      match rNodeRep n r' with
      | none => none
      | some (ts, r'') => some (t :: ts, r'')
def rNodes (s : List UInt8) : Option (List NodeV × List UInt8) :=
  match rMany s with
  | none => none
  | some (n, r) => rNodeRep n r
def nb (u : Nat) (ts : List NodeV) : Nat × Option Box := (u, some (.cells ((nodes ts).flatMap AV.cells) ⟨false, none⟩))
def RdNodes (v : Nat) (x : Option (List NodeV × List UInt8)) : Out → Heap → Prop := fun o σ' =>
  match x with
  | some (ts, r) => ∃ u, o = .ret (.ms 1 u 0 ts.length 3 false) ∧ σ' = [rdE v r, nb u ts]
  | none => o = .panic brk ∧ ∃ r u ts, σ' = [rdE v r, nb u ts]
theorem nodes_cells (l : List NodeV) : ((nodes l).flatMap AV.cells).length = 3 * l.length := by
  induction l with
  | nil => rfl
  | cons a r ih =>
    show ((AV.cells (nodeAV a)) ++ (nodes r).flatMap AV.cells).length = _
    rw [List.length_append, ih, List.length_cons]
    show 3 + 3 * r.length = _
    omega
theorem rnodes_ok (v : Nat) (s : List UInt8) (hs : s.length ≤ 1099511627776) :
    CallOk cx 126 [.ptr 0 v 0] (rd v s) (RdNodes v (rNodes s)) :=
  callOk_intro (fun a w => Tryz.call126 a w) Tryz.func126 rfl Tryz.ntmps126 rfl fun B => by
    refine ab 1000 rfl trivial ?_
    refine S_ghostF (t := 3) 3 ⟨false, none⟩ rfl rfl ⟨.skip, _, .inr ⟨_, _, _, rfl⟩⟩ ?_
    refine S_rd 0 rfl rfl rfl rfl rfl (fun y h => by cases h) (rmany_ok v s (by omega)) (fun _ => .int) (fun n r hx => ?_) (fun hx r => ?_)
    · have hb := rMany_bd hx
      refine ab 1000 rfl trivial ?_
      refine S_while (α := List NodeV × List UInt8 × Nat) (fun (ts, r, u) => [(0, .ptr 0 v 0), (3, .ms 1 u 0 ts.length 3 false), (5, .int .i64 n), (6, .int .i64 ts.length)]) (fun (ts, r, u) => [rdE v r, nb u ts])
        (fun (ts, r, u) => ts.length ≤ n ∧ ts.length + r.length ≤ s.length ∧ rNodes s = (match rNodeRep (n - ts.length) r with | none => none | some (ts', r') => some (ts ++ ts', r'))) (fun (ts, r, u) => n - ts.length) ([], r, 0)
        ⟨Nat.zero_le _, by simp; omega, ?_⟩ (.cons rfl (.cons rfl (.cons rfl (.cons rfl (.nil _))))) rfl ?_
      · simp only [rNodes, hx, List.length_nil, Nat.sub_zero, List.nil_append]
        cases rNodeRep n r <;> rfl
      rintro ⟨ts, r, u⟩ ⟨h1, h2, h3⟩
      refine ab 1000 rfl trivial ?_
      refine S_dec rfl (fun hlt => ?_) (fun hlt => ?_)
      · obtain ⟨m, hm⟩ : ∃ m, n - ts.length = m + 1 := ⟨n - ts.length - 1, by omega⟩
        rw [hm, rNodeRep] at h3
        refine ab 1000 rfl trivial ?_
        refine S_rd 0 rfl rfl rfl rfl rfl (fun y h => by cases h) (rtext_ok v r (by omega)) (fun _ => .str) (fun t r1 hx1 => ?_) (fun hx1 r' => ?_)
        · have hb1 := rText_bd hx1
          refine ab 1000 rfl trivial ?_
          refine S_rd 0 rfl rfl rfl rfl rfl (fun y h => by cases h) (rnumber_ok v r1 (by omega)) (fun _ => .int) (fun k r2 hx2 => ?_) (fun hx2 r' => ?_)
          · have hb2 := rNum_bd hx2
            refine ab 1000 rfl trivial ?_
            refine S_rd 0 rfl rfl rfl rfl rfl (fun y h => by cases h) (rtext_ok v r2 (by omega)) (fun _ => .str) (fun d r3 hx3 => ?_) (fun hx3 r' => ?_)
            · have hb3 := rText_bd hx3
              have hn : rNode r = some (⟨t, k, d⟩, r3) := by simp only [rNode, hx1, hx2, hx3]
              rw [hn] at h3
              refine ab 1000 rfl ⟨?_, ?_, ?_, rfl, rfl, allOne_mem (cs := [.str t, .int .i64 (k : Nat), .str d]) rfl, allOne_mem (cs := [.str t, .int .i64 (k : Nat), .str d]) rfl, rfl, trivial⟩ ?_
              · show ts.length + 1 ≤ 9223372036854775807; omega
              · show (ts.length + 1) * 40 ≤ 140737488355328; omega
              · show 0 + ts.length * 3 = ((nodes ts).flatMap AV.cells).length
                rw [nodes_cells]; omega
              refine S_round (ts ++ [⟨t, k, d⟩], r3, u + 1) (by show n - (ts ++ [(⟨t, k, d⟩ : NodeV)]).length < n - ts.length; simp; omega) ⟨by simp; omega, by simp; omega, ?_⟩ (.cons rfl (.cons ?_ (.cons rfl (.cons ?_ (.nil _))))) ?_
              · rw [h3, show n - (ts ++ [(⟨t, k, d⟩ : NodeV)]).length = m by simp; omega]
                cases hq : rNodeRep m r3 <;> simp [hq]
              · show AV.ms 1 (u + 1) 0 (ts.length + 1) 3 false = _
                simp
              · show AV.int .i64 (IntKind.i64.wrap ((ts.length : Int) + 1)) = _
                exact ai64 (by simp) (by simp; omega)
              · show [rdE v r3, (u + 1, some (Box.cells ((nodes ts).flatMap AV.cells ++ [.str t, .int .i64 (k : Nat), .str d]) ⟨false, none⟩))] = _
                simp [nodes, nb, nodeAV, AV.cells]
            · have hn : rNode r = none := by simp only [rNode, hx1, hx2, hx3]
              rw [hn] at h3
              show RdNodes v (rNodes s) (.panic brk) _
              rw [h3]
              exact ⟨rfl, r', u, ts, rfl⟩
          · have hn : rNode r = none := by simp only [rNode, hx1, hx2]
            rw [hn] at h3
            show RdNodes v (rNodes s) (.panic brk) _
            rw [h3]
            exact ⟨rfl, r', u, ts, rfl⟩
        · have hn : rNode r = none := by simp only [rNode, hx1]
          rw [hn] at h3
          show RdNodes v (rNodes s) (.panic brk) _
          rw [h3]
          exact ⟨rfl, r', u, ts, rfl⟩
      · refine ab 1000 rfl trivial ?_
        refine S_ret ⟨_, _, rfl, trivial, ?_⟩
        have h0 : n - ts.length = 0 := by omega
        rw [h0, rNodeRep] at h3
        rw [h3]
        exact ⟨u, by simp; rfl, by simp⟩
    · show RdNodes v (rNodes s) (.panic brk) _
      simp only [rNodes, hx]
      exact ⟨rfl, r, 0, [], rfl⟩
end Go.Proofs.YtjkeekbfgnmngaaGreatDoor
end
section
set_option linter.unusedVariables false
set_option linter.unusedSimpArgs false
set_option maxRecDepth 20000
namespace Go.Proofs.YtjkeekbfgnmngaaGreatDoor
open Go Go.Ab
def nodesOf (l : List NodeV) : List UInt8 × Nat := (if chkN l = 0 then packNs l else [], chkN l)
def readNd (s : List UInt8) : List NodeV × Nat :=
  match rNodes s with
  | none => ([], 1)
  | some (ts, _) => if nodesOf ts = (s, 0) then (ts, 0) else ([], 1)
theorem readNV_free (x : List NodeV × Nat) : Free true (.tup [.sl true false 3 (nodes x.1), .int .i64 x.2]) := .tup (by intro y hy; simp at hy; rcases hy with rfl | rfl; exact .sl (fun _ => rfl) (nodes_any _); exact .int)
theorem nb_any {st : Bool} (l : List NodeV) : ∀ x ∈ (nodes l).flatMap AV.cells, Free st x := by
  intro x hx
  obtain ⟨y, hy, hxy⟩ := List.mem_flatMap.1 hx
  obtain ⟨n, _, rfl⟩ := List.mem_map.1 hy
  simp [nodeAV, AV.cells] at hxy
  rcases hxy with rfl | rfl | rfl
  · exact .str
  · exact .int
  · exact .str
theorem nodes_sz (l : List NodeV) : ∀ x ∈ nodes l, x.cells.length = 3 := by
  intro x hx
  obtain ⟨n, _, rfl⟩ := List.mem_map.1 hx
  rfl
theorem rNode_bd {s r : List UInt8} {n : NodeV} (h : rNode s = some (n, r)) : n.name.length ≤ s.length ∧ n.dig.length ≤ s.length ∧ r.length + 1 ≤ s.length := by
  unfold rNode at h
  split at h
  · cases h
  · rename_i h1
    have b1 := rText_bd h1
    split at h
    · cases h
    · rename_i h2
      have b2 := rNum_bd h2
      split at h
      · cases h
      · rename_i h3
        have b3 := rText_bd h3
        cases h
        simp only; omega
theorem rNodeRep_bd : ∀ (n : Nat) (r : List UInt8) {ts : List NodeV} {r' : List UInt8}, rNodeRep n r = some (ts, r') → ts.length + r'.length ≤ r.length ∧ (∀ x ∈ ts, x.name.length ≤ r.length) ∧ (∀ x ∈ ts, x.dig.length ≤ r.length)
  | 0, r, ts, r', h => by cases h; exact ⟨by simp, by simp, by simp⟩
  | n + 1, r, ts, r', h => by
    rw [rNodeRep] at h
    split at h
    · cases h
    · rename_i t r1 h1
      have hb := rNode_bd h1
      split at h
      · cases h
      · rename_i ts1 r2 h2
        obtain ⟨i1, i2, i3⟩ := rNodeRep_bd n r1 h2
        cases h
        refine ⟨by simp only [List.length_cons]; omega, fun x hx => ?_, fun x hx => ?_⟩
        · rcases List.mem_cons.1 hx with rfl | hx
          · exact hb.1
          · have := i2 x hx; omega
        · rcases List.mem_cons.1 hx with rfl | hx
          · exact hb.2.1
          · have := i3 x hx; omega
theorem rNodes_fit {s : List UInt8} {ts : List NodeV} {r : List UInt8} (h : rNodes s = some (ts, r)) (hs : s.length ≤ 9223372036854775807) : NodesOk ts := by
  unfold rNodes at h
  split at h
  · cases h
  · rename_i n r1 h1
    have := rMany_bd h1
    obtain ⟨i1, i2, i3⟩ := rNodeRep_bd n r1 h
    exact ⟨by omega, fun x hx => by have := i2 x hx; omega, fun x hx => by have := i3 x hx; omega⟩
theorem rNodes_bd {s : List UInt8} {ts : List NodeV} {r : List UInt8} (h : rNodes s = some (ts, r)) : ts.length + r.length + 1 ≤ s.length := by
  unfold rNodes at h
  split at h
  · cases h
  · rename_i n r1 h1
    have := rMany_bd h1
    have := (rNodeRep_bd n r1 h).1
    omega
theorem nclosure_ret (x e : AV) (a b : Nat) (xa xb' : Box) (R : Md → Heap → Prop) (h : R .ret [xb x, xb e, (a, some xa), (b, some xb'), zb]) :
    DCall cx (.func (.func 157) [] [.ptr 0 0 0, .ptr 1 0 0]) .ret [xb x, xb e, (a, some xa), (b, some xb')] R :=
  dcall_recover (fun a w => Tryz.call157 a w) Tryz.func157 rfl Tryz.ntmps157 rfl rfl rfl rfl rfl rfl rfl fun B => by
    refine ab 1000 rfl ⟨lble rfl, rfl, trivial⟩ ?_
    refine S_cond rfl (fun h => by cases h) (fun _ => ?_)
    refine ab 1000 rfl trivial ?_
    exact S_nil ⟨_, _, rfl, trivial, _, rfl, h⟩
theorem nclosure_pan (x e : AV) (a b : Nat) (xa xb' : Box) (R : Md → Heap → Prop) (h : R (.pan brk true) [xb .nils, xb (.int .i64 1), (a, some xa), (b, some xb'), zb]) :
    DCall cx (.func (.func 157) [] [.ptr 0 0 0, .ptr 1 0 0]) (.pan brk false) [xb x, xb e, (a, some xa), (b, some xb')] R :=
  dcall_recover (fun a w => Tryz.call157 a w) Tryz.func157 rfl Tryz.ntmps157 rfl rfl rfl rfl rfl rfl rfl fun B => by
    refine ab 1000 rfl ⟨lble rfl, rfl, trivial⟩ ?_
    refine S_cond rfl (fun _ => ?_) (fun h => by cases h)
    refine ab 1000 rfl ⟨lble rfl, rfl, lble rfl, rfl, trivial⟩ ?_
    exact S_nil ⟨_, _, rfl, trivial, _, rfl, h⟩
theorem nread_ok (s : List UInt8) (hs : s.length ≤ 1099511627776) :
    Calc cx 125 [.str s, .func (.func 126) [] [], .func (.func 83) [] []] (.tup [.sl true false 3 (nodes (readNd s).1), .int .i64 (readNd s).2]) :=
  calc_of (readNV_free _) (callOk_introD (fun a w => Tryz.call125 a w) Tryz.func125 rfl Tryz.ntmps125 rfl fun B hB => by
    refine ab 1000 rfl trivial ?_
    refine S_defer rfl rfl rfl rfl hB ?_
    refine ab 1000 rfl trivial ?_
    refine S_callf [2] (rnodes_ok 0 s (by omega)) rfl (.cons (.ptr rfl) (.nil _)) (Part.mk' (es := [rdE 0 s]) rfl rfl (.cons (.live (.cells (.cons (.free .str) (.nil _)))) (.nil _))) rfl rfl ?_ ?_
    · intro y σ1 h
      cases hx : rNodes s with
      | none => rw [hx] at h; cases h.1
      | some p =>
        obtain ⟨ts, r⟩ := p
        have hb := rNodes_bd hx
        rw [hx] at h
        obtain ⟨u, h1, rfl⟩ := h
        cases h1
        refine ⟨.ms 3 u 0 ts.length 3 false, [rdE 0 r, nb u ts], .cons (.live (.cells (.cons (.free .str) (.nil _)))) (.cons (.live (.cells (Rns.free (nb_any ts)))) (.nil _)), .ms rfl, ?_⟩
        refine ab 1000 rfl trivial ?_
        have htl := nodes_len ts
        have hcl := nodes_cells ts
        have hT : Calc cx 83 [.sl false false 3 (nodes ts)] (.tup [.str (nodesOf ts).1, .int .i64 ((nodesOf ts).2 : Nat)]) := Nodes_ok (st := false) (fl := false) ts (rNodes_fit hx (by omega))
        refine S_pure rfl rfl rfl hT (.cons ?_ (.nil _)) ?_
        · exact (.ms rfl (by rw [hcl]; omega) (by rw [List.drop_zero, show ts.length * 3 = ((nodes ts).flatMap AV.cells).length by rw [hcl]; omega, List.take_length]) (nodes_sz ts) htl (nodes_any ts))
        refine ab 1000 rfl trivial ?_
        generalize hto : nodesOf ts = to_
        obtain ⟨pt, pe⟩ := to_
        have good : ¬ (pt = s ∧ pe = 0) → readNd s = ([], 1) := by
          intro h
          simp only [readNd, hx, hto, Prod.mk.injEq]
          rw [if_neg h]
        refine S_guard rfl rfl rfl rfl (fun hg => ?_) (fun hg => ?_)
        · have hpe : pe ≠ 0 := by
            have hh : ((pe : Int) != 0) = true := hg
            intro e; subst e; exact absurd hh (by decide)
          refine ab 1000 rfl trivial ?_
          refine S_cond rfl (fun _ => ?_) (fun h => by cases h)
          refine ab 1000 rfl trivial ?_
          refine S_panic rfl rfl rfl ⟨_, rfl, nclosure_pan _ _ _ _ _ _ _ ⟨_, _, rfl, ⟨rfl, rfl, trivial⟩, _, rfl, ?_⟩⟩
          rw [good (fun h => hpe h.2)]
          exact Fzs.tup (.cons .nils (.cons (.refl .int) .nil))
        · have hpe : pe = 0 := by
            have hh : ((pe : Int) != 0) = false := hg
            simpa using hh
          subst hpe
          refine ab 1000 rfl trivial ?_
          refine S_cond rfl (fun h => ?_) (fun h => ?_)
          · have hne : ¬ pt = s := by simpa using h
            refine ab 1000 rfl trivial ?_
            refine S_panic rfl rfl rfl ⟨_, rfl, nclosure_pan _ _ _ _ _ _ _ ⟨_, _, rfl, ⟨rfl, rfl, trivial⟩, _, rfl, ?_⟩⟩
            rw [good (fun h => hne h.1)]
            exact Fzs.tup (.cons .nils (.cons (.refl .int) .nil))
          · have he : pt = s := by simpa using h
            subst he
            refine ab 1000 rfl ⟨lble rfl, rfl, lble rfl, rfl, trivial⟩ ?_
            refine S_ret ⟨_, rfl, nclosure_ret _ _ _ _ _ _ _ ⟨_, _, rfl, ⟨rfl, rfl, trivial⟩, _, rfl, ?_⟩⟩
            rw [show readNd pt = (ts, 0) by simp only [readNd, hx, hto, if_true]]
            exact Fzs.tup (.cons (.ms rfl (by rw [hcl]; omega) (by rw [List.drop_zero, show ts.length * 3 = ((nodes ts).flatMap AV.cells).length by rw [hcl]; omega, List.take_length]) (nodes_sz ts) htl (nodes_any ts)) (.cons (.refl .int) .nil))
    · intro y σ1 h
      cases hx : rNodes s with
      | some p => obtain ⟨ts, r⟩ := p; rw [hx] at h; obtain ⟨u, h1, _⟩ := h; cases h1
      | none =>
        rw [hx] at h
        obtain ⟨h1, r, u, ts, rfl⟩ := h
        cases h1
        refine ⟨brk, [rdE 0 r, nb u ts], .cons (.live (.cells (.cons (.free .str) (.nil _)))) (.cons (.live (.cells (Rns.free (nb_any ts)))) (.nil _)), .iface (.agg rfl (fun i h => absurd h (by simp))), ?_⟩
        refine ⟨_, rfl, nclosure_pan _ _ _ _ _ _ _ ?_⟩
        refine ⟨_, _, rfl, ⟨rfl, rfl, trivial⟩, _, rfl, ?_⟩
        rw [show readNd s = ([], 1) by simp only [readNd, hx]]
        exact Fzs.tup (.cons .nils (.cons (.refl .int) .nil)))
theorem ReadNodes_ok (s : List UInt8) (hs : s.length ≤ 1099511627776) : Calc cx 97 [.str s] (.tup [.sl true false 3 (nodes (readNd s).1), .int .i64 (readNd s).2]) :=
  pure_intro (fun a w => Tryz.call97 a w) Tryz.func97 rfl Tryz.ntmps97 rfl (readNV_free _) fun B => by
    refine ab 1000 rfl trivial ?_
    refine S_pure rfl rfl rfl (nread_ok s hs) (.cons (.refl .str) (.cons (.refl (.func (fun x h => by cases h) (fun x h => by cases h))) (.cons (.refl (.func (fun x h => by cases h) (fun x h => by cases h))) (.nil _)))) ?_
    refine ab 1000 rfl trivial ?_
    exact S_retc (readNV_free _) rfl trivial rfl
end Go.Proofs.YtjkeekbfgnmngaaGreatDoor
end
