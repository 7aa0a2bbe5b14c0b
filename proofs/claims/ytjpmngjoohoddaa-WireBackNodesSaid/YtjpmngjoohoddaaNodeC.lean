/-
  Nodes of a tree: which lists of them may be packed, and as what text: the reference.
-/
import Derived.Test.YtjpmngjoohoddaaNodeA
import Derived.Test.YtjpmngjoohoddaaWireB
import Derived.Test.YtjpmngjoohoddaaWireT
import Derived.Test.YtjpmngjoohoddaaWireD
set_option linter.unusedVariables false
set_option linter.unusedSimpArgs false
set_option maxRecDepth 20000
namespace Go.Proofs.Ytjpmngjoohoddaa
open Go Go.Ab

def nodeE (n : NodeV) : Nat := if (isName n.name && isDig n.dig) = true then (if n.kind < 1 ∨ 3 < n.kind then 7 else 0) else 1
def chkF (e : Nat) (n : NodeV) : Nat := if e = 0 then nodeE n else e
def chkLoop (l : List NodeV) : Nat := l.foldl chkF 0
def chkN (l : List NodeV) : Nat := if 60 < l.length then 2 else if chkLoop l = 0 then (if riseB (l.map NodeV.name) = true then 0 else 6) else chkLoop l

theorem chk_stay (l : List NodeV) {e : Nat} (h : e ≠ 0) : l.foldl chkF e = e := by
  induction l with
  | nil => rfl
  | cons n r ih => rw [List.foldl_cons, chkF, if_neg h, ih]

theorem chk_step {l : List NodeV} {i : Nat} (h : i < l.length) : (l.take (i + 1)).foldl chkF 0 = chkF ((l.take i).foldl chkF 0) l[i] := by
  rw [List.take_succ_eq_append_getElem h, List.foldl_append]; rfl

theorem chk_at {l : List NodeV} {i : Nat} (h : i < l.length) (h0 : (l.take i).foldl chkF 0 = 0) (hn : nodeE l[i] ≠ 0) : chkLoop l = nodeE l[i] := by
  have e1 : l = l.take (i + 1) ++ l.drop (i + 1) := (List.take_append_drop _ _).symm
  have e2 : (l.take (i + 1)).foldl chkF 0 = nodeE l[i] := by rw [chk_step h, h0]; rfl
  rw [chkLoop]
  conv => lhs; rw [e1]
  rw [List.foldl_append, e2, chk_stay _ hn]

structure NodesOk (l : List NodeV) : Prop where
  len : l.length ≤ 9223372036854775807
  name : ∀ n ∈ l, n.name.length ≤ 9223372036854775807
  dig : ∀ n ∈ l, n.dig.length ≤ 9223372036854775807

theorem CheckNodes_ok {st fl : Bool} (l : List NodeV) (hl : NodesOk l) : Calc cx 30 [.sl st fl 3 (nodes l)] (.int .i64 (chkN l : Nat)) :=
  pure_intro (fun a w => Try.call30 a w) Try.func30 rfl Try.ntmps30 rfl .int fun B => by
    have hnl := nodes_len l
    refine ab 1000 rfl trivial ?_
    refine S_dec rfl (fun h => ?_) (fun h => ?_)
    · have h : 60 < l.length := by have : ((nodes l).length : Int) > 60 := h; omega
      refine ab 1000 rfl trivial ?_
      refine S_retc .int rfl trivial ?_
      rw [chkN, if_pos h]; rfl
    have h60 : ¬ 60 < l.length := by have : ¬ ((nodes l).length : Int) > 60 := h; omega
    refine ab 1000 rfl trivial ?_
    refine S_ghostF (t := 3) 1 ⟨false, none⟩ rfl rfl ⟨_, _, .inl rfl⟩ ?_
    refine S_while (α := Nat × Nat) (fun (i, u) => [(0, .sl st fl 3 (nodes l)), (3, .ms 0 u 0 i 1 false), (4, .int .i64 (i : Nat))]) (fun (i, u) => [(u, some (.cells (texts ((l.take i).map NodeV.name)) ⟨false, none⟩))])
      (fun (i, u) => i ≤ l.length ∧ (l.take i).foldl chkF 0 = 0) (fun (i, u) => l.length - i) (0, 0)
      ⟨Nat.zero_le _, rfl⟩ (.cons rfl (.cons rfl (.cons rfl (.nil _)))) rfl ?_
    rintro ⟨i, u⟩ ⟨hi, hN⟩
    have hi : i ≤ l.length := hi
    have hN : (l.take i).foldl chkF 0 = 0 := hN
    refine ab 1000 rfl trivial ?_
    refine S_dec rfl (fun hil => ?_) (fun hil => ?_)
    · have hil : i < l.length := by have : ((i : Nat) : Int) < ((nodes l).length : Nat) := hil; omega
      obtain ⟨n, hn⟩ : ∃ n, n = l[i] := ⟨_, rfl⟩
      have hget : (nodes l)[((i : Nat) : Int).toNat]? = some (nodeAV n) := by rw [Int.toNat_natCast, hn]; exact nodes_get hil
      have hm : n ∈ l := by rw [hn]; exact List.getElem_mem hil
      have bad : nodeE n ≠ 0 → chkN l = nodeE n := fun h => by
        have h1 := chk_at hil hN (by rw [← hn]; exact h)
        rw [← hn] at h1
        rw [chkN, if_neg h60, if_neg (by omega), h1]
      refine ab 1000 rfl trivial ?_
      refine S_index (nodeAV n) rfl rfl rfl ⟨rfl, by omega, hget, trivial⟩ ?_
      refine ab 1000 rfl trivial ?_
      refine S_pure rfl rfl rfl (IsName_ok n.name (hl.name n hm)) (.cons (.refl .str) (.nil _)) ?_
      refine ab 1000 rfl trivial ?_
      refine S_split 8 (fun fr σ => Weak fr [(0, .sl st fl 3 (nodes l)), (3, .ms 0 u 0 i 1 false), (4, .int .i64 (i : Nat)), (29, .bool !(isName n.name && isDig n.dig))] ∧ σ = [(u, some (.cells (texts ((l.take i).map NodeV.name)) ⟨false, none⟩))]) ?_ ?_
      · refine S_guard rfl rfl rfl rfl (fun h => ?_) (fun h => ?_)
        · have h : isName n.name = false := by simpa using (show (!isName n.name) = true from h)
          refine ab 1000 rfl trivial ?_
          exact S_inv ⟨.cons rfl (.cons rfl (.cons rfl (.cons (by rw [h]; rfl) (.nil _)))), rfl⟩
        · have h : isName n.name = true := by simpa using (show (!isName n.name) = false from h)
          refine ab 1000 rfl trivial ?_
          refine S_index (nodeAV n) rfl rfl rfl ⟨rfl, by omega, hget, trivial⟩ ?_
          refine ab 1000 rfl trivial ?_
          refine S_pure rfl rfl rfl (IsDigest_ok n.dig (hl.dig n hm)) (.cons (.refl .str) (.nil _)) ?_
          refine ab 1000 rfl trivial ?_
          exact S_inv ⟨.cons rfl (.cons rfl (.cons rfl (.cons (by rw [h]; rfl) (.nil _)))), rfl⟩
      rintro fr σ ⟨hw, rfl⟩
      refine S_opsW hw ?_
      refine ab 1000 rfl trivial ?_
      refine S_cond rfl (fun h => ?_) (fun h => ?_)
      · have h : (isName n.name && isDig n.dig) = false := by
          have h2 : (!(isName n.name && isDig n.dig)) = true := h
          revert h2; cases (isName n.name && isDig n.dig) <;> simp
        have he : nodeE n = 1 := by rw [nodeE, if_neg (by rw [h]; decide)]
        refine ab 1000 rfl trivial ?_
        refine S_retc .int rfl trivial ?_
        rw [bad (by omega), he]; rfl
      have h : (isName n.name && isDig n.dig) = true := by
        have h2 : (!(isName n.name && isDig n.dig)) = false := h
        revert h2; cases (isName n.name && isDig n.dig) <;> simp
      refine ab 1000 rfl trivial ?_
      refine S_index (nodeAV n) rfl rfl rfl ⟨rfl, by omega, hget, trivial⟩ ?_
      refine ab 1000 rfl trivial ?_
      refine S_split 7 (fun fr σ => Weak fr [(0, .sl st fl 3 (nodes l)), (3, .ms 0 u 0 i 1 false), (4, .int .i64 (i : Nat)), (43, .bool (decide (n.kind < 1 ∨ 3 < n.kind)))] ∧ σ = [(u, some (.cells (texts ((l.take i).map NodeV.name)) ⟨false, none⟩))]) ?_ ?_
      · refine S_guard rfl rfl rfl rfl (fun h => ?_) (fun h => ?_)
        · have h : n.kind < 1 := of_decide_eq_true h
          refine ab 1000 rfl trivial ?_
          exact S_inv ⟨.cons rfl (.cons rfl (.cons rfl (.cons (by show AV.bool true = _; rw [decide_eq_true (.inl h)]) (.nil _)))), rfl⟩
        · have h : ¬ n.kind < 1 := of_decide_eq_false h
          refine ab 1000 rfl trivial ?_
          refine S_index (nodeAV n) rfl rfl rfl ⟨rfl, by omega, hget, trivial⟩ ?_
          refine ab 1000 rfl trivial ?_
          exact S_inv ⟨.cons rfl (.cons rfl (.cons rfl (.cons (by show AV.bool (decide (3 < n.kind)) = _; exact congrArg AV.bool (decide_eq_decide.2 ⟨fun h => .inr h, fun h2 => h2.resolve_left h⟩)) (.nil _)))), rfl⟩
      rintro fr σ ⟨hw, rfl⟩
      refine S_opsW hw ?_
      refine ab 1000 rfl trivial ?_
      refine S_dec rfl (fun hk => ?_) (fun hk => ?_)
      · have he : nodeE n = 7 := by rw [nodeE, if_pos h, if_pos hk]
        refine ab 1000 rfl trivial ?_
        refine S_retc .int rfl trivial ?_
        rw [bad (by omega), he]; rfl
      have he : nodeE n = 0 := by rw [nodeE, if_pos h, if_neg hk]
      refine ab 1000 rfl trivial ?_
      refine S_index (nodeAV n) rfl rfl rfl ⟨rfl, by omega, hget, trivial⟩ ?_
      have htk : (texts ((l.take i).map NodeV.name)).length = i := by simp [texts]; omega
      refine ab 1000 rfl ⟨?_, ?_, ?_, rfl, rfl, allOne_mem (cs := [.str n.name]) rfl, allOne_mem (cs := [.str n.name]) rfl, rfl, trivial⟩ ?_
      · show i + 1 ≤ 9223372036854775807; omega
      · show (i + 1) * 16 ≤ 140737488355328; omega
      · show 0 + i * 1 = (texts ((l.take i).map NodeV.name)).length; omega
      refine S_round (i + 1, u + 1) (by show l.length - (i + 1) < l.length - i; omega) ⟨hil, by rw [chk_step hil, hN, ← hn]; exact he⟩ (.cons rfl (.cons rfl (.cons (ai64 rfl (by omega)) (.nil _)))) ?_
      show [(u + 1, some (Box.cells (texts ((l.take i).map NodeV.name) ++ [.str n.name]) ⟨false, none⟩))] = [(u + 1, some (Box.cells (texts ((l.take (i + 1)).map NodeV.name)) ⟨false, none⟩))]
      rw [List.take_succ_eq_append_getElem hil, ← hn]
      simp [texts]
    · have hil : i = l.length := by have : ¬ ((i : Nat) : Int) < ((nodes l).length : Nat) := hil; omega
      have hN : chkLoop l = 0 := by rw [hil, List.take_length] at hN; exact hN
      have htl : l.take i = l := by rw [hil, List.take_length]
      rw [htl, hil]
      refine ab 1000 rfl trivial ?_
      refine S_pure rfl rfl rfl (Rise_ok (st := false) (fl := false) (l.map NodeV.name) (by simpa using hl.len)) (.cons (.ms1 rfl (texts_one _) (by simp [texts]) (texts_any _)) (.nil _)) ?_
      refine ab 1000 rfl trivial ?_
      refine S_cond rfl (fun h => ?_) (fun h => ?_)
      · have h : riseB (l.map NodeV.name) = false := by simpa using (show (!riseB (l.map NodeV.name)) = true from h)
        refine ab 1000 rfl trivial ?_
        refine S_retc .int rfl trivial ?_
        rw [chkN, if_neg h60, if_pos hN, if_neg (by rw [h]; decide)]; rfl
      · have h : riseB (l.map NodeV.name) = true := by simpa using (show (!riseB (l.map NodeV.name)) = false from h)
        refine ab 1000 rfl trivial ?_
        refine S_retc .int rfl trivial ?_
        rw [chkN, if_neg h60, if_pos hN, if_pos h]; rfl

def packNode (n : NodeV) : List UInt8 := packT n.name ++ packN 9 n.kind.toNat ++ packT n.dig
def packNs (l : List NodeV) : List UInt8 := packN 9 l.length ++ l.flatMap packNode

/-- Nodes that may be packed. -/
structure NodesFit (l : List NodeV) : Prop where
  len : l.length ≤ 60
  name : ∀ n ∈ l, n.name.length ≤ 20
  kind : ∀ n ∈ l, 1 ≤ n.kind ∧ n.kind ≤ 3
  dig : ∀ n ∈ l, n.dig.length = 64

theorem isName_len {s : List UInt8} (h : isName s = true) : s.length ≤ 20 := by
  unfold isName at h
  simp only [Bool.and_eq_true, decide_eq_true_eq] at h
  exact h.2.2.1
theorem isDig_len {s : List UInt8} (h : isDig s = true) : s.length = 64 := by
  unfold isDig at h
  simp only [Bool.and_eq_true, beq_iff_eq] at h
  exact h.2

theorem chk_all {l : List NodeV} (h : chkLoop l = 0) : ∀ n ∈ l, nodeE n = 0 := by
  have key : ∀ (l : List NodeV) (e : Nat), l.foldl chkF e = 0 → e = 0 ∧ ∀ n ∈ l, nodeE n = 0 := by
    intro l
    induction l with
    | nil => intro e h; exact ⟨h, fun n hn => by cases hn⟩
    | cons a r ih =>
      intro e h
      obtain ⟨h1, h2⟩ := ih _ h
      by_cases he : e = 0
      · refine ⟨he, fun n hn => ?_⟩
        rw [chkF, if_pos he] at h1
        rcases List.mem_cons.1 hn with rfl | hn
        · exact h1
        · exact h2 n hn
      · rw [chkF, if_neg he] at h1; exact absurd h1 he
  exact (key l 0 h).2

theorem chk_fit {l : List NodeV} (h : chkN l = 0) : NodesFit l := by
  unfold chkN at h
  split at h
  · cases h
  · rename_i h60
    split at h
    · rename_i h0
      have ha := chk_all h0
      have hn : ∀ n ∈ l, (isName n.name && isDig n.dig) = true ∧ ¬ (n.kind < 1 ∨ 3 < n.kind) := fun n hn => by
        have := ha n hn
        unfold nodeE at this
        split at this
        · rename_i h1
          split at this
          · cases this
          · exact ⟨h1, by assumption⟩
        · cases this
      refine ⟨by omega, fun n hm => isName_len ?_, fun n hm => ?_, fun n hm => isDig_len ?_⟩
      · have := (hn n hm).1; simp only [Bool.and_eq_true] at this; exact this.1
      · have := (hn n hm).2; omega
      · have := (hn n hm).1; simp only [Bool.and_eq_true] at this; exact this.2
    · rename_i h0; exact absurd h h0

theorem packT_len (s : List UInt8) : (packT s).length ≤ s.length + 10 := by
  have := packN_len 9 s.length
  simp only [packT, List.length_append]; omega
theorem packNode_len {n : NodeV} (h1 : n.name.length ≤ 20) (h2 : n.dig.length = 64) : (packNode n).length ≤ 114 := by
  have a := packT_len n.name
  have b := packT_len n.dig
  have c := packN_len 9 n.kind.toNat
  simp only [packNode, List.length_append]; omega
theorem packNs_len {l : List NodeV} (h1 : ∀ n ∈ l, n.name.length ≤ 20) (h2 : ∀ n ∈ l, n.dig.length = 64) : (l.flatMap packNode).length ≤ l.length * 114 := by
  induction l with
  | nil => simp
  | cons a r ih =>
    have := ih (fun n hn => h1 n (List.mem_cons_of_mem _ hn)) (fun n hn => h2 n (List.mem_cons_of_mem _ hn))
    have := packNode_len (h1 a (List.mem_cons_self ..)) (h2 a (List.mem_cons_self ..))
    rw [List.flatMap_cons, List.length_append, List.length_cons]; omega

theorem PackNodes_ok {st fl : Bool} (l : List NodeV) (hl : NodesFit l) : Calc cx 31 [.sl st fl 3 (nodes l)] (.str (packNs l)) :=
  pure_intro (fun a w => Try.call31 a w) Try.func31 rfl Try.ntmps31 rfl .str fun B => by
    have hnl := nodes_len l
    have h60 := hl.len
    refine ab 1000 rfl trivial ?_
    refine S_pure rfl rfl rfl (PackNumber_ok (nodes l).length (by omega)) (.cons (.refl .int) (.nil _)) ?_
    rw [hnl]
    refine ab 1000 rfl trivial ?_
    refine S_while (α := Nat) (fun i => [(0, .sl st fl 3 (nodes l)), (3, .str (packN 9 l.length ++ (l.take i).flatMap packNode)), (4, .int .i64 (i : Nat))]) (fun _ => []) (fun i => i ≤ l.length) (fun i => l.length - i) 0
      (Nat.zero_le _) (.cons rfl (.cons (by simp; rfl) (.cons rfl (.nil _)))) rfl ?_
    intro i hi
    have hpl := packN_len 9 l.length
    have hfl := packNs_len (l := l.take i) (fun n h => hl.name n (List.mem_of_mem_take h)) (fun n h => hl.dig n (List.mem_of_mem_take h))
    have htk : (l.take i).length = i := by simp; omega
    refine ab 1000 rfl trivial ?_
    refine S_dec rfl (fun hil => ?_) (fun hil => ?_)
    · have hil : i < l.length := by have : ((i : Nat) : Int) < ((nodes l).length : Nat) := hil; omega
      obtain ⟨n, hn⟩ : ∃ n, n = l[i] := ⟨_, rfl⟩
      have hget : (nodes l)[((i : Nat) : Int).toNat]? = some (nodeAV n) := by rw [Int.toNat_natCast, hn]; exact nodes_get hil
      have hm : n ∈ l := by rw [hn]; exact List.getElem_mem hil
      obtain ⟨k, hk⟩ := Int.eq_ofNat_of_zero_le (show 0 ≤ n.kind by have := hl.kind n hm; omega)
      have hk3 : k ≤ 3 := by have := hl.kind n hm; omega
      have hnn := hl.name n hm
      have hnd := hl.dig n hm
      have l1 := packT_len n.name
      have l2 := packT_len n.dig
      have l3 := packN_len 9 k
      refine ab 1000 rfl trivial ?_
      refine S_draw 22 [] [nodeAV n, .str (packT n.name), nodeAV n, .str (packN 9 k), nodeAV n, .str (packT n.dig)] rfl rfl rfl rfl ?_ ?_
      · have lT : (packT n.name ++ packN 9 k).length ≤ 60 := by simp only [List.length_append]; omega
        have lA : ((packT n.name ++ packN 9 k) ++ packT n.dig).length ≤ 140 := by simp only [List.length_append] at *; omega
        refine ⟨rfl, rfl, rfl, rfl, by omega, hget, rfl, rfl, ⟨_, PackText_ok n.name (by omega), .cons (.refl .str) (.nil _)⟩, rfl, rfl, rfl, by omega, hget, rfl, rfl, ⟨_, PackNumber_ok k (by omega), .cons (by rw [← hk]; exact .refl .int) (.nil _)⟩, rfl, ?_, rfl, rfl, rfl, by omega, hget, rfl, rfl, ⟨_, PackText_ok n.dig (by omega), .cons (.refl .str) (.nil _)⟩, rfl, ?_, rfl, ?_, trivial⟩
        · simp only [List.length_append] at *; omega
        · simp only [List.length_append] at *; omega
        · simp only [List.length_append] at *; omega
      refine ab 1000 rfl trivial ?_
      refine S_round (i + 1) (by show l.length - (i + 1) < l.length - i; omega) hil (.cons rfl (.cons ?_ (.cons (ai64 rfl (by omega)) (.nil _)))) rfl
      show AV.str ((packN 9 l.length ++ (l.take i).flatMap packNode) ++ ((packT n.name ++ packN 9 k) ++ packT n.dig)) = _
      have hp : packNode n = (packT n.name ++ packN 9 k) ++ packT n.dig := by rw [packNode, hk, Int.toNat_natCast]
      rw [List.take_succ_eq_append_getElem hil, ← hn, List.flatMap_append, List.flatMap_cons, List.flatMap_nil, List.append_nil, List.append_assoc, hp]
    · have hil : i = l.length := by have : ¬ ((i : Nat) : Int) < ((nodes l).length : Nat) := hil; omega
      refine ab 1000 rfl trivial ?_
      refine S_retc .str rfl trivial ?_
      rw [hil, List.take_length]; rfl

end Go.Proofs.Ytjpmngjoohoddaa
