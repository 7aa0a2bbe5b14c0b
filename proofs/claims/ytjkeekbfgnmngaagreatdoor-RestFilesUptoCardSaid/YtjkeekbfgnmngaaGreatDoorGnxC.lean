/-
  Texts of our own, in one file.
-/
import Derived.Test.YtjkeekbfgnmngaaGreatDoorGnxB
section
set_option linter.unusedVariables false
set_option linter.unusedSimpArgs false
set_option maxRecDepth 20000
namespace Go.Proofs.YtjkeekbfgnmngaaGreatDoor
open Go Go.Ab
structure NodeV where
  name : List UInt8
  kind : Int
  dig : List UInt8
def nodeAV (n : NodeV) : AV := .agg [.str n.name, .int .i64 n.kind, .str n.dig]
def nodes (l : List NodeV) : List AV := l.map nodeAV
theorem nodeAV_free {st : Bool} (n : NodeV) : Free st (nodeAV n) := .agg (by intro x hx; simp at hx; rcases hx with rfl | rfl | rfl; exact .str; exact .int; exact .str)
theorem nodes_any {st : Bool} (l : List NodeV) : ∀ x ∈ nodes l, Free st x := by
  intro x hx
  obtain ⟨y, _, rfl⟩ := List.mem_map.1 hx
  exact nodeAV_free y
theorem nodes_len (l : List NodeV) : (nodes l).length = l.length := by simp [nodes]
theorem nodes_get {l : List NodeV} {i : Nat} (h : i < l.length) : (nodes l)[i]? = some (nodeAV l[i]) := by simp [nodes, h]
def leS (a b : List UInt8) : Bool := Op.bytesLess a b || a == b
def riseP (l : List (List UInt8)) (j : Nat) : Bool := j == 0 || !leS (l.getD j []) (l.getD (j - 1) [])
def riseB (l : List (List UInt8)) : Bool := (List.range l.length).all (riseP l)
theorem rise_no {l : List (List UInt8)} {i : Nat} (h : i < l.length) (h1 : 1 ≤ i) (hp : leS (l.getD i []) (l.getD (i - 1) []) = true) : riseB l = false := by
  rw [riseB, List.all_eq_false]
  refine ⟨i, List.mem_range.2 h, ?_⟩
  rw [riseP, hp]
  simp; omega
theorem rise_step {l : List (List UInt8)} {i : Nat} (h : (List.range i).all (riseP l) = true) (hp : leS (l.getD i []) (l.getD (i - 1) []) = false) : (List.range (i + 1)).all (riseP l) = true := by
  rw [List.range_succ, List.all_append, h]
  simp only [List.all_cons, List.all_nil, riseP, hp, Bool.not_false, Bool.or_true, Bool.and_true]
theorem Rise_ok {st fl : Bool} (l : List (List UInt8)) (hl : l.length ≤ 9223372036854775807) : Calc cx 11 [.sl st fl 1 (texts l)] (.bool (riseB l)) :=
  pure_intro (fun a w => Tryz.call11 a w) Tryz.func11 rfl Tryz.ntmps11 rfl .bool fun B => by
    refine ab 1000 rfl trivial ?_
    have htl : (texts l).length = l.length := by simp [texts]
    refine S_while (α := Nat) (fun i => [(0, .sl st fl 1 (texts l)), (3, .int .i64 (i : Nat))]) (fun _ => []) (fun i => 1 ≤ i ∧ (i = 1 ∨ i ≤ l.length) ∧ (List.range i).all (riseP l) = true) (fun i => l.length + 1 - i) 1
      ⟨Nat.le_refl _, .inl rfl, rfl⟩ (.cons rfl (.cons rfl (.nil _))) rfl ?_
    rintro i ⟨h1, h2, hN⟩
    refine ab 1000 rfl trivial ?_
    refine S_dec rfl (fun hil => ?_) (fun hil => ?_)
    · have hil : i < l.length := by have : (i : Int) < ((texts l).length : Nat) := hil; omega
      have hw : IntKind.i64.wrap ((i : Int) - 1) = ((i - 1 : Nat) : Int) := w64 (by omega) (by omega)
      have g1 : l[i] = l.getD i [] := by simp [List.getD, hil]
      have g2 : l[i - 1] = l.getD (i - 1) [] := by simp [List.getD, show i - 1 < l.length by omega]
      refine ab 1000 rfl trivial ?_
      refine S_draw 10 [] [.str l[i], .str l[i - 1]] rfl rfl rfl rfl ⟨rfl, rfl, rfl, by omega, by rw [Int.toNat_natCast]; simp [texts, List.getElem?_eq_getElem hil], rfl, rfl, rfl, rfl, rfl, by rw [hw]; omega, by rw [hw, Int.toNat_natCast]; simp [texts, List.getElem?_eq_getElem (show i - 1 < l.length by omega)], rfl, rfl, trivial⟩ ?_
      refine ab 1000 rfl trivial ?_
      refine S_cond rfl (fun h => ?_) (fun h => ?_)
      · have h : leS l[i] l[i - 1] = true := h
        rw [g1, g2] at h
        refine ab 1000 rfl trivial ?_
        refine S_retc .bool rfl trivial ?_
        rw [rise_no hil h1 h]; rfl
      · have h : leS l[i] l[i - 1] = false := h
        rw [g1, g2] at h
        refine ab 1000 rfl trivial ?_
        exact S_round (i + 1) (by show l.length + 1 - (i + 1) < l.length + 1 - i; omega) ⟨by omega, .inr (by omega), rise_step hN h⟩ (.cons rfl (.cons (ai64 rfl (by omega)) (.nil _))) rfl
    · have hil : ¬ i < l.length := by have : ¬ (i : Int) < ((texts l).length : Nat) := hil; omega
      refine ab 1000 rfl trivial ?_
      refine S_retc .bool rfl trivial ?_
      have : riseB l = true := by
        rcases Nat.eq_zero_or_pos l.length with h | h
        · rw [riseB, h]; rfl
        · rw [riseB, show l.length = i by omega]; exact hN
      rw [this]; rfl
end Go.Proofs.YtjkeekbfgnmngaaGreatDoor
end
section
set_option linter.unusedVariables false
set_option linter.unusedSimpArgs false
set_option maxRecDepth 20000
namespace Go.Proofs.YtjkeekbfgnmngaaGreatDoor
open Go Go.Ab
def splitB (c : UInt8) : List UInt8 → List (List UInt8)
  | [] => [[]]
  | x :: r => if x = c then [] :: splitB c r else match splitB c r with
    | [] => [[x]]
    | p :: ps => (x :: p) :: ps
theorem splitB_ne (c : UInt8) (l : List UInt8) : splitB c l ≠ [] := by
  cases l with
  | nil => simp [splitB]
  | cons x r =>
    rw [splitB]
    split
    · simp
    · split <;> simp
theorem split_none {c : UInt8} {l : List UInt8} (h : l.count c = 0) : splitB c l = [l] := by
  induction l with
  | nil => rfl
  | cons x r ih =>
    rw [List.count_cons] at h
    have hx : x ≠ c := by rintro rfl; simp at h
    rw [splitB, if_neg hx, ih (by omega)]
theorem split_at {c : UInt8} {l : List UInt8} (h : 0 < l.count c) : ∃ m : Nat, Lib.indexByte l c = m ∧ m < l.length ∧ splitB c l = l.take m :: splitB c (l.drop (m + 1)) ∧ l.count c = 1 + (l.drop (m + 1)).count c := by
  induction l with
  | nil => simp at h
  | cons x r ih =>
    by_cases hx : x = c
    · subst hx
      exact ⟨0, by simp [Lib.indexByte], by simp, by simp [splitB], by rw [List.count_cons]; simp [Nat.add_comm]⟩
    · have h' : 0 < r.count c := by rw [List.count_cons, if_neg (by simpa using hx)] at h; omega
      obtain ⟨m, h1, h2, h3, h4⟩ := ih h'
      refine ⟨m + 1, ?_, by simp; omega, ?_, ?_⟩
      · rw [Lib.indexByte, if_neg (by simpa using hx), if_neg (by rw [h1]; simp), h1]; rfl
      · rw [splitB, if_neg hx, h3]; rfl
      · rw [List.count_cons, if_neg (by simpa using hx), h4]; simp
theorem split_len (c : UInt8) (l : List UInt8) : (splitB c l).length = l.count c + 1 := by
  induction l with
  | nil => rfl
  | cons x r ih =>
    rw [splitB, List.count_cons]
    split
    · rename_i h; subst h; simp [ih]
    · rename_i h
      rw [if_neg (by simpa using h)]
      split
      · rename_i h2; exact absurd h2 (splitB_ne _ _)
      · rename_i h2; rw [h2] at ih; simpa using ih
theorem split_part {c : UInt8} {l : List UInt8} : ∀ p ∈ splitB c l, p.length ≤ l.length := by
  induction l with
  | nil => intro p hp; simp [splitB] at hp; subst hp; simp
  | cons x r ih =>
    intro p hp
    rw [splitB] at hp
    split at hp
    · rcases List.mem_cons.1 hp with rfl | hp
      · simp
      · have := ih p hp; simp; omega
    · split at hp
      · simp at hp; subst hp; simp
      · rename_i q qs hq
        rw [hq] at ih
        rcases List.mem_cons.1 hp with rfl | hp
        · have := ih q (List.mem_cons_self ..); simp; omega
        · have := ih p (List.mem_cons_of_mem _ hp); simp; omega
theorem set_at {α : Type} (a : List α) (x y : α) (b : List α) : (a ++ y :: b).set a.length x = a ++ x :: b := by
  induction a with
  | nil => rfl
  | cons z a ih => simp [ih]
theorem toU8_self (c : UInt8) : (c.toNat : Int).toNat.toUInt8 = c := by
  rw [Int.toNat_natCast]; simp
theorem cst' (s : List UInt8) (c : Int) (r : Rl) (w : World) (vs : Array Value) (h : VRels r w vs [.str s, .int .u8 c]) :
    ∃ v, (callFunc 168 vs).run cx.P w = .ok (.value v) w ∧ VRel r w v (.int .i64 (Lib.countByte s c.toNat.toUInt8 : Nat)) := by
  obtain ⟨hs, hv⟩ := h
  obtain ⟨x, y, rfl⟩ : ∃ x y, vs = #[x, y] := by
    rcases vs with ⟨l⟩
    match l, hs with
    | [x, y], _ => exact ⟨x, y, rfl⟩
  have h0 := hv 0 (by simp)
  have h1 := hv 1 (by simp)
  simp only [List.getElem_cons_zero, List.getElem_cons_succ] at h0 h1
  have h0 : VRel r w x (.str s) := h0
  have h1 : VRel r w y (.int .u8 c) := h1
  cases h0 with
  | str h =>
    subst h
    cases h1
    refine ⟨_, ?_, .int⟩
    show (callFunc 168 _).run Tryz.prog w = _
    rw [run_callFunc_extern Tryz.func168 rfl rfl rfl (e := Extern.BytealgCount.count) rfl, Lib.run_countString]
    rfl
theorem sIndex_ok (s : List UInt8) (c : UInt8) : Calc cx 152 [.str s, .str [c]] (.int .i64 (Lib.indexByte s c)) :=
  pure_intro (fun a w => Tryz.call152 a w) Tryz.func152 rfl Tryz.ntmps152 rfl .int fun B => by
    refine ab 1000 rfl trivial ?_
    refine S_guard rfl rfl rfl rfl (fun h => by cases h) (fun _ => ?_)
    refine ab 1000 rfl trivial ?_
    by_cases he : s = [c]
    · subst he
      refine S_cond (b := true) (by show AV.bool (([c] : List UInt8) == [c]) = _; simp) (fun _ => ?_) (fun h => by cases h)
      refine ab 1000 rfl trivial ?_
      refine S_retc .int rfl trivial ?_
      show AV.int .i64 0 = _
      simp [Lib.indexByte]
    refine S_cond (b := false) (by show AV.bool (([c] : List UInt8) == s) = _; rw [beq_eq_false_iff_ne.2 (fun h => he h.symm)]) (fun h => by cases h) (fun _ => ?_)
    refine ab 1000 rfl trivial ?_
    refine S_cond (b := true) rfl (fun _ => ?_) (fun h => by cases h)
    refine ab 1000 rfl ⟨Int.zero_lt_one, Int.le_refl _, trivial⟩ ?_
    refine S_pure rfl rfl rfl (indexByteS_ok s (c.toNat : Int)) (.cons (.refl .str) (.cons (.refl .int) (.nil _))) ?_
    rw [toU8_self]
    refine ab 1000 rfl trivial ?_
    exact S_retc .int rfl trivial rfl
theorem index_ok (s : List UInt8) (c : UInt8) : Calc cx 148 [.str s, .str [c]] (.int .i64 (Lib.indexByte s c)) :=
  pure_intro (fun a w => Tryz.call148 a w) Tryz.func148 rfl Tryz.ntmps148 rfl .int fun B => by
    refine ab 1000 rfl trivial ?_
    refine S_pure rfl rfl rfl (sIndex_ok s c) (.cons (.refl .str) (.cons (.refl .str) (.nil _))) ?_
    refine ab 1000 rfl trivial ?_
    exact S_retc .int rfl trivial rfl
theorem count_ok (s : List UInt8) (c : UInt8) : Calc cx 147 [.str s, .str [c]] (.int .i64 (s.count c : Nat)) :=
  pure_intro (fun a w => Tryz.call147 a w) Tryz.func147 rfl Tryz.ntmps147 rfl .int fun B => by
    refine ab 1000 rfl trivial ?_
    refine S_cond (b := false) rfl (fun h => by cases h) (fun _ => ?_)
    refine ab 1000 rfl trivial ?_
    refine S_cond (b := true) rfl (fun _ => ?_) (fun h => by cases h)
    refine ab 1000 rfl ⟨Int.zero_lt_one, Int.le_refl _, trivial⟩ ?_
    refine S_ext (cst' s (c.toNat : Int)) rfl rfl rfl ?_
    rw [toU8_self]
    refine ab 1000 rfl trivial ?_
    exact S_retc .int rfl trivial rfl
theorem genSplit_ok (s : List UInt8) (c : UInt8) (hs : s.length ≤ 1099511627776) : Calc cx 104 [.str s, .str [c], .int .i64 0, .int .i64 (-1)] (.sl true false 1 (texts (splitB c s))) :=
  pure_intro (fun a w => Tryz.call104 a w) Tryz.func104 rfl Tryz.ntmps104 rfl (.sl (fun _ => rfl) (texts_any _)) fun B => by
    have hcl : s.count c ≤ s.length := List.count_le_length
    refine ab 1000 rfl trivial ?_
    refine S_cond (b := false) rfl (fun h => by cases h) (fun _ => ?_)
    refine ab 1000 rfl trivial ?_
    refine S_cond (b := false) rfl (fun h => by cases h) (fun _ => ?_)
    refine ab 1000 rfl trivial ?_
    refine S_cond (b := true) rfl (fun _ => ?_) (fun h => by cases h)
    refine ab 1000 rfl trivial ?_
    refine S_pure rfl rfl rfl (count_ok s c) (.cons (.refl .str) (.cons (.refl .str) (.nil _))) ?_
    have hw1 : IntKind.i64.wrap ((s.count c : Nat) + 1 : Int) = ((s.count c + 1 : Nat) : Int) := w64 (by omega) (by omega)
    have hw2 : IntKind.i64.wrap ((s.length : Nat) + 1 : Int) = ((s.length + 1 : Nat) : Int) := w64 (by omega) (by omega)
    have hmin : min (IntKind.i64.wrap ((s.count c : Nat) + 1 : Int)) (IntKind.i64.wrap ((s.length : Nat) + 1 : Int)) = ((s.count c + 1 : Nat) : Int) := by rw [hw1, hw2]; omega
    refine ab 1000 rfl ⟨?_, ?_, ?_, ?_, trivial⟩ ?_
    · rw [hmin]; omega
    · show (16 : Nat) * _ ≤ (281474976710656 : Int)
      rw [hmin]; omega
    · omega
    · rw [hmin]; omega
    have hw3 : IntKind.i64.wrap (((s.count c + 1 : Nat) : Int) - 1) = ((s.count c : Nat) : Int) := w64 (by omega) (by omega)
    refine S_while (α := Nat × List (List UInt8) × List UInt8) (fun (i, done, r) => [(0, .str r), (1, .str [c]), (2, .int .i64 0), (3, .int .i64 (s.count c : Nat)), (9, .ms 0 0 0 (s.count c + 1) 1 false), (10, .int .i64 (i : Nat))])
      (fun (i, done, r) => [(0, some (.cells (texts done ++ List.replicate (s.count c + 1 - i) (.str [])) ⟨false, none⟩))])
      (fun (i, done, r) => done.length = i ∧ i + r.count c = s.count c ∧ r.length ≤ s.length ∧ done ++ splitB c r = splitB c s) (fun (i, done, r) => s.count c - i) (0, [], s)
      ⟨rfl, by omega, Nat.le_refl _, rfl⟩ (.cons rfl (.cons rfl (.cons rfl (.cons ?_ (.cons ?_ (.cons rfl (.nil _))))))) ?_ ?_
    · show AV.int .i64 (IntKind.i64.wrap (min (IntKind.i64.wrap ((s.count c : Nat) + 1 : Int)) (IntKind.i64.wrap ((s.length : Nat) + 1 : Int)) - 1)) = _
      rw [hmin, hw3]
    · show AV.ms 0 0 0 (min (IntKind.i64.wrap ((s.count c : Nat) + 1 : Int)) (IntKind.i64.wrap ((s.length : Nat) + 1 : Int))).toNat 1 false = _
      rw [hmin, Int.toNat_natCast]
    · show [(0, some (Box.cells (List.replicate (min (IntKind.i64.wrap ((s.count c : Nat) + 1 : Int)) (IntKind.i64.wrap ((s.length : Nat) + 1 : Int))).toNat (AV.str [])) ⟨false, none⟩))] = _
      rw [hmin, Int.toNat_natCast]; rfl
    rintro ⟨i, done, r⟩ ⟨h1, h2, h3, h4⟩
    have hdl : (texts done).length = i := by simp [texts, h1]
    have fin : ∀ k, k < s.count c + 1 → List.replicate (s.count c + 1 - k) (AV.str []) = .str [] :: List.replicate (s.count c + 1 - (k + 1)) (.str []) := fun k hk => by
      rw [show s.count c + 1 - k = (s.count c + 1 - (k + 1)) + 1 by omega, List.replicate_succ]
    have put : ∀ (x : List UInt8), i < s.count c + 1 → setRange (texts done ++ List.replicate (s.count c + 1 - i) (AV.str [])) i [.str x] = texts (done ++ [x]) ++ List.replicate (s.count c + 1 - (i + 1)) (.str []) := fun x hk => by
      rw [fin i hk]
      have := set_at (texts done) (AV.str x) (.str []) (List.replicate (s.count c + 1 - (i + 1)) (.str []))
      rw [hdl] at this
      show List.set _ i _ = _
      rw [this]; simp [texts]
    refine ab 1000 rfl trivial ?_
    refine S_dec rfl (fun hlt => ?_) (fun hlt => ?_)
    · have hlt : i < s.count c := by omega
      obtain ⟨m, m1, m2, m3, m4⟩ := split_at (c := c) (l := r) (by omega)
      refine ab 1000 rfl trivial ?_
      refine S_pure rfl rfl rfl (index_ok r c) (.cons (.refl .str) (.cons (.refl .str) (.nil _))) ?_
      rw [m1]
      refine ab 1000 rfl trivial ?_
      refine S_dec rfl (fun h => absurd h (by omega)) (fun _ => ?_)
      have hw4 : IntKind.i64.wrap ((m : Int) + 0) = (m : Int) := w64 (by omega) (by omega)
      have hw5 : IntKind.i64.wrap ((m : Int) + 1) = ((m + 1 : Nat) : Int) := w64 (by omega) (by omega)
      refine ab 1000 rfl ⟨by rw [hw4]; omega, by rw [hw4]; omega, trivial⟩ ?_
      refine S_index .top rfl rfl rfl ⟨rfl, by omega, by omega, trivial⟩ ?_
      refine S_store rfl rfl rfl ⟨rfl, rfl, rfl, ?_, trivial⟩ ?_
      · show offN 0 (mulN (i : Int).toNat 1) + 1 ≤ (texts done ++ List.replicate (s.count c + 1 - i) (AV.str [])).length
        rw [offN_eq, mulN_eq, Int.toNat_natCast, List.length_append, hdl, List.length_replicate]; omega
      refine ab 1000 rfl ⟨by show IntKind.i64.wrap ((m : Int) + 1) ≤ _; rw [hw5]; omega, by show 0 ≤ IntKind.i64.wrap ((m : Int) + 1); rw [hw5]; omega, trivial⟩ ?_
      refine S_round (i + 1, done ++ [r.take m], r.drop (m + 1)) (by show s.count c - (i + 1) < s.count c - i; omega) ⟨by simp [h1], by omega, by rw [List.length_drop]; omega, by rw [← h4, m3]; simp⟩
        (.cons ?_ (.cons rfl (.cons rfl (.cons rfl (.cons rfl (.cons (ai64 (by omega) (by omega)) (.nil _))))))) ?_
      · show AV.str (r.drop (IntKind.i64.wrap ((m : Int) + 1)).toNat) = _
        rw [hw5, Int.toNat_natCast]
      · show [(0, some (Box.cells (setRange (texts done ++ List.replicate (s.count c + 1 - i) (AV.str [])) (offN 0 (mulN (i : Int).toNat 1)) [.str (r.take (IntKind.i64.wrap ((m : Int) + 0)).toNat)]) ⟨false, none⟩))] = _
        rw [offN_eq, mulN_eq, Int.toNat_natCast, hw4, Int.toNat_natCast, Nat.zero_add, Nat.mul_one, put _ (by omega)]
    · have hlt : i = s.count c := by omega
      have h0 : r.count c = 0 := by omega
      rw [split_none h0] at h4
      refine ab 1000 rfl trivial ?_
      refine S_index .top rfl rfl rfl ⟨rfl, by omega, by omega, trivial⟩ ?_
      refine S_store rfl rfl rfl ⟨rfl, rfl, rfl, ?_, trivial⟩ ?_
      · show offN 0 (mulN (i : Int).toNat 1) + 1 ≤ (texts done ++ List.replicate (s.count c + 1 - i) (AV.str [])).length
        rw [offN_eq, mulN_eq, Int.toNat_natCast, List.length_append, hdl, List.length_replicate]; omega
      have hw6 : IntKind.i64.wrap ((i : Int) + 1) = ((i + 1 : Nat) : Int) := w64 (by omega) (by omega)
      refine ab 1000 rfl ⟨rfl, by rw [hw6]; omega, by rw [hw6]; omega, trivial⟩ ?_
      refine S_ret ⟨_, _, rfl, trivial, _, rfl, ?_⟩
      show Frz true [(0, some (Box.cells (setRange (texts done ++ List.replicate (s.count c + 1 - i) (AV.str [])) (offN 0 (mulN (i : Int).toNat 1)) [.str r]) ⟨false, none⟩))] (.ms 0 0 0 (IntKind.i64.wrap ((i : Int) + 1)).toNat 1 false) _
      rw [offN_eq, mulN_eq, Int.toNat_natCast, Nat.zero_add, Nat.mul_one, put _ (by omega), hw6, Int.toNat_natCast, ← h4]
      have hz : s.count c + 1 - (i + 1) = 0 := by omega
      rw [hz, List.replicate_zero, List.append_nil]
      exact .ms1 rfl (texts_one _) (by simp [texts, h1]) (texts_any _)
theorem Split_ok (s : List UInt8) (c : UInt8) (hs : s.length ≤ 1099511627776) : Calc cx 73 [.str s, .str [c]] (.sl true false 1 (texts (splitB c s))) :=
  pure_intro (fun a w => Tryz.call73 a w) Tryz.func73 rfl Tryz.ntmps73 rfl (.sl (fun _ => rfl) (texts_any _)) fun B => by
    refine ab 1000 rfl trivial ?_
    refine S_pure rfl rfl rfl (genSplit_ok s c hs) (.cons (.refl .str) (.cons (.refl .str) (.cons (.refl .int) (.cons (.refl .int) (.nil _))))) ?_
    refine ab 1000 rfl trivial ?_
    exact S_retc (.sl (fun _ => rfl) (texts_any _)) rfl trivial rfl
end Go.Proofs.YtjkeekbfgnmngaaGreatDoor
end
section
set_option linter.unusedVariables false
set_option linter.unusedSimpArgs false
set_option maxRecDepth 20000
namespace Go.Proofs.YtjkeekbfgnmngaaGreatDoor
open Go Go.Ab
def isPathB (s : List UInt8) : Bool := (splitB 47 s).all isName && decide (s.length ≤ 100)
theorem all_take {α : Type} {p : α → Bool} {l : List α} {i : Nat} (h : i < l.length) (ha : (l.take i).all p = true) (hp : p l[i] = true) : (l.take (i + 1)).all p = true := by
  rw [List.take_succ_eq_append_getElem h, List.all_append, ha]; simp [hp]
theorem all_not {α : Type} {p : α → Bool} {l : List α} {i : Nat} (h : i < l.length) (hp : p l[i] = false) : l.all p = false := by
  rw [List.all_eq_false]; exact ⟨_, List.getElem_mem h, by simp [hp]⟩
theorem isPath_ok (s : List UInt8) (hs : s.length ≤ 1099511627776) : Calc cx 33 [.str s] (.bool (isPathB s)) :=
  pure_intro (fun a w => Tryz.call33 a w) Tryz.func33 rfl Tryz.ntmps33 rfl .bool fun B => by
    obtain ⟨l, hl⟩ : ∃ l, l = splitB 47 s := ⟨_, rfl⟩
    have hlen : l.length ≤ s.length + 1 := by rw [hl, split_len]; have : s.count 47 ≤ s.length := List.count_le_length; omega
    have htl : (texts l).length = l.length := by simp [texts]
    have hSp := Split_ok s 47 hs
    rw [← hl] at hSp
    refine ab 1000 rfl trivial ?_
    refine S_pure rfl rfl rfl hSp (.cons (.refl .str) (.cons (.refl .str) (.nil _))) ?_
    refine ab 1000 rfl trivial ?_
    refine S_while (α := Nat) (fun i => [(0, .str s), (6, .sl true false 1 (texts l)), (7, .int .i64 ((texts l).length : Nat)), (8, .int .i64 (i : Nat))]) (fun _ => []) (fun i => i ≤ l.length ∧ (l.take i).all isName = true) (fun i => l.length - i) 0
      ⟨Nat.zero_le _, rfl⟩ (.cons rfl (.cons rfl (.cons rfl (.cons rfl (.nil _))))) rfl ?_
    rintro i ⟨hi, hN⟩
    refine ab 1000 rfl trivial ?_
    refine S_dec rfl (fun hil => ?_) (fun hil => ?_)
    · have hil : i < l.length := by have : (i : Int) < ((texts l).length : Nat) := hil; omega
      refine ab 1000 rfl trivial ?_
      refine S_index (.str l[i]) rfl rfl rfl ⟨rfl, by omega, by rw [Int.toNat_natCast]; simp [texts, List.getElem?_eq_getElem hil], trivial⟩ ?_
      refine ab 1000 rfl trivial ?_
      have hp : l[i].length ≤ s.length := split_part (c := 47) _ (by rw [← hl]; exact List.getElem_mem hil)
      refine S_pure rfl rfl rfl (isName_ok l[i] (by omega)) (.cons (.refl .str) (.nil _)) ?_
      refine ab 1000 rfl trivial ?_
      refine S_cond rfl (fun h => ?_) (fun h => ?_)
      · have h : isName l[i] = false := by simpa using (show (!isName l[i]) = true from h)
        refine ab 1000 rfl trivial ?_
        refine S_retc .bool rfl trivial ?_
        rw [isPathB, ← hl, all_not hil h]; rfl
      · have h : isName l[i] = true := by simpa using (show (!isName l[i]) = false from h)
        refine ab 1000 rfl trivial ?_
        exact S_round (i + 1) (by show l.length - (i + 1) < l.length - i; omega) ⟨hil, all_take hil hN h⟩ (.cons rfl (.cons rfl (.cons rfl (.cons (ai64 rfl (by omega)) (.nil _))))) rfl
    · have hil : i = l.length := by have : ¬ (i : Int) < ((texts l).length : Nat) := hil; omega
      rw [hil, List.take_length] at hN
      refine ab 1000 rfl trivial ?_
      refine S_retc .bool rfl trivial ?_
      rw [isPathB, ← hl, hN, Bool.true_and]
      show AV.bool (decide ((s.length : Int) ≤ 100)) = _
      exact congrArg AV.bool (decide_eq_decide.2 (by omega))
end Go.Proofs.YtjkeekbfgnmngaaGreatDoor
end
section
set_option linter.unusedVariables false
set_option linter.unusedSimpArgs false
set_option maxRecDepth 20000
namespace Go.Proofs.YtjkeekbfgnmngaaGreatDoor
open Go Go.Ab
structure Fil where
  path : List UInt8
  text : List UInt8
  run : Bool
  deriving DecidableEq
def filA (f : Fil) : AV := .agg [.str f.path, .str f.text, .bool f.run]
def fils (l : List Fil) : List AV := l.map filA
def insT (d p : List UInt8) : Bool := (d ++ [47]).isPrefixOf p
def filE (f : Fil) : Nat := if isPathB f.path = true then (if 100000 < f.text.length then 2 else 0) else 1
def formT : List Fil → Nat
  | [] => 0
  | f :: r => if filE f = 0 then formT r else filE f
def okT (l : List Fil) : Prop := l.Pairwise (fun f g => Op.bytesLess f.path g.path = true) ∧ ∀ f ∈ l, ∀ g ∈ l, insT f.path g.path = false
instance (l : List Fil) : Decidable (okT l) := inferInstanceAs (Decidable (_ ∧ _))
def chkT (l : List Fil) : Nat := if 60 < l.length then 2 else if formT l ≠ 0 then formT l else if okT l then 0 else 6
theorem fils_len (l : List Fil) : (fils l).length = l.length := by simp [fils]
theorem fils_get {l : List Fil} {i : Nat} (h : i < l.length) : (fils l)[i]? = some (filA l[i]) := by simp [fils, h]
theorem filA_free {st : Bool} (f : Fil) : Free st (filA f) := .agg (by intro x hx; simp at hx; rcases hx with rfl | rfl | rfl; exact .str; exact .str; exact .bool)
theorem fils_free {st : Bool} (l : List Fil) : ∀ x ∈ fils l, Free st x := by
  intro x hx
  obtain ⟨f, _, rfl⟩ := List.mem_map.1 hx
  exact filA_free f
theorem formT_at {l : List Fil} {i : Nat} (h : i < l.length) (h0 : formT (l.take i) = 0) (hn : filE l[i] ≠ 0) : formT l = filE l[i] := by
  induction l generalizing i with
  | nil => simp at h
  | cons f r ih =>
    cases i with
    | zero =>
      have hn : filE f ≠ 0 := hn
      show formT (f :: r) = filE f
      rw [formT, if_neg hn]
    | succ i =>
      rw [List.take_succ_cons, formT] at h0
      by_cases hf : filE f = 0
      · rw [if_pos hf] at h0
        rw [formT, if_pos hf]
        exact ih (by simpa using h) h0 hn
      · rw [if_neg hf] at h0; exact absurd h0 hf
theorem formT_step {l : List Fil} {i : Nat} (h : i < l.length) (h0 : formT (l.take i) = 0) (hn : filE l[i] = 0) : formT (l.take (i + 1)) = 0 := by
  induction l generalizing i with
  | nil => simp at h
  | cons f r ih =>
    cases i with
    | zero =>
      have hn : filE f = 0 := hn
      show formT [f] = 0
      rw [formT, if_pos hn]; rfl
    | succ i =>
      rw [List.take_succ_cons, formT] at h0 ⊢
      by_cases hf : filE f = 0
      · rw [if_pos hf] at h0 ⊢
        exact ih (by simpa using h) h0 hn
      · rw [if_neg hf] at h0; exact absurd h0 hf
theorem formT_mem {l : List Fil} (h : formT l = 0) : ∀ f ∈ l, isPathB f.path = true ∧ f.text.length ≤ 100000 := by
  induction l with
  | nil => intro f h; cases h
  | cons g r ih =>
    rw [formT] at h
    by_cases hg : filE g = 0
    · rw [if_pos hg] at h
      intro f hf
      rcases List.mem_cons.1 hf with rfl | hf
      · unfold filE at hg
        split at hg
        · rename_i hp
          split at hg
          · cases hg
          · exact ⟨hp, by omega⟩
        · cases hg
      · exact ih h f hf
    · rw [if_neg hg] at h; exact absurd h hg
end Go.Proofs.YtjkeekbfgnmngaaGreatDoor
end
section
set_option linter.unusedVariables false
set_option linter.unusedSimpArgs false
namespace Go.Ab
open Go
def Rl.fix (r : Rl) (b : Nat) : Rl := { r with I := fun k => r.I k ∨ k = b }
theorem Inv.fix {cx : Cx} {r : Rl} {σ : Heap} {w : World} {b : Nat} (hi : Inv cx r σ w) (hl : ¬ Live r σ b) (hb : b < w.heap.size) : Inv cx (r.fix b) σ w := by
  have g : Grow r w (r.fix b) w := ⟨fun _ h => h, fun _ h => .inl h, fun _ _ _ h => h, fun _ _ => rfl, fun _ c _ f h => ⟨c, f, h, rfl⟩⟩
  refine ⟨fun id ver x h => ?_, hi.lt, hi.inj, fun k hk hI => ?_, fun k hI => ?_, fun k h => .inl (hi.SI k h), hi.glob.mono g hi.SI⟩
  · rcases hi.box id ver x h with ⟨k, o, h1, h2⟩ | h1
    · exact .inl ⟨k, o, h1, h2.mono g rfl⟩
    · exact .inr h1
  · rcases hI with h | rfl
    · exact hi.imm k hk h
    · exact hl hk
  · rcases hI with h | rfl
    · exact hi.Ilt k h
    · exact hb
theorem Inv.freeze {cx : Cx} {r : Rl} {σ : Heap} {w : World} {id cur b o : Nat} {x : Box} (hi : Inv cx r σ w) (hσ : σ[id]? = some (cur, some x)) (hρ : r.ρ id cur = some (b, o)) :
    Inv cx (r.fix b) (σ.set id (cur, none)) w ∧ Ext r σ w (r.fix b) (σ.set id (cur, none)) w := by
  obtain ⟨q1, q2⟩ := hi.kill (w' := w) hσ (fun _ _ => rfl) rfl (fun b c t f h => ⟨c, f, h, rfl⟩) rfl rfl rfl
  have hlive : Live r σ b := ⟨id, cur, x, o, hσ, hρ⟩
  have hid : id < σ.length := by
    rcases Nat.lt_or_ge id σ.length with h | h
    · exact h
    · rw [List.getElem?_eq_none h] at hσ; cases hσ
  have hnl : ¬ Live r (σ.set id (cur, none)) b := by
    rintro ⟨j, v, y, o', h1, h2⟩
    rw [List.getElem?_set] at h1
    by_cases hj : id = j
    · subst hj; rw [if_pos rfl] at h1; simp [hid] at h1
    · rw [if_neg hj] at h1
      exact hj (hi.inj _ _ _ _ _ _ _ _ _ hσ h1 hρ h2)
  refine ⟨q1.fix hnl (hi.lt _ _ _ _ hρ).2, ⟨q2.S, fun k h => .inl h, q2.Sf, fun k h => ?_, q2.ρ, q2.hs, q2.σl, q2.same, fun k h => ?_, q2.size, q2.os, q2.output, q2.tape, q2.blk⟩⟩
  · rcases h with h | rfl
    · exact .inl h
    · exact .inr (.inl hlive)
  · exact q2.liv k h
section
variable {cx : Cx} {n : Nat} {B : Bs} {k : List AI} {Q : Post} {fr : Fr} {σ : Heap}
end
end Go.Ab
end
section
set_option linter.unusedVariables false
set_option linter.unusedSimpArgs false
namespace Go.Ab
open Go
inductive Low (k : Nat) : AV → Prop
  | top : Low k .top
  | bool {b} : Low k (.bool b)
  | int {t n} : Low k (.int t n)
  | str {s} : Low k (.str s)
  | nilp : Low k .nilp
  | nils : Low k .nils
  | nilm : Low k .nilm
  | nilf : Low k .nilf
  | nili : Low k .nili
  | mark {vs} : Low k (.mark vs)
  | ptr {id ver off} (h : id < k) : Low k (.ptr id ver off)
  | eptr {id ver off} (h : id < k) : Low k (.eptr id ver off)
  | ms {id ver off len sz full} (h : id < k) : Low k (.ms id ver off len sz full)
  | map {id ver} (h : id < k) : Low k (.map id ver)
  | rp {b cs} (hx : ∀ x ∈ cs, Low k x) : Low k (.rp b cs)
  | sl {b fl sz xs} (hx : ∀ x ∈ xs, Low k x) : Low k (.sl b fl sz xs)
  | iface {t v} (h : Low k v) : Low k (.iface t v)
  | agg {cs} (h : ∀ x ∈ cs, Low k x) : Low k (.agg cs)
  | tup {cs} (h : ∀ x ∈ cs, Low k x) : Low k (.tup cs)
  | func {fn a b} (h : ∀ x ∈ a, Low k x) (h' : ∀ x ∈ b, Low k x) : Low k (.func fn a b)
theorem Low.free {k : Nat} {st : Bool} {a : AV} (h : Free st a) : Low k a := by
  induction h with
  | top => exact .top
  | bool => exact .bool
  | int => exact .int
  | str => exact .str
  | nilp => exact .nilp
  | nils => exact .nils
  | nilm => exact .nilm
  | nilf => exact .nilf
  | nili => exact .nili
  | rp _ _ ih => exact .rp ih
  | sl _ _ ih => exact .sl ih
  | iface _ ih => exact .iface ih
  | agg _ ih => exact .agg ih
  | tup _ ih => exact .tup ih
  | func _ _ ih1 ih2 => exact .func ih1 ih2
theorem Low.cells {k : Nat} {a : AV} (h : Low k a) : ∀ x ∈ a.cells, Low k x := by
  cases a with
  | agg cs => cases h; assumption
  | _ => intro x hx; simp only [AV.cells, List.mem_singleton] at hx; subst hx; exact h
theorem VRel.low {k : Nat} {r r' : Rl} {w : World} {v : Value} {a : AV} (h : VRel r w v a) (hl : Low k a) (hS : ∀ b, r.S b → r'.S b) (hI : ∀ b, r.I b → r'.I b) (hρ : ∀ id ver p, id < k → r.ρ id ver = some p → r'.ρ id ver = some p) : VRel r' w v a := by
  induction h with
  | top => exact .top
  | mark => exact .mark
  | bool => exact .bool
  | int => exact .int
  | str h => exact .str h
  | nilp => exact .nilp
  | ptr h => cases hl with | ptr hk => exact .ptr (hρ _ _ _ hk h)
  | eptr h => cases hl with | eptr hk => exact .eptr (hρ _ _ _ hk h)
  | rp hI' hS' f hc _ ih => cases hl with | rp hx => exact .rp (hI _ hI') (fun h => hS _ (hS' h)) f hc (fun i hi => ih i hi (hx _ (List.getElem_mem hi)))
  | nils => exact .nils
  | sl0 h => exact .sl0 h
  | sl hn hc0 hf' hI' hS' hsz f hc _ ih =>
    cases hl with
    | sl hx => exact .sl hn hc0 hf' (hI _ hI') (fun h => hS _ (hS' h)) hsz f hc (fun e he j hj => ih e he j hj ((hx _ (List.getElem_mem he)).cells _ (List.getElem_mem hj)))
  | ms0 => exact .ms0
  | ms h hcap hn hf' => cases hl with | ms hk => exact .ms (hρ _ _ _ hk h) hcap hn hf'
  | nilm => exact .nilm
  | map h => cases hl with | map hk => exact .map (hρ _ _ _ hk h)
  | func h1 _ h2 _ ih1 ih2 =>
    cases hl with
    | func ha hb => exact .func h1 (fun i hi => ih1 i hi (ha _ (List.getElem_mem hi))) h2 (fun i hi => ih2 i hi (hb _ (List.getElem_mem hi)))
  | nilf => exact .nilf
  | iface _ ih => cases hl with | iface h => exact .iface (ih h)
  | nili => exact .nili
  | agg hn _ ih => cases hl with | agg h => exact .agg hn (fun i hi => ih i hi (h _ (List.getElem_mem hi)))
  | tup hn _ ih => cases hl with | tup h => exact .tup hn (fun i hi => ih i hi (h _ (List.getElem_mem hi)))
inductive LowBox (k : Nat) : Box → Prop
  | cells {cs g} (h : ∀ x ∈ cs, Low k x) : LowBox k (.cells cs g)
  | map {kvs st} (h : ∀ p ∈ kvs, Low k p.1 ∧ Low k p.2) : LowBox k (.map kvs st)
  | miter {id ver since seen last} (h : id < k) : LowBox k (.miter id ver since seen last)
  | siter {s pos} : LowBox k (.siter s pos)
theorem BoxRel.low {P : Program} {k : Nat} {r r' : Rl} {w : World} {b o : Nat} {x : Box} (h : BoxRel P r w b o x) (hl : LowBox k x) (hS : ∀ b, r.S b → r'.S b) (hI : ∀ b, r.I b → r'.I b) (hρ : ∀ id ver p, id < k → r.ρ id ver = some p → r'.ρ id ver = some p) : BoxRel P r' w b o x := by
  cases hl with
  | cells hx =>
    obtain ⟨c, t, lo, hi, h1, h2, h3⟩ := h
    refine ⟨c, t, lo, hi, h1, fun i hi => ?_, h3⟩
    obtain ⟨v, hv, hr⟩ := h2 i hi
    exact ⟨v, hv, hr.low (hx _ (List.getElem_mem hi)) hS hI hρ⟩
  | map hx =>
    obtain ⟨h0, es, clock, h1, h2, h3, h4⟩ := h
    refine ⟨h0, es, clock, h1, h2, fun i hi => ?_, h4⟩
    obtain ⟨e, he, hk, hv⟩ := h3 i hi
    have := hx _ (List.getElem_mem hi)
    exact ⟨e, he, hk.low this.1 hS hI hρ, hv.low this.2 hS hI hρ⟩
  | siter => exact h
  | miter hk =>
    obtain ⟨h0, mb, h1, h2⟩ := h
    exact ⟨h0, mb, hρ _ _ _ hk h1, h2⟩
inductive FzT (k : Nat) (σ : Heap) : AV → AV → Prop
  | low {a} (h : Low k a) : FzT k σ a a
  | nils {b fl sz} : FzT k σ .nils (.sl b fl sz [])
  | ms {id ver off len sz full cs g xs ys} (hk : k ≤ id) (hb : boxAt σ id = some (ver, cs, g)) (hle : off + len * sz ≤ cs.length) (hx : (cs.drop off).take (len * sz) = ys) (hsz : ∀ x ∈ xs, x.cells.length = sz) (hl : xs.length = len)
      (hxy : ys.length = (xs.flatMap AV.cells).length) (hf : ∀ i (h : i < ys.length) (h' : i < (xs.flatMap AV.cells).length), FzT k σ ys[i] (xs.flatMap AV.cells)[i]) : FzT k σ (.ms id ver off len sz full) (.sl true false sz xs)
  | agg {az bs} (hl : az.length = bs.length) (h : ∀ i (h : i < az.length) (h' : i < bs.length), FzT k σ az[i] bs[i]) : FzT k σ (.agg az) (.agg bs)
  | tup {az bs} (hl : az.length = bs.length) (h : ∀ i (h : i < az.length) (h' : i < bs.length), FzT k σ az[i] bs[i]) : FzT k σ (.tup az) (.tup bs)
theorem FzT.ms1 {k : Nat} {σ : Heap} {id ver len : Nat} {full : Bool} {xs : List AV} {g : Tag} (hk : k ≤ id) (hb : boxAt σ id = some (ver, xs, g)) (ho : ∀ x ∈ xs, x.one = true) (hl : xs.length = len) (hf : ∀ x ∈ xs, Low k x) :
    FzT k σ (.ms id ver 0 len 1 full) (.sl true false 1 xs) := by
  have e := ones_flat ho
  refine .ms (ys := xs) hk hb (by omega) (by rw [List.drop_zero, List.take_of_length_le (by omega)]) (fun x hx => by rw [one_cells (ho x hx)]; rfl) hl (by rw [e]) (fun i h h' => ?_)
  have : (xs.flatMap AV.cells)[i] = xs[i] := by simp only [e]
  rw [this]
  exact .low (hf _ (List.getElem_mem h))
theorem FzT.rel {k : Nat} {cx : Cx} {r r' : Rl} {σ : Heap} {w : World} (hi : Inv cx r σ w) (hS : ∀ b, r.S b → r'.S b) (hI : ∀ b, r.I b → r'.I b) (hρ : ∀ id ver p, id < k → r.ρ id ver = some p → r'.ρ id ver = some p)
    (hL : ∀ (id ver : Nat) x b o, k ≤ id → σ[id]? = some (ver, some x) → r.ρ id ver = some (b, o) → r'.I b ∧ r'.S b) {a a' : AV} (hz : FzT k σ a a') : ∀ {v : Value}, VRel r w v a → VRel r' w v a' := by
  induction hz with
  | low h => intro v hv; exact hv.low h hS hI hρ
  | nils => intro v hv; cases hv; exact .sl0 (fun _ => rfl)
  | ms hk hb hle hx hsz hl hxy hf ih =>
    intro v hv
    cases hv with
    | ms0 =>
      obtain rfl := List.eq_nil_of_length_eq_zero hl
      exact .sl0 (fun h => by cases h)
    | ms hρ' hcap hn hff =>
      have hbr := hi.cells hb rfl hρ'
      obtain ⟨k1, k2⟩ := hL _ _ _ _ _ hk (boxAt_some hb) hρ'
      rename_i off0 len0 sz0 _ cs0 _ xs0 ys0 b0 o1 cap0
      have hc := (hbr.cells'.drop off0).take (len0 * sz0)
      rw [hx] at hc
      refine Cells.sl hl.symm hn (fun h => by cases h) k1 (fun _ => k2) hsz (fun i hi' => ?_)
      obtain ⟨u, q1, q2⟩ := hc i (by omega)
      exact ⟨u, q1, ih i (by omega) hi' q2⟩
  | agg hl h ih =>
    intro v hv
    cases hv with
    | agg hn h2 => exact .agg (by omega) (fun i hi => ih i (by omega) hi (h2 i (by omega)))
  | tup hl h ih =>
    intro v hv
    cases hv with
    | tup hn h2 => exact .tup (by omega) (fun i hi => ih i (by omega) hi (h2 i (by omega)))
def LowH (k : Nat) (σ : Heap) : Prop := ∀ (id ver : Nat) x, id < k → σ[id]? = some (ver, some x) → LowBox k x
theorem LowH.of {k : Nat} {σ : Heap} (h : ∀ e ∈ σ.take k, ∀ x, e.2 = some x → LowBox k x) : LowH k σ := fun id ver x hk hid =>
  h (ver, some x) (by
    rw [List.mem_iff_getElem?]
    exact ⟨id, by rw [List.getElem?_take, if_pos hk]; exact hid⟩) x rfl
def TR (k0 : Nat) (R : Out → Heap → Prop) (o : Out) (σ : Heap) : Prop :=
  ∃ k, k0 ≤ k ∧ LowH k σ ∧ match o with
    | .ret v => ∃ res, FzT k σ v res ∧ R (.ret res) (σ.take k)
    | .panic v => Low k v ∧ R (.panic v) (σ.take k)
theorem trunc {cx : Cx} {r r' : Rl} {σ σ' : Heap} {w w' : World} {k : Nat} (hi : Inv cx r σ w) (hi' : Inv cx r' σ' w') (hx : Ext r σ w r' σ' w') (hk : σ.length ≤ k) (hl : LowH k σ') :
    ∃ r'', Inv cx r'' (σ'.take k) w' ∧ Ext r σ w r'' (σ'.take k) w' ∧ (∀ v a, Low k a → VRel r' w' v a → VRel r'' w' v a) ∧ ∀ v a a', FzT k σ' a a' → VRel r' w' v a → VRel r'' w' v a' := by
  let F : Nat → Prop := fun b => ∃ (id ver : Nat) (x : Box) (o : Nat), k ≤ id ∧ σ'[id]? = some (ver, some x) ∧ r'.ρ id ver = some (b, o)
  let r2 : Rl := { S := fun b => r'.S b ∨ F b, I := fun b => r'.I b ∨ F b, ρ := fun id ver => if id < k then r'.ρ id ver else none }
  have hS : ∀ b, r'.S b → r2.S b := fun b h => Or.inl h
  have hI : ∀ b, r'.I b → r2.I b := fun b h => Or.inl h
  have hρ : ∀ id ver p, id < k → r'.ρ id ver = some p → r2.ρ id ver = some p := fun id ver p h1 h2 => by simp only [r2, if_pos h1]; exact h2
  have hρ2 : ∀ {id ver p}, r2.ρ id ver = some p → id < k ∧ r'.ρ id ver = some p := by
    intro id ver p h
    simp only [r2] at h
    split at h
    · exact ⟨by assumption, h⟩
    · cases h
  have hget : ∀ {id : Nat} {e : Nat × Option Box}, (σ'.take k)[id]? = some e → id < k ∧ σ'[id]? = some e := by
    intro id e h
    rw [List.getElem?_take] at h
    split at h
    · exact ⟨by assumption, h⟩
    · cases h
  have hnew : ∀ b, F b → w.heap.size ≤ b := by
    rintro b ⟨id, ver, x, o, h1, h2, h3⟩
    rcases hx.blk id ver b o h3 with ⟨v1, o1, h4⟩ | h4
    · obtain ⟨⟨cur, y, h5, _⟩, _⟩ := hi.lt _ _ _ _ h4
      rw [List.getElem?_eq_none (by omega)] at h5; cases h5
    · exact h4
  have hF : ∀ b, F b → b < w'.heap.size := by
    rintro b ⟨id, ver, x, o, h1, h2, h3⟩
    exact (hi'.lt _ _ _ _ h3).2
  have hlive : ∀ b, Live r2 (σ'.take k) b → Live r' σ' b ∧ ¬ F b := by
    rintro b ⟨id, ver, x, o, h1, h2⟩
    obtain ⟨h3, h4⟩ := hget h1
    obtain ⟨_, h5⟩ := hρ2 h2
    refine ⟨⟨id, ver, x, o, h4, h5⟩, ?_⟩
    rintro ⟨id', ver', x', o', q1, q2, q3⟩
    have := hi'.inj _ _ _ _ _ _ _ _ _ h4 q2 h5 q3
    omega
  refine ⟨r2, ⟨fun id ver x h => ?_, fun id ver b o h => ?_, fun id id' ver ver' x x' b o o' h1 h2 h3 h4 => hi'.inj id id' ver ver' x x' b o o' (hget h1).2 (hget h2).2 (hρ2 h3).2 (hρ2 h4).2, fun b h hb => ?_, fun b hb => ?_, fun b hb => ?_, ?_⟩,
    ⟨fun b h => .inl (hx.S b h), fun b h => .inl (hx.I b h), fun b hb => ?_, fun b hb => ?_, fun id ver p h => ?_, hx.hs, ?_, hx.same, fun b h => hx.liv b (hlive b h).1, hx.size, hx.os, hx.output, hx.tape, fun id ver b o h => hx.blk id ver b o (hρ2 h).2⟩, fun v a h hv => hv.low h hS hI hρ, fun v a a' h hv => ?_⟩
  · obtain ⟨h1, h2⟩ := hget h
    rcases hi'.box id ver x h2 with ⟨b, o, h3, h4⟩ | ⟨h3, h4⟩
    · exact .inl ⟨b, o, hρ _ _ _ h1 h3, h4.low (hl id ver x h1 h2) hS hI hρ⟩
    · exact .inr ⟨by simp only [r2, if_pos h1]; exact h3, h4⟩
  · obtain ⟨h1, h2⟩ := hρ2 h
    obtain ⟨⟨cur, x, h3, h4⟩, h5⟩ := hi'.lt id ver b o h2
    exact ⟨⟨cur, x, by rw [List.getElem?_take, if_pos h1]; exact h3, h4⟩, h5⟩
  · obtain ⟨h1, h2⟩ := hlive b h
    rcases hb with hb | hb
    · exact hi'.imm b h1 hb
    · exact h2 hb
  · rcases hb with hb | hb
    · exact hi'.Ilt b hb
    · exact hF b hb
  · rcases hb with hb | hb
    · exact .inl (hi'.SI b hb)
    · exact .inr hb
  · exact hi'.glob.free (r' := r2) hS (fun b hb => hb.elim (fun h => .inl (hi'.SI b h)) .inr)
  · rcases hb with hb | hb
    · exact hx.Sf b hb
    · exact .inr (hnew b hb)
  · rcases hb with hb | hb
    · exact hx.If b hb
    · exact .inr (.inr (hnew b hb))
  · obtain ⟨⟨cur, x, h1, _⟩, _⟩ := hi.lt id ver p.1 p.2 h
    refine hρ _ _ _ ?_ (hx.ρ _ _ _ h)
    rcases Nat.lt_or_ge id σ.length with h' | h'
    · omega
    · rw [List.getElem?_eq_none h'] at h1; cases h1
  · have := hx.σl
    rw [List.length_take]; omega
  · exact h.rel hi' hS hI hρ (fun id ver x b o h1 h2 h3 => ⟨.inr ⟨id, ver, x, o, h1, h2, h3⟩, .inr ⟨id, ver, x, o, h1, h2, h3⟩⟩) hv
theorem callOk_trunc {cx : Cx} {f : FuncId} {args : List AV} {σ : Heap} {R : Out → Heap → Prop} (h : CallOk cx f args σ (TR σ.length R)) : CallOk cx f args σ R := by
  refine ⟨h.1, fun r w vs hi hv => ?_⟩
  refine (h.2 r w vs hi hv).mono fun e w' ⟨o, σ', r', ⟨k, hk, hl, hR⟩, hor, hi', hx'⟩ => ?_
  obtain ⟨r2, q1, q2, q3, q4⟩ := trunc hi hi' hx' hk hl
  cases o with
  | ret v =>
    obtain ⟨res, hz, hR⟩ := hR
    cases e with
    | returned u => exact ⟨.ret res, _, r2, hR, q4 _ _ _ hz hor, q1, q2⟩
    | panicked chain => exact hor.elim
    | outgrown => exact hor.elim
  | panic v =>
    obtain ⟨hz, hR⟩ := hR
    cases e with
    | returned u => exact hor.elim
    | panicked chain =>
      obtain ⟨u, hu1, hu2⟩ := hor
      exact ⟨.panic v, _, r2, hR, ⟨u, hu1, q3 _ _ hz hu2⟩, q1, q2⟩
    | outgrown => exact hor.elim
theorem callOk_introT {cx : Cx} {f : FuncId} {fn : Func} {c : Code} {n : Nat} {args : List AV} {σ : Heap} {R : Out → Heap → Prop} (he : Enters cx.P f) (hf : cx.P.funcs[f]? = some fn) (hb : fn.body = some c) (hn : fn.ntmps = n) (ha : Nat.ble args.length n = true)
    (h : ∀ B, S cx n B [.code c] (retQ cx fn (TR σ.length R)) (enterFr 0 args) σ) : CallOk cx f args σ R :=
  callOk_trunc (callOk_intro he hf hb hn ha h)
end Go.Ab
end
section
set_option linter.unusedVariables false
set_option linter.unusedSimpArgs false
namespace Go.Ab
open Go
def StepX (cx : Cx) (n : Nat) (all : Array Oper) (σ σ' : Heap) (K : List Nat) (fr : Fr) (o : Oper) (v : AV) : Prop :=
  dstOk n o.dst = true ∧ ((guardA all o K fr = some false ∧ v = .tup [] ∧ σ' = σ) ∨ (guardA all o K fr = some true ∧ ∀ r a w, Inv cx r σ w → FRel r w n fr a → ∀ Q, o.wp cx.P a w (fun a' w' => ∃ r' v', a' = a.put o.dst v' ∧ VRel r' w' v' v ∧ Inv cx r' σ' w' ∧ Ext r σ w r' σ' w') Q))
theorem StepD.x {cx : Cx} {n : Nat} {all : Array Oper} {σ : Heap} {K : List Nat} {fr : Fr} {o : Oper} {v : AV} (h : StepD cx n all σ K fr o v) : StepX cx n all σ σ K fr o v := by
  refine ⟨h.1, ?_⟩
  rcases h.2 with ⟨h1, h2⟩ | h1
  · exact .inl ⟨h1, h2, rfl⟩
  · exact .inr h1
def hpC (σ σ' : Heap) (jc : Nat) (listed : Array Bool) : Heap := bif listed.getD jc false then σ' else σ
theorem hpC_in {σ σ' : Heap} {jc : Nat} {listed : Array Bool} (h : Listed listed jc) : hpC σ σ' jc listed = σ' := by
  have h : listed.getD jc false = true := h
  unfold hpC; rw [h]; rfl
theorem hpC_out {σ σ' : Heap} {jc : Nat} {listed : Array Bool} (h : listed.getD jc false = false) : hpC σ σ' jc listed = σ := by
  unfold hpC; rw [h]; rfl
theorem hpC_set {σ σ' : Heap} {i : Nat} {listed : Array Bool} (h : i < listed.size) : hpC σ σ' i (listed.setIfInBounds i true) = σ' :=
  hpC_in ((listed_set h).2 (.inl rfl))
theorem hpC_same {σ σ' : Heap} {i jc : Nat} {listed : Array Bool} (h : i < listed.size) (hn : i ≠ jc) : hpC σ σ' jc (listed.setIfInBounds i true) = hpC σ σ' jc listed := by
  unfold hpC
  have : (listed.setIfInBounds i true).getD jc false = listed.getD jc false := by
    simp only [Array.getD_eq_getD_getElem?, Array.getElem?_setIfInBounds, if_neg hn]
  rw [this]
section
variable {cx : Cx} {n : Nat} {B : Bs} {k : List AI} {Q : Post} {fr : Fr} {σ : Heap}
theorem wpAny_frontC {σ' : Heap} {jc : Nat} {ops : Array Oper} {m : Nat} {vals : List AV} {K : List Nat} {Q' : Exit → Act → World → Prop} (hjc : jc < m) (hmN : m ≤ ops.size) (hlen : vals.length = m)
    (hread : ∀ j o t, j < m → ops.toList[j]? = some o → t ∈ slotsOf ops.toList o → readOk ops.toList m j t = true)
    (huniq : ∀ i j d, i < m → j < m → dstOf ops.toList i = some d → dstOf ops.toList j = some d → i = j)
    (hch : ∀ j, m < j → j < ops.size → edge ops.toList j (j - 1) = true) (hlo : ∀ j i, edge ops.toList j i = true → i < j)
    (hcl : m < ops.size → ∀ i, i < m → ∃ k, i < k ∧ k ≤ m ∧ edge ops.toList k i = true)
    (hstep : ∀ (j : Nat) o v, j < m → ops.toList[j]? = some o → vals[j]? = some v → (j ≠ jc → ∀ b : Bool, StepX cx n ops (bif b then σ' else σ) (bif b then σ' else σ) K (restr ops.toList o (ovl (ops.toList.take j) (vals.take j) fr)) o v) ∧ (j = jc → StepX cx n ops σ σ' K (restr ops.toList o (ovl (ops.toList.take j) (vals.take j) fr)) o v))
    (hend : ∀ r a w, Inv cx r σ' w → FRel r w n (ovl (ops.toList.take m) vals fr) a → Dfs B a → Ext B.r B.σ B.w r σ' w → wpList cx.P ops Q' (ops.toList.drop m) a w) :
    ∀ (f : Nat) (listed : Array Bool) (r : Rl) (a : Act) (w : World), listed.size = ops.size → unl listed = f → Down ops.toList listed → (∀ j, m ≤ j → ¬ Listed listed j) →
      FL r w n fr ops.toList m vals listed a → Inv cx r (hpC σ σ' jc listed) w → Dfs B a → Ext B.r B.σ B.w r (hpC σ σ' jc listed) w → wpAny cx.P .any ops Q' f listed a w := by
  have ovlN : ∀ i, i ≤ m → ∀ vs, (ovl (ops.toList.take i) (vals.take i) fr).get n = .mark vs → fr.get n = .mark vs := by
    intro i him vs hm
    rcases ovl_get (ops.toList.take i) (vals.take i) fr n (by simp [hlen]; omega) with ⟨i', o', v', k1, k2, k3, k4⟩ | ⟨k1, k2⟩
    · exfalso
      have hi'i : i' < i := by
        rcases Nat.lt_or_ge i' i with h' | h'
        · exact h'
        · rw [List.getElem?_eq_none (by simp; omega)] at k1; cases k1
      rw [List.getElem?_take_of_lt hi'i] at k1 k3
      have hds : dstOk n o'.dst = true := by
        by_cases hij : i' = jc
        · exact ((hstep i' o' v' (by omega) k1 k3).2 hij).1
        · exact ((hstep i' o' v' (by omega) k1 k3).1 hij false).1
      rw [k2] at hds
      have := blt_lt hds
      omega
    · rw [← k2]; exact hm
  have fin : ∀ (f : Nat) (listed : Array Bool) (r : Rl) (a : Act) (w : World), listed.size = ops.size → unl listed = f → (∀ j, j < m → Listed listed j) → (∀ j, m ≤ j → ¬ Listed listed j) →
      FL r w n fr ops.toList m vals listed a → Inv cx r (hpC σ σ' jc listed) w → Dfs B a → Ext B.r B.σ B.w r (hpC σ σ' jc listed) w → wpAny cx.P .any ops Q' f listed a w := by
    intro f listed r a w hs hf hall hno hfl hi hd hx
    rw [hpC_in (hall jc hjc)] at hi hx
    have hcount : unl listed + m = ops.size := by
      have hl : listed.toList = List.replicate m true ++ List.replicate (ops.size - m) false := by
        apply List.ext_getElem
        · simp; omega
        · intro j h1 h2
          have hj : j < listed.size := by simpa using h1
          have h3 : listed.getD j false = listed.toList[j] := by simp [Array.getD_eq_getD_getElem?, hj]
          by_cases hjm : j < m
          · rw [List.getElem_append_left (by simpa using hjm), List.getElem_replicate, ← h3]; exact hall j hjm
          · rw [List.getElem_append_right (by simp; omega), List.getElem_replicate, ← h3]
            have := hno j (by omega)
            unfold Listed at this
            simpa using this
      unfold unl
      rw [hl, List.countP_append, List.countP_replicate, List.countP_replicate]
      simp; omega
    refine wpAny_tail hch hlo f m listed a w (by omega) (Nat.le_refl m) hs (fun i hi' => ⟨fun h => ?_, fun h => hall i h⟩) (hend r a w hi ⟨hfl.size, fun t => ?_, fun vs hm => ?_⟩ hd hx)
    case refine_3 =>
      refine hfl.defs vs (ovlN m (Nat.le_refl _) vs ?_)
      rw [show vals.take m = vals from List.take_of_length_le (by omega)]
      exact hm
    · rcases Nat.lt_or_ge i m with h' | h'
      · exact h'
      · exact absurd h (hno i h')
    · rcases ovl_get (ops.toList.take m) vals fr t (by simp [hlen]; omega) with ⟨i, o, v, h1, h2, h3, h4⟩ | ⟨h1, h2⟩
      · rw [h4]
        have him : i < m := by
          rcases Nat.lt_or_ge i m with h' | h'
          · exact h'
          · rw [List.getElem?_eq_none (by simp; omega)] at h1; cases h1
        rw [List.getElem?_take_of_lt him] at h1
        exact hfl.done i t v him (hall i him) (by simp [dstOf, h1, h2]) h3
      · rw [h2]
        refine hfl.rest t (fun j hj _ hdj => ?_)
        obtain ⟨o, ho, hod⟩ := Option.bind_eq_some_iff.1 hdj
        exact h1 j o (by rw [List.getElem?_take_of_lt hj]; exact ho) hod
  intro f
  induction f with
  | zero =>
    intro listed r a w hs hf hdn hno hfl hi hd hx
    refine fin 0 listed r a w hs hf (fun j hj => ?_) hno hfl hi hd hx
    rcases hb : listed.getD j false with _ | _
    · have := unl_set (by omega) hb
      omega
    · exact hb
  | succ f ih =>
    intro listed r a w hs hf hdn hno hfl hi hd hx
    by_cases hall : ∀ j, j < m → Listed listed j
    · exact fin (f + 1) listed r a w hs hf hall hno hfl hi hd hx
    have hex : ∃ j, j < m ∧ ¬ Listed listed j := by
      apply Classical.byContradiction
      intro h
      exact hall (fun j hj => Classical.byContradiction fun hl => h ⟨j, hj, hl⟩)
    refine ⟨fun h0 => ?_, fun i hir => ?_⟩
    · obtain ⟨j, h1, h2, h3⟩ := exists_least m hex
      have hjr : j ∈ Region.ready .any ops listed := by
        refine mem_ready.2 ⟨?_, ops[j]'(by omega), Array.getElem?_eq_getElem _, fun e he hb => ?_⟩
        · rw [listed_true (by omega)]; simpa [Listed] using h2
        · have h4 : e.on < j := hlo j e.on (edge_iff.2 ⟨ops[j]'(by omega), Array.getElem?_eq_getElem _, e, he, hb, rfl⟩)
          exact Classical.byContradiction fun h5 => h3 e.on h4 h5
      rw [h0] at hjr; cases hjr
    · obtain ⟨h0, o, ho, hedges⟩ := mem_ready.1 hir
      have hilt := (Array.getElem?_eq_some_iff.1 ho).1
      rw [listed_true (by omega)] at h0
      have hed : ∀ j, edge ops.toList i j = true → Listed listed j := by
        intro j hj
        obtain ⟨o', ho', e, he, hb, hon⟩ := edge_iff.1 hj
        rw [ho] at ho'; cases ho'
        rw [← hon]; exact hedges e he hb
      have him : i < m := by
        rcases Nat.lt_or_ge i m with h' | h'
        · exact h'
        · exfalso
          rcases Nat.eq_or_lt_of_le h' with h'' | h''
          · subst h''
            refine hall (fun j hj => ?_)
            have key : ∀ d j, d + j = m → j < m → Listed listed j := by
              intro d
              induction d using Nat.strongRecOn with
              | _ d ihd =>
                intro j hdj hj
                obtain ⟨k, h1, h2, h3⟩ := hcl hilt j hj
                rcases Nat.eq_or_lt_of_le h2 with h4 | h4
                · subst h4; exact hed j h3
                · exact hdn k j (ihd (m - k) (by omega) k (by omega) h4) h3
            exact key (m - j) j (by omega) hj
          · exact hno (i - 1) (by omega) (hed _ (hch i h'' hilt))
      have hol : ops.toList[i]? = some o := by simpa using ho
      obtain ⟨v, hv⟩ : ∃ v, vals[i]? = some v := ⟨vals[i]'(by omega), List.getElem?_eq_getElem _⟩
      have hX : StepX cx n ops (hpC σ σ' jc listed) (hpC σ σ' jc (listed.setIfInBounds i true)) K (restr ops.toList o (ovl (ops.toList.take i) (vals.take i) fr)) o v := by
        by_cases hij : i = jc
        · subst hij
          rw [hpC_out h0, hpC_set (by omega)]
          exact (hstep i o v him hol hv).2 rfl
        · rw [hpC_same (by omega) hij]
          exact (hstep i o v him hol hv).1 hij (listed.getD jc false)
      obtain ⟨hdst, hst⟩ := hX
      have hnl : ¬ Listed listed i := by simp [Listed, h0]
      have hfr : FRel r w n (restr ops.toList o (ovl (ops.toList.take i) (vals.take i) fr)) a := by
        refine ⟨hfl.size, fun t => ?_, fun vs hm => ?_⟩
        case refine_2 =>
          unfold restr at hm
          rcases restr_get (slotsOf ops.toList o) (ovl (ops.toList.take i) (vals.take i) fr) n with h | ⟨h1, h2⟩
          · rw [h] at hm; cases hm
          · rw [h2] at hm
            exact hfl.defs vs (ovlN i (by omega) vs hm)
        unfold restr
        rcases restr_get (slotsOf ops.toList o) (ovl (ops.toList.take i) (vals.take i) fr) t with h | ⟨h1, h2⟩
        · rw [h]; exact .top
        · rw [h2]
          have hro := hread i o t him hol h1
          have hrd : ∀ i', i' < m → dstOf ops.toList i' = some t → (i' < i → edge ops.toList i i' = true) ∧ (i < i' → edge ops.toList i' i = true) := by
            intro i' hi' hd'
            have := allB_mem hro _ (List.mem_map.2 ⟨i', List.mem_range.2 hi', rfl⟩)
            rw [eqDst_iff.2 hd'] at this
            simp only at this
            constructor
            · intro hlt
              rw [lt_blt hlt] at this
              exact this
            · intro hlt
              rw [show Nat.blt i' i = false by cases hbb : Nat.blt i' i with | false => rfl | true => (have := blt_lt hbb; omega), show Nat.beq i' i = false by cases hbb : Nat.beq i' i with | false => rfl | true => (have := Nat.eq_of_beq_eq_true hbb; omega)] at this
              exact this
          rcases ovl_get (ops.toList.take i) (vals.take i) fr t (by simp [hlen]; omega) with ⟨i', o', v', k1, k2, k3, k4⟩ | ⟨k1, k2⟩
          · rw [k4]
            have hi'i : i' < i := by
              rcases Nat.lt_or_ge i' i with h' | h'
              · exact h'
              · rw [List.getElem?_eq_none (by simp; omega)] at k1; cases k1
            rw [List.getElem?_take_of_lt hi'i] at k1 k3
            have hd' : dstOf ops.toList i' = some t := by simp only [dstOf, k1, Option.bind_some, k2]
            exact hfl.done i' t v' (by omega) (hed _ ((hrd i' (by omega) hd').1 hi'i)) hd' k3
          · rw [k2]
            refine hfl.rest t (fun j hj hlj hdj => ?_)
            rcases Nat.lt_trichotomy j i with h' | h' | h'
            · obtain ⟨oj, hoj, hod⟩ := Option.bind_eq_some_iff.1 hdj
              exact k1 j oj (by rw [List.getElem?_take_of_lt h']; exact hoj) hod
            · subst h'; exact hnl hlj
            · exact hnl (hdn j i hlj ((hrd j hj hdj).2 h'))
      have next : ∀ (r' : Rl) (w' : World) (v' : Value), VRel r' w' v' v → Inv cx r' (hpC σ σ' jc (listed.setIfInBounds i true)) w' → Ext r (hpC σ σ' jc listed) w r' (hpC σ σ' jc (listed.setIfInBounds i true)) w' → wpAny cx.P .any ops Q' f (listed.setIfInBounds i true) (a.put o.dst v') w' := by
        intro r' w' v' hv' hi' hx'
        have hun := unl_set (by omega) h0
        refine ih _ r' _ w' (by simpa using hs) (by omega) (fun j l hj he => ?_) (fun j hj hl => ?_) ⟨?_, fun j d u hj hl hdj hu => ?_, fun t ht => ?_, fun vs hm => by rw [Act.put_defers]; exact (hfl.defs vs hm).mono (hx'.grow hi)⟩ hi' (hd.put _ _) (hx.trans hx')
        · rw [listed_set (by omega)] at hj ⊢
          rcases hj with rfl | hj
          · exact .inr (hed l he)
          · exact .inr (hdn j l hj he)
        · rw [listed_set (by omega)] at hl
          rcases hl with rfl | hl
          · omega
          · exact hno j hj hl
        · cases hod : o.dst <;> simp [Act.put, hfl.size]
        · have hg := hx'.grow hi
          rw [listed_set (by omega)] at hl
          by_cases hji : j = i
          · subst hji
            rw [hv] at hu; cases hu
            have hod : o.dst = some d := by simpa [dstOf, hol] using hdj
            rw [hod]
            rw [hod] at hdst
            simp only [Act.put]
            rw [getD_setIfInBounds (by rw [hfl.size]; exact blt_lt hdst), if_pos rfl]
            exact hv'
          · have hl' := hl.resolve_left hji
            have hold := (hfl.done j d u hj hl' hdj hu).mono hg
            cases hod : o.dst with
            | none => exact hold
            | some d' =>
              have hne : d' ≠ d := fun e => hji (huniq j i d hj him hdj (by subst e; simp [dstOf, hol, hod]))
              rw [hod] at hdst
              simp only [Act.put]
              rw [getD_setIfInBounds (by rw [hfl.size]; exact blt_lt hdst), if_neg hne]
              exact hold
        · have hg := hx'.grow hi
          have hold := (hfl.rest t (fun j hj hl => ht j hj ((listed_set (by omega)).2 (.inr hl)))).mono hg
          have hti := ht i him ((listed_set (by omega)).2 (.inl rfl))
          cases hod : o.dst with
          | none => exact hold
          | some d' =>
            have hne : d' ≠ t := fun e => hti (by subst e; simp [dstOf, hol, hod])
            rw [hod] at hdst
            simp only [Act.put]
            rw [getD_setIfInBounds (by rw [hfl.size]; exact blt_lt hdst), if_neg hne]
            exact hold
      unfold wpOp
      simp only [ho]
      rcases hst with ⟨hg, rfl, hσ⟩ | ⟨hg, hgo⟩
      · rw [guardA_wanted (cx := cx) hfr hg]
        simp only [Bool.false_eq_true, if_false]
        exact next r w undef (.tup rfl (fun i h => absurd h (by simp))) (by rw [hσ]; exact hi) (by rw [hσ]; exact Ext.refl _ _ _)
      · rw [guardA_wanted (cx := cx) hfr hg]
        simp only [if_true]
        refine .inl (Oper.wp_mono (fun a' w' h => ?_) (hgo r a w hi hfr Q'))
        obtain ⟨r', v', rfl, h2, h3, h4⟩ := h
        exact next r' w' v' h2 h3 h4
def noA : List Nat → Bool
  | [] => false
  | n :: _ => Nat.beq n 1000001
def aOpK (cx : Cx) (K : List Nat) (dst : Option Nat) (o : Op) (fr : Fr) (σ : Heap) : Option (List Prop × AV × Heap) := match noA K with
  | true => none
  | false => aOp cx [] dst o fr σ
theorem aOpK_some {cx : Cx} {K : List Nat} {dst : Option Nat} {o : Op} {fr : Fr} {σ : Heap} {y : List Prop × AV × Heap} (h : aOpK cx K dst o fr σ = some y) : aOp cx [] dst o fr σ = some y := by
  unfold aOpK at h
  split at h
  · cases h
  · exact h
def runC (cx : Cx) (K : List Nat) (n : Nat) (all : Array Oper) (ops : List Oper) (σ σ' : Heap) (jc : Nat) : List Oper → Nat → Fr → List AV → Option (List Prop × List AV × Fr)
  | [], _, fr, rs => some ([], [], fr)
  | o :: r, i, fr, rs => match Nat.beq i jc with
    | true => match rs with
      | v :: rs => match dstOk n o.dst with
        | true => match guardA all o K (restr ops o fr) with
          | some true => match callA cx (restr ops o fr) o.op with
            | some (f, args) => match runC cx K n all ops σ σ' jc r (i + 1) (setA o.dst v fr) rs with
              | some (D, vs, fr') => some ((∃ args', CallOk cx f args' σ (fun out σ1 => out = .ret v ∧ σ1 = σ') ∧ args = args') :: D, v :: vs, fr')
              | none => none
            | none => match aOpK cx K o.dst o.op (restr ops o fr) σ with
              | some (C', v', σ1) => match runC cx K n all ops σ σ' jc r (i + 1) (setA o.dst v fr) rs with
                | some (D, vs, fr') => some (C' ++ ((v' = v) :: (σ1 = σ') :: D), v :: vs, fr')
                | none => none
              | none => match runC cx K n all ops σ σ' jc r (i + 1) (setA o.dst v fr) rs with
                | some (D, vs, fr') => some ((OpSpec cx n (restr ops o fr) σ o v σ') :: D, v :: vs, fr')
                | none => none
          | _ => none
        | false => none
      | [] => none
    | false => match oneD cx K n all σ o (restr ops o fr) rs with
      | some (C, v, rs') => match oneD cx K n all σ' o (restr ops o fr) rs with
        | some (C', v', _) => forceV v fun v => match runC cx K n all ops σ σ' jc r (i + 1) (setA o.dst v fr) rs' with
          | some (D, vs, fr') => some (C ++ (C' ++ ((v' = v) :: D)), v :: vs, fr')
          | none => none
        | none => none
      | none => none
theorem callC_step {σ' : Heap} {K : List Nat} {all : Array Oper} {o : Oper} {f : FuncId} {args : List AV} {v : AV} (hd : dstOk n o.dst = true) (hg : guardA all o K fr = some true) (hc : callA cx fr o.op = some (f, args))
    (h : CallOk cx f args σ (fun out σ1 => out = .ret v ∧ σ1 = σ')) : StepX cx n all σ σ' K fr o v := by
  refine ⟨hd, .inr ⟨hg, fun r a w hi hf Q => ?_⟩⟩
  obtain ⟨vs, h1, h2⟩ := callA_run hi hf hc h.1
  unfold Oper.wp
  rw [h1, Oper.upon_enter]
  refine (h.2 r w vs hi h2).mono fun e w' ⟨out, σ1, r', ⟨ho, hσ⟩, hor, hi', hx'⟩ => ?_
  subst ho; subst hσ
  cases e with
  | returned u => exact ⟨r', u, rfl, hor, hi', hx'⟩
  | panicked chain => exact hor.elim
  | outgrown => exact hor.elim
theorem opC_step {σ' : Heap} {K : List Nat} {all : Array Oper} {o : Oper} {C : List Prop} {v : AV} (hd : dstOk n o.dst = true) (hg : guardA all o K fr = some true) (ha : aOp cx [] o.dst o.op fr σ = some (C, v, σ')) (hC : AllP C) : StepX cx n all σ σ' K fr o v := by
  refine ⟨hd, .inr ⟨hg, fun r a w hi hf Q => ?_⟩⟩
  obtain ⟨r', w', v', hrun, hv, hi', hx'⟩ := aOp_run hi hf ha hC
  unfold Oper.wp
  rcases hrun with hrun | ⟨hrun, hu⟩
  · rw [hrun]; exact ⟨r', v', rfl, hv, hi', hx'⟩
  · rw [hrun]; subst hu; exact ⟨r', _, rfl, hv, hi', hx'⟩
theorem specC_step {σ' : Heap} {K : List Nat} {all : Array Oper} {o : Oper} {v : AV} (hd : dstOk n o.dst = true) (hg : guardA all o K fr = some true) (h : OpSpec cx n fr σ o v σ') : StepX cx n all σ σ' K fr o v := by
  refine ⟨hd, .inr ⟨hg, fun r a w hi hf Q => ?_⟩⟩
  obtain ⟨r', w', v', hrun, hv, hi', hx'⟩ := h r a w hi hf
  unfold Oper.wp
  rcases hrun with hrun | ⟨hrun, hu⟩
  · rw [hrun]; exact ⟨r', v', rfl, hv, hi', hx'⟩
  · rw [hrun]; subst hu; exact ⟨r', _, rfl, hv, hi', hx'⟩
theorem runC_spec {σ' : Heap} {jc : Nat} {K : List Nat} {all : Array Oper} {ops : List Oper} : ∀ {l : List Oper} {i : Nat} {fr fr' : Fr} {rs vals : List AV} {C : List Prop}, runC cx K n all ops σ σ' jc l i fr rs = some (C, vals, fr') → AllP C →
    vals.length = l.length ∧ fr' = ovl l vals fr ∧ ∀ (j : Nat) (o : Oper) (v : AV), l[j]? = some o → vals[j]? = some v →
      (i + j ≠ jc → ∀ b : Bool, StepX cx n all (bif b then σ' else σ) (bif b then σ' else σ) K (restr ops o (ovl (l.take j) (vals.take j) fr)) o v) ∧ (i + j = jc → StepX cx n all σ σ' K (restr ops o (ovl (l.take j) (vals.take j) fr)) o v)
  | [], i, fr, fr', rs, vals, C, h, hC => by
    simp only [runC, Option.some.injEq, Prod.mk.injEq] at h
    obtain ⟨rfl, rfl, rfl⟩ := h
    exact ⟨rfl, rfl, fun j o v h => by simp at h⟩
  | o :: l, i, fr, fr', rs, vals, C, h, hC => by
    simp only [runC] at h
    split at h
    · rename_i hb
      have hij : i = jc := Nat.eq_of_beq_eq_true hb
      split at h
      case h_2 => cases h
      rename_i v rs'
      split at h
      case h_2 => cases h
      rename_i hds
      split at h
      case h_2 => cases h
      rename_i hg
      split at h
      case h_2 =>
        split at h
        case h_2 =>
          split at h
          case h_2 => cases h
          rename_i D vs fr1 h2
          simp only [Option.some.injEq, Prod.mk.injEq] at h
          obtain ⟨rfl, rfl, rfl⟩ := h
          obtain ⟨hsp, hD⟩ := hC
          obtain ⟨k1, k2, k3⟩ := runC_spec h2 hD
          refine ⟨by simp [k1], by rw [k2]; rfl, fun j oj vj hj hvj => ?_⟩
          cases j with
          | zero =>
            simp only [List.getElem?_cons_zero, Option.some.injEq] at hj hvj
            subst hj; subst hvj
            exact ⟨fun h => absurd hij h, fun _ => specC_step hds hg hsp⟩
          | succ j =>
            simp only [List.getElem?_cons_succ] at hj hvj
            have := k3 j oj vj hj hvj
            rw [show i + 1 + j = i + (j + 1) by omega] at this
            exact this
        rename_i C' v' σ1 ha
        have ha := aOpK_some ha
        split at h
        case h_2 => cases h
        rename_i D vs fr1 h2
        simp only [Option.some.injEq, Prod.mk.injEq] at h
        obtain ⟨rfl, rfl, rfl⟩ := h
        obtain ⟨hC', hv, hσ, hD⟩ := AllP_append hC
        subst hv; subst hσ
        obtain ⟨k1, k2, k3⟩ := runC_spec h2 hD
        refine ⟨by simp [k1], by rw [k2]; rfl, fun j oj vj hj hvj => ?_⟩
        cases j with
        | zero =>
          simp only [List.getElem?_cons_zero, Option.some.injEq] at hj hvj
          subst hj; subst hvj
          exact ⟨fun h => absurd hij h, fun _ => opC_step hds hg ha hC'⟩
        | succ j =>
          simp only [List.getElem?_cons_succ] at hj hvj
          have := k3 j oj vj hj hvj
          rw [show i + 1 + j = i + (j + 1) by omega] at this
          exact this
      rename_i f args hc
      split at h
      case h_2 => cases h
      rename_i D vs fr1 h2
      simp only [Option.some.injEq, Prod.mk.injEq] at h
      obtain ⟨rfl, rfl, rfl⟩ := h
      obtain ⟨⟨args', hcall, rfl⟩, hD⟩ := hC
      obtain ⟨k1, k2, k3⟩ := runC_spec h2 hD
      refine ⟨by simp [k1], by rw [k2]; rfl, fun j oj vj hj hvj => ?_⟩
      cases j with
      | zero =>
        simp only [List.getElem?_cons_zero, Option.some.injEq] at hj hvj
        subst hj; subst hvj
        exact ⟨fun h => absurd hij h, fun _ => callC_step hds hg hc hcall⟩
      | succ j =>
        simp only [List.getElem?_cons_succ] at hj hvj
        have := k3 j oj vj hj hvj
        rw [show i + 1 + j = i + (j + 1) by omega] at this
        exact this
    · rename_i hb
      have hij : i ≠ jc := fun e => by rw [e, Nat.beq_refl] at hb; cases hb
      split at h
      case h_2 => cases h
      rename_i C1 v rs' h1
      split at h
      case h_2 => cases h
      rename_i C1' v' _ h1'
      rw [forceV_eq] at h
      split at h
      case h_2 => cases h
      rename_i D vs fr1 h2
      simp only [Option.some.injEq, Prod.mk.injEq] at h
      obtain ⟨rfl, rfl, rfl⟩ := h
      obtain ⟨hC1, hD1⟩ := AllP_append hC
      obtain ⟨hC1', hD2⟩ := AllP_append hD1
      obtain ⟨hv, hD⟩ := hD2
      subst hv
      obtain ⟨k1, k2, k3⟩ := runC_spec h2 hD
      refine ⟨by simp [k1], by rw [k2]; rfl, fun j oj vj hj hvj => ?_⟩
      cases j with
      | zero =>
        simp only [List.getElem?_cons_zero, Option.some.injEq] at hj hvj
        subst hj; subst hvj
        refine ⟨fun _ b => ?_, fun h => absurd h hij⟩
        cases b with
        | true => exact (oneD_spec h1' hC1').x
        | false => exact (oneD_spec h1 hC1).x
      | succ j =>
        simp only [List.getElem?_cons_succ] at hj hvj
        have := k3 j oj vj hj hvj
        rw [show i + 1 + j = i + (j + 1) by omega] at this
        exact this
theorem S_drawC {id : Nat} (σ' : Heap) (jc : Nat) {ops : Array Oper} {vals : List AV} {C : List Prop} {fr' : Fr} (m : Nat) (K : List Nat) (rs : List AV) (hP : cx.P.follows .mixedOrders = true) (hchk : drawOk ops.toList m = true) (hmN : Nat.ble m ops.size = true) (hjc : Nat.blt jc m = true)
    (hrun : runC cx K n ops ops.toList σ σ' jc (ops.toList.take m) 0 fr rs = some (C, vals, fr')) (hC : AllP C)
    (hk : S cx n B (.ops ops (ops.toList.drop m) [] :: k) Q fr' σ') : S cx n B (.code (.region id ops true) :: k) Q fr σ := by
  intro r a w hi hf hd hx
  obtain ⟨c1, c2, c3, c4, c5⟩ := drawOk_spec hchk
  obtain ⟨k1, k2, k3⟩ := runC_spec hrun hC
  have hmN' := Nat.le_of_ble_eq_true hmN
  have hlen : vals.length = m := by rw [k1]; simp; omega
  obtain ⟨hi1, hx1⟩ := hi.heap_eq (w' := { w with drawn := w.drawn + 1 }) rfl rfl rfl rfl
  have hf1 := hf.mono (hx1.grow hi)
  have nl : ∀ {j : Nat}, ¬ Listed (Array.replicate ops.size false) j := by
    intro j hj
    unfold Listed at hj
    rw [Array.getD_eq_getD_getElem?, Array.getElem?_replicate] at hj
    split at hj <;> simp at hj
  have h0 : hpC σ σ' jc (Array.replicate ops.size false) = σ := hpC_out (by
    cases hb : (Array.replicate ops.size false).getD jc false with
    | false => rfl
    | true => exact absurd hb nl)
  refine wp_region_any hP ?_
  refine wpAny_frontC (σ' := σ') (jc := jc) (cx := cx) (n := n) (B := B) (fr := fr) (σ := σ) (m := m) (vals := vals) (K := K) (blt_lt hjc) hmN' hlen c1 c2 c3 c4 c5 (fun j o v hj ho hv => ?_) (fun r a w hi hf hd hx => ?_) ops.size _ r a _ (by simp) ?_ (fun j i hj => ?_) (fun j _ => ?_) ⟨hf1.size, fun j d v _ hj => ?_, fun t _ => hf1.get t, hf1.defs⟩ (by rw [h0]; exact hi1) hd (by rw [h0]; exact hx.trans hx1)
  · have h := k3 j o v (by rw [List.getElem?_take_of_lt hj]; exact ho) hv
    rw [List.take_take, Nat.min_eq_left (by omega), Nat.zero_add] at h
    exact h
  · rw [k2] at hk
    exact hk r a w hi hf hd hx
  · unfold unl; simp [List.countP_replicate]
  · exact absurd hj nl
  · exact nl
  · exact absurd hj nl
def normC (x : Option (List Prop × List AV × Fr)) : Option (List Prop × List AV × Fr) := match x with
  | some (C, v, f) => forceL C fun C => some (C, v, f)
  | none => none
theorem normC_eq (x : Option (List Prop × List AV × Fr)) : normC x = x := by
  unfold normC
  split
  · rw [forceL_eq]
  · rfl
theorem S_drawCN {id : Nat} (σ' : Heap) (jc : Nat) {ops : Array Oper} {vals : List AV} {C : List Prop} {fr' : Fr} (m : Nat) (K : List Nat) (rs : List AV) (hP : cx.P.follows .mixedOrders = true) (hchk : drawOk ops.toList m = true) (hmN : Nat.ble m ops.size = true) (hjc : Nat.blt jc m = true)
    (hrun : normC (runC cx K n ops ops.toList σ σ' jc (ops.toList.take m) 0 fr rs) = some (C, vals, fr')) (hC : AllP C)
    (hk : S cx n B (.ops ops (ops.toList.drop m) [] :: k) Q fr' σ') : S cx n B (.code (.region id ops true) :: k) Q fr σ :=
  S_drawC σ' jc m K rs hP hchk hmN hjc (by rw [← normC_eq (runC cx K n ops ops.toList σ σ' jc (ops.toList.take m) 0 fr rs)]; exact hrun) hC hk
end
end Go.Ab
end
section
set_option linter.unusedVariables false
set_option linter.unusedSimpArgs false
namespace Go.Ab
open Go
theorem AllP_cons {p : Prop} {r : List Prop} (h : p) (hr : AllP r) : AllP (p :: r) := ⟨h, hr⟩
theorem aC {p : Prop} (h : p := by first | exact trivial | assumption | omega | rfl | exact decide_eq_true (by omega) | exact decide_eq_false (by omega) | (rw [IntWalk.i64_in _ ⟨by omega, by omega⟩]; omega) | exact allOne_mem rfl | exact Nat.le_of_ble_eq_true rfl | (simp only [List.length_cons, List.length_nil]; omega)) : p := h
theorem fl {p : Prop} (h : p := by (simp only [List.length_append, List.length_cons, List.length_nil, List.flatten_append, List.flatten_cons, List.flatten_nil, List.append_nil] at * <;> omega)) : p := h
inductive Ht where
  | k (x : AV)
  | v (x : AV)
  | c (x : AV) (σ : Heap)
  | b (t : Bool)
  | f (x : AV) (g : Heap → Heap)
  | d (jc m : Nat) (K : List Nat) (g : Heap → Heap) (rs : List AV)
  | o (x : AV) (g : Heap → Heap)
  | s
def stopH : List Ht → Bool
  | .s :: _ => true
  | _ => false
def chgOp : Op → Bool
  | .alloc _ => true
  | .box .. => true
  | .store .. => true
  | .makeSlice .. => true
  | .range .. => true
  | .makeMap .. => true
  | .mapUpdate .. => true
  | .mapEntry .. => true
  | .entryStore .. => true
  | .next .. => true
  | .call { callee := .builtin b, .. } => match b with
    | .append | .copy | .delete | .clear => true
    | _ => false
  | _ => false
def outH : List Ht → Option (AV × (Heap → Heap) × List Ht)
  | .o x g :: hs => some (x, g, hs)
  | _ => none
def isGuard (ops : List Oper) (i : Nat) : Bool := match ops with
  | [] => false
  | o :: r => match o.guard with
    | some (j, _) => Nat.beq i j || isGuard r i
    | none => isGuard r i
def guardKs (ops : List Oper) : List Oper → List Nat
  | [] => []
  | o :: r => match o.guard with
    | some (j, _) => match dstOf ops j with
      | some d => d :: guardKs ops r
      | none => guardKs ops r
    | none => guardKs ops r
def rsOf : List Ht → List AV
  | .v r :: _ => [r]
  | _ => []
def tailIf (hs : List Ht) (rs' : List AV) : List Ht := match rs' with
  | [] => match hs with
    | .v _ :: hs => hs
    | hs => hs
  | _ :: _ => hs
section
variable {cx : Cx} {n : Nat} {B : Bs} {k : List AI} {Q : Post} {fr : Fr} {σ : Heap}
def plainOp : Op → Bool
  | .call _ => false
  | .indexAddr .. => false
  | _ => true
def oneH (cx : Cx) (K : List Nat) (n : Nat) (all : Array Oper) (σ : Heap) (o : Oper) (fr : Fr) (hs : List Ht) : Option (List Prop × AV × List Ht) :=
  match chgOp o.op with
  | true => none
  | false => match plainOp o.op with
    | true => match dstOk n o.dst with
      | true => match guardA all o K fr with
        | some true => match aPure cx o.op fr σ with
          | some (C, v) => some (C, v, hs)
          | none => match oneD cx K n all σ o fr (rsOf hs) with
            | some (C, v, rs') => some (C, v, tailIf hs rs')
            | none => none
        | some false => some ([], .tup [], hs)
        | none => none
      | false => none
    | false => match hs with
      | .k x :: hs => match dstOk n o.dst with
        | true => match guardA all o K fr with
          | some true => match callA cx fr o.op with
            | some (f, args) => some ([CallOk cx f args σ (fun e s => e = .ret x ∧ s = σ)], x, hs)
            | none => none
          | some false => some ([], .tup [], .k x :: hs)
          | none => none
        | false => none
      | hs => match oneD cx K n all σ o fr (rsOf hs) with
        | some (C, v, rs') => some (C, v, tailIf hs rs')
        | none => none
theorem oneH_spec {K : List Nat} {all : Array Oper} {o : Oper} {fr : Fr} {hs hs' : List Ht} {C : List Prop} {v : AV} (h : oneH cx K n all σ o fr hs = some (C, v, hs')) (hC : AllP C) : StepD cx n all σ K fr o v := by
  unfold oneH at h
  have key : ∀ {x : Option (List Prop × AV × List Ht)}, (x = match oneD cx K n all σ o fr (rsOf hs) with | some (C, v, rs') => some (C, v, tailIf hs rs') | none => none) → x = some (C, v, hs') → StepD cx n all σ K fr o v := by
    intro x hx h1
    rw [h1] at hx
    split at hx
    · rename_i C' v' rs' hd
      simp only [Option.some.injEq, Prod.mk.injEq] at hx
      obtain ⟨rfl, rfl, rfl⟩ := hx
      exact oneD_spec hd hC
    · cases hx
  split at h
  · cases h
  split at h
  · split at h
    · rename_i hdst
      split at h
      · rename_i hg
        split at h
        · rename_i C' v' hp
          simp only [Option.some.injEq, Prod.mk.injEq] at h
          obtain ⟨rfl, rfl, rfl⟩ := h
          refine ⟨hdst, .inr ⟨hg, fun r a w hi hf Q => ?_⟩⟩
          obtain ⟨u, h1, h2⟩ := aPure_run hi hf hp hC
          unfold Oper.wp
          rw [h1]
          exact ⟨r, u, rfl, h2, hi, Ext.refl r σ w⟩
        · exact key rfl h
      · rename_i hg
        simp only [Option.some.injEq, Prod.mk.injEq] at h
        obtain ⟨rfl, rfl, rfl⟩ := h
        exact ⟨hdst, .inl ⟨hg, rfl⟩⟩
      · cases h
    · cases h
  · split at h
    · rename_i x hs1
      split at h
      · rename_i hdst
        split at h
        · rename_i hg
          split at h
          · rename_i f args hc
            simp only [Option.some.injEq, Prod.mk.injEq] at h
            obtain ⟨rfl, rfl, rfl⟩ := h
            refine ⟨hdst, .inr ⟨hg, fun r a w hi hf Q => ?_⟩⟩
            obtain ⟨vs, h1, h2⟩ := callA_run hi hf hc hC.1.1
            unfold Oper.wp
            rw [h1, Oper.upon_enter]
            refine (hC.1.2 r w vs hi h2).mono fun e w' ⟨out, σ', r1, ⟨ho, hσ'⟩, hor, hi1, hx1⟩ => ?_
            subst ho; subst hσ'
            cases e with
            | returned u => exact ⟨r1, u, rfl, hor, hi1, hx1⟩
            | panicked chain => exact hor.elim
            | outgrown => exact hor.elim
          · cases h
        · rename_i hg
          simp only [Option.some.injEq, Prod.mk.injEq] at h
          obtain ⟨rfl, rfl, rfl⟩ := h
          exact ⟨hdst, .inl ⟨hg, rfl⟩⟩
        · cases h
      · cases h
    · exact key rfl h
structure Hd where
  C : List Prop
  vals : List AV
  fr : Fr
  m : Nat
  hs : List Ht
def runH (cx : Cx) (K : List Nat) (n : Nat) (all : Array Oper) (ops : List Oper) (σ : Heap) : List Oper → Nat → Fr → List Ht → Hd
  | [], i, fr, hs => ⟨[], [], fr, i, hs⟩
  | o :: r, i, fr, hs => match oneH cx K n all σ o (restr ops o fr) hs with
    | none => ⟨[], [], fr, i, hs⟩
    | some (C, v, hs') => match isGuard ops i with
      | false => forceV v fun v => match runH cx K n all ops σ r (i + 1) (setA o.dst v fr) hs' with
        | ⟨D, vs, fr', m, hs''⟩ => ⟨C ++ D, v :: vs, fr', m, hs''⟩
      | true => match v with
        | .bool b => match hs' with
          | .b t :: hs' => match runH cx K n all ops σ r (i + 1) (setA o.dst (.bool t) fr) hs' with
            | ⟨D, vs, fr', m, hs''⟩ => ⟨C ++ ((b = t) :: D), .bool t :: vs, fr', m, hs''⟩
          | _ => ⟨[], [], fr, i, hs⟩
        | .tup us => match runH cx K n all ops σ r (i + 1) (setA o.dst (.tup us) fr) hs' with
          | ⟨D, vs, fr', m, hs''⟩ => ⟨C ++ D, .tup us :: vs, fr', m, hs''⟩
        | _ => ⟨[], [], fr, i, hs⟩
def runHK {α : Type} (cx : Cx) (K : List Nat) (n : Nat) (all : Array Oper) (ops : List Oper) (σ : Heap) : List Oper → Nat → Fr → List Ht → (List Prop → List AV → Fr → Nat → List Ht → α) → α
  | [], i, fr, hs, c => c [] [] fr i hs
  | o :: r, i, fr, hs, c => match oneH cx K n all σ o (restr ops o fr) hs with
    | none => c [] [] fr i hs
    | some (C, v, hs') => match isGuard ops i with
      | false => forceV v fun v => runHK cx K n all ops σ r (i + 1) (setA o.dst v fr) hs' fun D vs fr' m hs'' => c (C ++ D) (v :: vs) fr' m hs''
      | true => match v with
        | .bool b => match hs' with
          | .b t :: hs' => runHK cx K n all ops σ r (i + 1) (setA o.dst (.bool t) fr) hs' fun D vs fr' m hs'' => c (C ++ ((b = t) :: D)) (.bool t :: vs) fr' m hs''
          | _ => c [] [] fr i hs
        | .tup us => runHK cx K n all ops σ r (i + 1) (setA o.dst (.tup us) fr) hs' fun D vs fr' m hs'' => c (C ++ D) (.tup us :: vs) fr' m hs''
        | _ => c [] [] fr i hs
theorem runHK_eq {α : Type} {K : List Nat} {all : Array Oper} {ops : List Oper} : ∀ (l : List Oper) (i : Nat) (fr : Fr) (hs : List Ht) (c : List Prop → List AV → Fr → Nat → List Ht → α),
    runHK cx K n all ops σ l i fr hs c = c (runH cx K n all ops σ l i fr hs).C (runH cx K n all ops σ l i fr hs).vals (runH cx K n all ops σ l i fr hs).fr (runH cx K n all ops σ l i fr hs).m (runH cx K n all ops σ l i fr hs).hs
  | [], i, fr, hs, c => rfl
  | o :: l, i, fr, hs, c => by
    unfold runHK runH
    split
    · rfl
    · split
      · simp only [forceV_eq]
        rw [runHK_eq l]
      · split
        · split
          · rw [runHK_eq l]
          · rfl
        · rw [runHK_eq l]
        · rfl
def HdOk (cx : Cx) (K : List Nat) (n : Nat) (all : Array Oper) (ops : List Oper) (σ : Heap) (l : List Oper) (i : Nat) (fr : Fr) (H : Hd) : Prop :=
  i ≤ H.m ∧ H.m - i ≤ l.length ∧ H.vals.length = H.m - i ∧ H.fr = ovl (l.take (H.m - i)) H.vals fr ∧
    ∀ (j : Nat) (o : Oper) (v : AV), j < H.m - i → l[j]? = some o → H.vals[j]? = some v → StepD cx n all σ K (restr ops o (ovl (l.take j) (H.vals.take j) fr)) o v
theorem HdOk.stop {K : List Nat} {all : Array Oper} {ops l : List Oper} {i : Nat} {fr : Fr} {hs : List Ht} : HdOk cx K n all ops σ l i fr ⟨[], [], fr, i, hs⟩ := by
  refine ⟨Nat.le_refl _, ?_, ?_, ?_, fun j o v h => ?_⟩
  · show i - i ≤ _; omega
  · show 0 = i - i; omega
  · show fr = ovl (l.take (i - i)) [] fr
    rw [Nat.sub_self]; rfl
  · exfalso; have h : j < i - i := h; omega
theorem HdOk.cons {K : List Nat} {all : Array Oper} {ops l : List Oper} {o : Oper} {i : Nat} {fr fr1 : Fr} {v : AV} {D E : List Prop} {vs : List AV} {m : Nat} {hs : List Ht}
    (h1 : StepD cx n all σ K (restr ops o fr) o v) (h : HdOk cx K n all ops σ l (i + 1) (setA o.dst v fr) ⟨D, vs, fr1, m, hs⟩) : HdOk cx K n all ops σ (o :: l) i fr ⟨E, v :: vs, fr1, m, hs⟩ := by
  obtain ⟨k1, k2, k3, k4, k5⟩ := h
  have k1 : i + 1 ≤ m := k1
  have k2 : m - (i + 1) ≤ l.length := k2
  have k3 : vs.length = m - (i + 1) := k3
  have k4 : fr1 = ovl (l.take (m - (i + 1))) vs (setA o.dst v fr) := k4
  have e : m - i = (m - (i + 1)) + 1 := by omega
  refine ⟨?_, ?_, ?_, ?_, fun j oj vj hj ho hv => ?_⟩
  · show i ≤ m; omega
  · show m - i ≤ l.length + 1; omega
  · show vs.length + 1 = m - i; omega
  · show fr1 = ovl ((o :: l).take (m - i)) (v :: vs) fr
    rw [e, List.take_succ_cons, k4]; rfl
  · have hj : j < m - i := hj
    cases j with
    | zero =>
      have ho : some o = some oj := ho
      have hv : some v = some vj := hv
      cases ho; cases hv
      exact h1
    | succ j => exact k5 j oj vj (by show j < m - (i + 1); omega) ho hv
theorem runH_spec {K : List Nat} {all : Array Oper} {ops : List Oper} : ∀ (l : List Oper) (i : Nat) (fr : Fr) (hs : List Ht), AllP (runH cx K n all ops σ l i fr hs).C → HdOk cx K n all ops σ l i fr (runH cx K n all ops σ l i fr hs)
  | [], i, fr, hs, _ => HdOk.stop
  | o :: l, i, fr, hs, hC => by
    unfold runH at hC ⊢
    split at hC
    · exact HdOk.stop
    · rename_i C v hs' h1
      split at hC
      · simp only [forceV_eq] at hC ⊢
        have ih := runH_spec (K := K) (all := all) (ops := ops) l (i + 1) (setA o.dst v fr) hs'
        generalize runH cx K n all ops σ l (i + 1) (setA o.dst v fr) hs' = H at hC ih ⊢
        obtain ⟨D, vs, fr', m, hs''⟩ := H
        obtain ⟨hC1, hC2⟩ := AllP_append hC
        exact HdOk.cons (oneH_spec h1 hC1) (ih hC2)
      · split at hC
        · rename_i b
          split at hC
          · rename_i t hs1
            have ih := runH_spec (K := K) (all := all) (ops := ops) l (i + 1) (setA o.dst (.bool t) fr) hs1
            generalize runH cx K n all ops σ l (i + 1) (setA o.dst (.bool t) fr) hs1 = H at hC ih ⊢
            obtain ⟨D, vs, fr', m, hs''⟩ := H
            obtain ⟨hC1, hb, hC2⟩ := AllP_append hC
            subst hb
            exact HdOk.cons (oneH_spec h1 hC1) (ih hC2)
          · exact HdOk.stop
        · rename_i us
          have ih := runH_spec (K := K) (all := all) (ops := ops) l (i + 1) (setA o.dst (.tup us) fr) hs'
          generalize runH cx K n all ops σ l (i + 1) (setA o.dst (.tup us) fr) hs' = H at hC ih ⊢
          obtain ⟨D, vs, fr', m, hs''⟩ := H
          obtain ⟨hC1, hC2⟩ := AllP_append hC
          exact HdOk.cons (oneH_spec h1 hC1) (ih hC2)
        · exact HdOk.stop
theorem S_drawH {id : Nat} {ops : Array Oper} (K : List Nat) (H : Hd) (hs : List Ht) (hP : cx.P.follows .mixedOrders = true) (hrun : runH cx K n ops ops.toList σ ops.toList 0 fr hs = H) (hchk : drawOk ops.toList H.m = true) (hC : AllP H.C)
    (hk : S cx n B (.ops ops (ops.toList.drop H.m) [] :: k) Q H.fr σ) : S cx n B (.code (.region id ops true) :: k) Q fr σ := by
  intro r a w hi hf hd hx
  subst hrun
  have hspec := runH_spec (K := K) (all := ops) (ops := ops.toList) (n := n) (cx := cx) (σ := σ) ops.toList 0 fr hs hC
  generalize runH cx K n ops ops.toList σ ops.toList 0 fr hs = H at hspec hchk hC hk
  obtain ⟨C, vals, fr', m, hs'⟩ := H
  obtain ⟨_, k2, k3, k4, k5⟩ := hspec
  simp only [Nat.sub_zero] at k2 k3 k4 k5 hchk hk
  obtain ⟨c1, c2, c3, c4, c5⟩ := drawOk_spec hchk
  obtain ⟨hi1, hx1⟩ := hi.heap_eq (w' := { w with drawn := w.drawn + 1 }) rfl rfl rfl rfl
  have hf1 := hf.mono (hx1.grow hi)
  have nl : ∀ {j : Nat}, ¬ Listed (Array.replicate ops.size false) j := by
    intro j hj
    unfold Listed at hj
    rw [Array.getD_eq_getD_getElem?, Array.getElem?_replicate] at hj
    split at hj <;> simp at hj
  refine wp_region_any hP ?_
  refine wpAny_front (cx := cx) (n := n) (B := B) (fr := fr) (σ := σ) (m := m) (vals := vals) (K := K) (by simpa using k2) k3 c1 c2 c3 c4 c5 (fun j o v hj ho hv => ?_) (fun r a w hi hf hd hx => ?_) ops.size _ r a _ (by simp) ?_ (fun j i hj => ?_) (fun j _ => ?_) ⟨hf1.size, fun j d v _ hj => ?_, fun t _ => hf1.get t, hf1.defs⟩ hi1 hd (hx.trans hx1)
  · exact k5 j o v hj ho hv
  · rw [k4] at hk
    exact hk r a w hi hf hd hx
  · unfold unl; simp [List.countP_replicate]
  · exact absurd hj nl
  · exact nl
  · exact absurd hj nl
def newOp (o : Op) : Bool := match o with
  | .buildSlice .. => true
  | .convert .. => true
  | o => chgOp o
def noF : List Nat → Bool
  | [] => false
  | n :: _ => Nat.beq n 1000000
def opqM : List Nat → Bool
  | _ :: n :: _ => Nat.beq n 1000000
  | _ => false
def heapOp : Op → Bool
  | .load .. => true
  | .store .. => true
  | .alloc .. => true
  | .box .. => true
  | .makeSlice .. => true
  | .call { callee := .builtin b, .. } => match b with
    | .append | .copy => true
    | _ => false
  | _ => false
def stopM (M : List Nat) (o : Op) : Bool := match opqM M with
  | true => heapOp o || stopOp o
  | false => stopOp o
def forceM {α : Type} (M : List Nat) (σ : Heap) (c : Heap → α) : α := match noF M with
  | true => c σ
  | false => forceL σ c
theorem forceM_eq {α : Type} (M : List Nat) (σ : Heap) (c : Heap → α) : forceM M σ c = c σ := by unfold forceM; split <;> simp [forceL_eq]
def forceIfM {α : Type} (M : List Nat) (b : Bool) (σ : Heap) (c : Heap → α) : α := match b with
  | true => forceM M σ c
  | false => c σ
theorem forceIfM_eq {α : Type} (M : List Nat) (b : Bool) (σ : Heap) (c : Heap → α) : forceIfM M b σ c = c σ := by cases b <;> simp [forceIfM, forceM_eq]
structure Rp where
  C : List Prop
  todo : List AI
  fr : Fr
  σ : Heap
  hs : List Ht
def revL {α β : Type} : List α → List α → (List α → β) → β
  | [], a, c => c a
  | x :: r, a, c => revL r (x :: a) c
theorem revL_eq {α β : Type} : ∀ (l a : List α) (c : List α → β), revL l a c = c (l.reverse ++ a)
  | [], a, c => rfl
  | x :: r, a, c => by rw [revL, revL_eq r]; simp
def halt (C : List Prop) (k : List AI) (fr : Fr) (σ : Heap) (hs : List Ht) : Rp := revL C [] fun C => ⟨C, k, fr, σ, hs⟩
theorem halt_eq (C : List Prop) (k : List AI) (fr : Fr) (σ : Heap) (hs : List Ht) : halt C k fr σ hs = ⟨C.reverse, k, fr, σ, hs⟩ := by rw [halt, revL_eq, List.append_nil]
def gdSlot (all : Array Oper) (o : Oper) (fr : Fr) : Option (Nat × Bool) :=
  match o.guard with
  | some (j, _) => match all[j]? with
    | some oj => match oj.dst with
      | some d => match fr.get d with
        | .bool b => some (d, b)
        | _ => none
      | none => none
    | none => none
  | none => none
def runP (cx : Cx) (M : List Nat) (n : Nat) : Nat → List Prop → List Ht → List AI → Fr → Heap → Rp
  | 0, C, hs, k, fr, σ => halt C k fr σ hs
  | f + 1, C, hs, k, fr, σ =>
    match k with
    | [] => halt C [] fr σ hs
    | .code c :: k => match c with
      | .skip => runP cx M n f C hs k fr σ
      | .label _ => runP cx M n f C hs k fr σ
      | .seq a b => runP cx M n f C hs (.code a :: .code b :: k) fr σ
      | .block id c => runP cx M n f C hs (.code c :: .blk id :: k) fr σ
      | .region id ops draw => match draw with
        | false => runP cx M n f C hs (.ops ops ops.toList [] :: k) fr σ
        | true => match hs with
          | .d jc m K g rs :: hs' => match Nat.ble m ops.size with
            | true => match Nat.blt jc m with
              | true => match drawOk ops.toList m with
                | true => forceM M (g σ) fun σ1 => match normC (runC cx K n ops ops.toList σ σ1 jc (ops.toList.take m) 0 fr rs) with
                  | some (D, vals, fr') => forceL fr' fun fr' => pushAll D ((cx.P.follows .mixedOrders = true) :: C) fun C => runP cx M n f C hs' (.ops ops (ops.toList.drop m) [] :: k) fr' σ1
                  | none => halt C (.code (.region id ops true) :: k) fr σ hs
                | false => halt C (.code (.region id ops true) :: k) fr σ hs
              | false => halt C (.code (.region id ops true) :: k) fr σ hs
            | false => halt C (.code (.region id ops true) :: k) fr σ hs
          | hs => match opqM M with
           | true => halt C (.code (.region id ops true) :: k) fr σ hs
           | false => runHK cx (guardKs ops.toList ops.toList) n ops ops.toList σ ops.toList 0 fr hs fun D vals fr' m hs' => match drawOk ops.toList m with
            | true => pushAll D ((cx.P.follows .mixedOrders = true) :: C) fun C => runP cx M n f C hs' (.ops ops (ops.toList.drop m) [] :: k) fr' σ
            | false => halt C (.code (.region id ops true) :: k) fr σ hs
      | .exit id => match popTo id k with
        | some k' => runP cx M n f C hs k' fr σ
        | none => halt C (.code (.exit id) :: k) fr σ hs
      | .cond c x y => match hs with
        | .b t :: hs' => match ev cx fr c with
          | .bool b => match t with
            | true => runP cx M n f ((b = true) :: C) hs' (.code x :: k) fr σ
            | false => runP cx M n f ((b = false) :: C) hs' (.code y :: k) fr σ
          | _ => halt C (.code (.cond c x y) :: k) fr σ hs
        | _ => halt C (.code (.cond c x y) :: k) fr σ hs
      | c => halt C (.code c :: k) fr σ hs
    | .blk _ :: k => runP cx M n f C hs k fr σ
    | .inv I :: k => halt C (.inv I :: k) fr σ hs
    | .ops all l K :: k => match l with
      | [] => runP cx M n f C hs k fr σ
      | o :: r => match stopH hs with
       | true => halt C (.ops all (o :: r) K :: k) fr σ hs
       | false => match dstOk n o.dst with
        | false => halt C (.ops all (o :: r) K :: k) fr σ hs
        | true => match guardA all o K fr with
          | none => match hs with
            | .b t :: hs' => match gdSlot all o fr with
              | some (d, b) => runP cx M n f ((b = t) :: C) hs' (.ops all (o :: r) (d :: K) :: k) ((d, .bool t) :: fr) σ
              | none => halt C (.ops all (o :: r) K :: k) fr σ hs
            | _ => halt C (.ops all (o :: r) K :: k) fr σ hs
          | some false => setC o.dst (.tup []) fr fun fr => runP cx M n f C hs (.ops all r K :: k) fr σ
          | some true => match outH hs with
           | some (x, g, hs') => forceM M (g σ) fun σ' => runP cx M n f ((OpSpec cx n fr σ o x (g σ)) :: C) hs' (.ops all r K :: k) (setA o.dst x fr) σ'
           | none => match callA cx fr o.op with
            | some (g, args) => match hs with
              | .v x :: hs' => setC o.dst x fr fun fr => runP cx M n f ((∃ args', Calc cx g args' x ∧ Frzs σ args args') :: C) hs' (.ops all r K :: k) fr σ
              | .k x :: hs' => setC o.dst x fr fun fr => runP cx M n f (CallOk cx g args σ (fun e s => e = .ret x ∧ s = σ) :: C) hs' (.ops all r K :: k) fr σ
              | .f x g' :: hs' => setC o.dst x fr fun fr => forceM M (g' σ) fun σ' => runP cx M n f (CallOk cx g args σ (fun e s => e = .ret x ∧ s = g' σ) :: C) hs' (.ops all r K :: k) fr σ'
              | .c x σ' :: hs' => setC o.dst x fr fun fr => runP cx M n f (CallOk cx g args σ (fun e s => e = .ret x ∧ s = σ') :: C) hs' (.ops all r K :: k) fr σ'
              | _ => halt C (.ops all (o :: r) K :: k) fr σ hs
            | none => match stopM M o.op with
              | false => match aOp cx M o.dst o.op fr σ with
                | some (D, v, σ') => pushAll D C fun C => forceV v fun v => forceIfM M (newOp o.op) σ' fun σ' => setC o.dst v fr fun fr => runP cx M n f C hs (.ops all r K :: k) fr σ'
                | none => match storeA cx fr σ o.op with
                  | some (D, σ') => pushAll D C fun C => forceM M σ' fun σ' => setC o.dst (.tup []) fr fun fr => runP cx M n f C hs (.ops all r K :: k) fr σ'
                  | none => match hs with
                    | .v x :: hs' => match loadA cx fr σ o.op x with
                      | some D => pushAll D C fun C => setC o.dst x fr fun fr => runP cx M n f C hs' (.ops all r K :: k) fr σ
                      | none => runP cx M n f ((OpSpec cx n fr σ o x σ) :: C) hs' (.ops all r K :: k) (setA o.dst x fr) σ
                    | .f x g :: hs' => forceM M (g σ) fun σ' => runP cx M n f ((OpSpec cx n fr σ o x (g σ)) :: C) hs' (.ops all r K :: k) (setA o.dst x fr) σ'
                    | _ => halt C (.ops all (o :: r) K :: k) fr σ hs
              | true => match hs with
                | .v x :: hs' => match idxA cx fr σ o.op x with
                  | some (D, v) => pushAll D C fun C => forceV v fun v => setC o.dst v fr fun fr => runP cx M n f C hs' (.ops all r K :: k) fr σ
                  | none => runP cx M n f ((OpSpec cx n fr σ o x σ) :: C) hs' (.ops all r K :: k) (setA o.dst x fr) σ
                | .f x g :: hs' => forceM M (g σ) fun σ' => runP cx M n f ((OpSpec cx n fr σ o x (g σ)) :: C) hs' (.ops all r K :: k) (setA o.dst x fr) σ'
                | _ => halt C (.ops all (o :: r) K :: k) fr σ hs
theorem gdSlot_some {all : Array Oper} {o : Oper} {fr : Fr} {d : Nat} {b : Bool} (h : gdSlot all o fr = some (d, b)) : ∃ j want oj, o.guard = some (j, want) ∧ all[j]? = some oj ∧ oj.dst = some d ∧ fr.get d = .bool b := by
  unfold gdSlot at h
  split at h
  · rename_i j want hg
    split at h
    · rename_i oj hj
      split at h
      · rename_i d' hd
        split at h
        · rename_i b' hb
          simp only [Option.some.injEq, Prod.mk.injEq] at h
          obtain ⟨rfl, rfl⟩ := h
          exact ⟨j, want, oj, hg, hj, hd, hb⟩
        · cases h
      · cases h
    · cases h
  · cases h
def Goes (cx : Cx) (n : Nat) (B : Bs) (Q : Post) (C : List Prop) (k : List AI) (fr : Fr) (σ : Heap) (R : Rp) : Prop := AllP R.C → AllP C ∧ (S cx n B R.todo Q R.fr R.σ → S cx n B k Q fr σ)
theorem AllP_of_rev {C : List Prop} (h : AllP C.reverse) : AllP C := (AllP_rev (C := []) (by simpa using h)).1
theorem Goes.here {C : List Prop} {hs : List Ht} : Goes cx n B Q C k fr σ (halt C k fr σ hs) := by
  rw [halt_eq]
  exact fun h => ⟨AllP_of_rev h, id⟩
theorem Goes.one {C : List Prop} {D : List Prop} {k k' : List AI} {fr fr' : Fr} {σ σ' : Heap} {R : Rp} (h : Goes cx n B Q (D.reverse ++ C) k' fr' σ' R) (hs : AllP D → S cx n B k' Q fr' σ' → S cx n B k Q fr σ) : Goes cx n B Q C k fr σ R := fun hC => by
  obtain ⟨h1, h2⟩ := h hC
  obtain ⟨h3, h4⟩ := AllP_rev h1
  exact ⟨h4, fun q => hs h3 (h2 q)⟩
theorem runP_sound {M : List Nat} : ∀ (f : Nat) (C : List Prop) (hs : List Ht) (k : List AI) (fr : Fr) (σ : Heap), Goes cx n B Q C k fr σ (runP cx M n f C hs k fr σ) := by
  intro f
  induction f with
  | zero => intro C hs k fr σ; exact .here
  | succ f ih =>
    intro C hs k fr σ
    unfold runP
    split
    · exact .here
    · rename_i c k'
      split
      · exact (ih _ _ _ _ _).one (D := []) fun _ => S_skip
      · exact (ih _ _ _ _ _).one (D := []) fun _ => S_label
      · exact (ih _ _ _ _ _).one (D := []) fun _ => S_seq
      · exact (ih _ _ _ _ _).one (D := []) fun _ => S_block
      · rename_i id ops draw
        split
        · exact (ih _ _ _ _ _).one (D := []) fun _ => S_region
        split
        · rename_i jc m K g rs hs'
          split
          case h_2 => exact .here
          rename_i hmN
          split
          case h_2 => exact .here
          rename_i hjc
          split
          case h_2 => exact .here
          rename_i hchk
          rw [forceM_eq]
          split
          case h_2 => exact .here
          rename_i D vals fr' hrun
          rw [forceL_eq, pushAll_eq]
          refine Goes.one (D := (cx.P.follows .mixedOrders = true) :: D) (fr' := fr') (σ' := g σ) (k' := .ops ops (ops.toList.drop m) [] :: k') (by rw [List.reverse_cons, List.append_assoc]; exact ih _ _ _ _ _) fun hD hk => ?_
          exact S_drawCN (g σ) jc m K rs hD.1 hchk hmN hjc hrun hD.2 hk
        · split
          case h_1 => exact .here
          rw [runHK_eq]
          generalize hrun : runH cx (guardKs ops.toList ops.toList) n ops ops.toList σ ops.toList 0 fr hs = H
          obtain ⟨D, vals, fr', m, hs'⟩ := H
          simp only
          split
          · rename_i hchk
            rw [pushAll_eq]
            refine Goes.one (D := (cx.P.follows .mixedOrders = true) :: D) (fr' := fr') (σ' := σ) (k' := .ops ops (ops.toList.drop m) [] :: k') (by rw [List.reverse_cons, List.append_assoc]; exact ih _ _ _ _ _) fun hD hk => ?_
            exact S_drawH (guardKs ops.toList ops.toList) _ hs hD.1 hrun hchk hD.2 hk
          · exact .here
      · split
        · rename_i id k'' hp
          exact (ih _ _ _ _ _).one (D := []) fun _ => S_exit hp
        · exact .here
      · rename_i c x y
        split
        · rename_i t hs'
          split
          · rename_i b hb
            split
            · exact (ih _ _ _ _ _).one (D := [b = true]) fun hD hk => S_cond hb (fun _ => hk) (fun h => by rw [hD.1] at h; cases h)
            · exact (ih _ _ _ _ _).one (D := [b = false]) fun hD hk => S_cond hb (fun h => by rw [hD.1] at h; cases h) (fun _ => hk)
          · exact .here
        · exact .here
      · exact .here
    · exact (ih _ _ _ _ _).one (D := []) fun _ => S_blk
    · exact .here
    · rename_i all l K k'
      split
      · exact (ih _ _ _ _ _).one (D := []) fun _ => S_ops_nil
      · rename_i o r
        split
        · exact .here
        rename_i hst
        clear hst
        split
        · exact .here
        · rename_i hd
          split
          · rename_i hg
            split
            · rename_i t hs'
              split
              · rename_i d b hgd
                obtain ⟨j, want, oj, e1, e2, e3, e4⟩ := gdSlot_some hgd
                refine (ih _ _ _ _ _).one (D := [b = t]) fun hD hk => ?_
                obtain rfl : b = t := hD.1
                exact S_guard e1 e2 e3 e4 (fun h => by subst h; exact hk) (fun h => by subst h; exact hk)
              · exact .here
            · exact .here
          · rename_i hg
            rw [setC_eq]
            exact (ih _ _ _ _ _).one (D := []) fun _ => S_op_skip hg hd
          · rename_i hg
            split
            · rename_i x g hs' _
              rw [forceM_eq]
              exact (ih _ _ _ _ _).one (D := [OpSpec cx n fr σ o x (g σ)]) fun hD hk => S_do hg hd hD.1 hk
            rename_i hout
            clear hout
            split
            · rename_i g args hc
              split
              · rename_i x hs'
                rw [setC_eq]
                refine (ih _ _ _ _ _).one (D := [∃ args', Calc cx g args' x ∧ Frzs σ args args']) fun hD hk => ?_
                obtain ⟨⟨args', h1, h2⟩, _⟩ := hD
                exact S_pure hc hg hd h1 h2 hk
              · rename_i x hs'
                rw [setC_eq]
                refine (ih _ _ _ _ _).one (D := [CallOk cx g args σ (fun e s => e = .ret x ∧ s = σ)]) fun hD hk => ?_
                exact S_call hg hc hd hD.1 (fun v s h => by obtain ⟨h1, rfl⟩ := h; obtain rfl := Out.ret.inj h1; exact hk) (fun v s h => by cases h.1)
              · rename_i x g' hs'
                rw [setC_eq, forceM_eq]
                refine (ih _ _ _ _ _).one (D := [CallOk cx g args σ (fun e s => e = .ret x ∧ s = g' σ)]) fun hD hk => ?_
                exact S_call hg hc hd hD.1 (fun v s h => by obtain ⟨h1, rfl⟩ := h; obtain rfl := Out.ret.inj h1; exact hk) (fun v s h => by cases h.1)
              · rename_i x σ' hs'
                rw [setC_eq]
                refine (ih _ _ _ _ _).one (D := [CallOk cx g args σ (fun e s => e = .ret x ∧ s = σ')]) fun hD hk => ?_
                exact S_call hg hc hd hD.1 (fun v s h => by obtain ⟨h1, rfl⟩ := h; obtain rfl := Out.ret.inj h1; exact hk) (fun v s h => by cases h.1)
              · exact .here
            · split
              · split
                · rename_i D v σ' ha
                  rw [pushAll_eq]
                  simp only [forceV_eq, forceIfM_eq, setC_eq]
                  exact (ih _ _ _ _ _).one (D := D) fun hD hk => S_op hg ha hD hd hk
                · split
                  · rename_i D σ' ha
                    rw [pushAll_eq]
                    simp only [forceM_eq, setC_eq]
                    exact (ih _ _ _ _ _).one (D := D) fun hD hk => S_store ha hg hd hD hk
                  · split
                    · rename_i x hs'
                      split
                      · rename_i D ha
                        rw [pushAll_eq]
                        simp only [setC_eq]
                        exact (ih _ _ _ _ _).one (D := D) fun hD hk => S_load x ha hg hd hD hk
                      · exact (ih _ _ _ _ _).one (D := [OpSpec cx n fr σ o x σ]) fun hD hk => S_do hg hd hD.1 hk
                    · rename_i x g hs'
                      rw [forceM_eq]
                      exact (ih _ _ _ _ _).one (D := [OpSpec cx n fr σ o x (g σ)]) fun hD hk => S_do hg hd hD.1 hk
                    · exact .here
              · split
                · rename_i x hs'
                  split
                  · rename_i D v ha
                    rw [pushAll_eq]
                    simp only [forceV_eq, setC_eq]
                    exact (ih _ _ _ _ _).one (D := D) fun hD hk => S_index x ha hg hd hD hk
                  · exact (ih _ _ _ _ _).one (D := [OpSpec cx n fr σ o x σ]) fun hD hk => S_do hg hd hD.1 hk
                · rename_i x g hs'
                  rw [forceM_eq]
                  exact (ih _ _ _ _ _).one (D := [OpSpec cx n fr σ o x (g σ)]) fun hD hk => S_do hg hd hD.1 hk
                · exact .here
theorem pago (M : List Nat) {k k' : List AI} {fr fr' : Fr} {σ σ' : Heap} {C : List Prop} (hs : List Ht) {hs' : List Ht} (h : runP cx M n 2000 [] hs k fr σ = ⟨C, k', fr', σ', hs'⟩) (hC : AllP C)
    (hk : S cx n B k' Q fr' σ') : S cx n B k Q fr σ := by
  have hg := runP_sound (M := M) (cx := cx) (n := n) (B := B) (Q := Q) 2000 [] hs k fr σ
  rw [h] at hg
  exact (hg hC).2 hk
theorem pa {k k' : List AI} {fr fr' : Fr} {σ σ' : Heap} {C : List Prop} (hs : List Ht) {hs' : List Ht} (h : runP cx [] n 2000 [] hs k fr σ = ⟨C, k', fr', σ', hs'⟩) (hC : AllP C)
    (hk : S cx n B k' Q fr' σ') : S cx n B k Q fr σ := pago [] hs h hC hk
theorem pas {k k' : List AI} {fr fr' : Fr} {σ σ' : Heap} {C : List Prop} (hs : List Ht) {hs' : List Ht} (h : runP cx [1000000] n 2000 [] hs k fr σ = ⟨C, k', fr', σ', hs'⟩) (hC : AllP C)
    (hk : S cx n B k' Q fr' σ') : S cx n B k Q fr σ := pago [1000000] hs h hC hk
theorem pB {k k' : List AI} {fr fr' : Fr} {σ σ' : Heap} {C : List Prop} (hs : List Ht) {hs' : List Ht} (h : runP cx [] n 2000 [] hs k fr σ = ⟨C, k', fr', σ', hs'⟩) (hk : S cx n B k' Q fr' σ') (hC : AllP C := by (repeat' with_reducible apply AllP_cons) <;> exact aC) : S cx n B k Q fr σ := pago [] hs h hC hk
theorem pao {k k' : List AI} {fr fr' : Fr} {σ σ' : Heap} {C : List Prop} (hs : List Ht) {hs' : List Ht} (h : runP cx [1000000, 1000000] n 2000 [] hs k fr σ = ⟨C, k', fr', σ', hs'⟩) (hC : AllP C)
    (hk : S cx n B k' Q fr' σ') : S cx n B k Q fr σ := pago [1000000, 1000000] hs h hC hk
end
end Go.Ab
end
section
set_option linter.unusedVariables false
set_option linter.unusedSimpArgs false
set_option maxRecDepth 20000
namespace Go.Proofs.YtjkeekbfgnmngaaGreatDoor
open Go Go.Ab
theorem prefix_take {s p : List UInt8} (h : p.length ≤ s.length) : (s.take p.length == p) = p.isPrefixOf s := by
  rw [Bool.eq_iff_iff, beq_iff_eq, List.isPrefixOf_iff_prefix, List.prefix_iff_eq_take]
  exact ⟨fun h => h.symm, fun h => h.symm⟩
theorem prefix_short {s p : List UInt8} (h : ¬ p.length ≤ s.length) : p.isPrefixOf s = false := by
  cases hp : p.isPrefixOf s with
  | false => rfl
  | true => exact absurd (List.isPrefixOf_iff_prefix.1 hp).length_le h
theorem HasPrefix2_ok (s p : List UInt8) : Calc cx 103 [.str s, .str p] (.bool (p.isPrefixOf s)) :=
  pure_intro (fun a w => Tryz.call103 a w) Tryz.func103 rfl Tryz.ntmps103 rfl .bool fun B => by
    by_cases h : p.length ≤ s.length
    · refine pB [.b true] rfl ?_
      refine S_retc .bool rfl trivial ?_
      exact congrArg AV.bool (prefix_take h)
    · refine pB [.b false] rfl ?_
      refine S_retc .bool rfl trivial ?_
      rw [prefix_short h]; rfl
theorem HasPrefix_ok (s p : List UInt8) : Calc cx 72 [.str s, .str p] (.bool (p.isPrefixOf s)) :=
  pure_intro (fun a w => Tryz.call72 a w) Tryz.func72 rfl Tryz.ntmps72 rfl .bool fun B => by
    refine pa [.v (.bool (p.isPrefixOf s))] rfl ?_ ?_
    · (repeat' with_reducible apply AllP_cons) <;> try exact aC
      exact ⟨_, HasPrefix2_ok s p, .cons (.refl .str) (.cons (.refl .str) (.nil _))⟩
    exact S_retc .bool rfl trivial rfl
end Go.Proofs.YtjkeekbfgnmngaaGreatDoor
end
section
set_option linter.unusedVariables false
set_option linter.unusedSimpArgs false
set_option maxRecDepth 20000
set_option maxHeartbeats 4000000
namespace Go.Proofs.YtjkeekbfgnmngaaGreatDoor
open Go Go.Ab
theorem inside_ok (d p : List UInt8) (hd : d.length ≤ 1000000000000) : Calc cx 32 [.str d, .str p] (.bool (insT d p)) :=
  pure_intro (fun a w => Tryz.call32 a w) Tryz.func32 rfl Tryz.ntmps32 rfl .bool fun B => by
    refine pa [.v (.bool (insT d p))] rfl ?_ ?_
    · (repeat' with_reducible apply AllP_cons) <;> try exact aC
      · exact ⟨_, HasPrefix_ok p (d ++ [47]), .cons (.refl .str) (.cons (.refl .str) (.nil _))⟩
    exact S_retc .bool rfl trivial rfl
theorem ins_iff (d p : List UInt8) : insT d p = true ↔ d.length < p.length ∧ p.take d.length = d ∧ p.getD d.length 0 = 47 := by
  unfold insT
  rw [List.isPrefixOf_iff_prefix]
  constructor
  · rintro ⟨r, rfl⟩
    refine ⟨by simp, by simp, by simp [List.getD]⟩
  · rintro ⟨h1, h2, h3⟩
    refine ⟨p.drop (d.length + 1), ?_⟩
    have h4 : p.drop d.length = 47 :: p.drop (d.length + 1) := by
      rw [List.drop_eq_getElem_cons h1]
      congr 1
      rw [List.getD_eq_getElem?_getD, List.getElem?_eq_getElem h1] at h3
      exact h3
    conv => rhs; rw [← List.take_append_drop d.length p, h2, h4]
    simp
theorem filBeq (f g : Fil) : (f.path == g.path && (f.text == g.text && (f.run == g.run && true))) = true ↔ f = g := by
  simp only [Bool.and_eq_true, beq_iff_eq, and_true]
  constructor
  · rintro ⟨h1, h2, h3⟩
    cases f; cases g
    simp only at h1 h2 h3
    rw [h1, h2, h3]
  · rintro rfl; exact ⟨rfl, rfl, rfl⟩
theorem SameFiles_ok {st st' fl fl' : Bool} (a b : List Fil) (ha : a.length ≤ 1000000000) (hb : b.length ≤ 1000000000) : Calc cx 9 [.sl st fl 3 (fils a), .sl st' fl' 3 (fils b)] (.bool (decide (a = b))) :=
  pure_intro (fun a w => Tryz.call9 a w) Tryz.func9 rfl Tryz.ntmps9 rfl .bool fun B => by
    have hla := fils_len a
    have hlb := fils_len b
    by_cases hl : a.length = b.length
    · have e0 : ((((fils a).length : Nat) : Int) != (((fils b).length : Nat) : Int)) = false := by rw [hla, hlb, hl]; exact bne_self_eq_false _
      refine pB [.b false] rfl ?_
      refine S_while (α := Nat) (fun i => [(0, .sl st fl 3 (fils a)), (1, .sl st' fl' 3 (fils b)), (5, .int .i64 (i : Nat))]) (fun _ => []) (fun i => i ≤ a.length ∧ a.take i = b.take i) (fun i => a.length - i) 0
        ⟨Nat.zero_le _, rfl⟩ (.cons rfl (.cons rfl (.cons rfl (.nil _)))) rfl ?_
      rintro i ⟨hi, ht⟩
      have hi : i ≤ a.length := hi
      by_cases hlt : i < a.length
      · have e1 : decide ((i : Int) < (((fils a).length : Nat) : Int)) = true := decide_eq_true (by omega)
        have hltb : i < b.length := by omega
        have g1 : (fils a)[(i : Int).toNat]? = some (filA a[i]) := fils_get hlt
        have g2 : (fils b)[(i : Int).toNat]? = some (filA b[i]) := fils_get hltb
        by_cases he : a[i] = b[i]
        · have hb := (filBeq a[i] b[i]).2 he
          refine pa [.b true, .v (filA a[i]), .v (filA b[i]), .b false] rfl ?_ ?_
          · (repeat' with_reducible apply AllP_cons) <;> try exact aC
            · kernel_rfl
            · rw [hb]; rfl
          refine S_round (i + 1) (by show a.length - (i + 1) < a.length - i; omega) ⟨hlt, by rw [List.take_succ_eq_append_getElem hlt, List.take_succ_eq_append_getElem hltb, ht, he]⟩ (.cons rfl (.cons rfl (.cons (nX (by omega)) (.nil _)))) rfl
        · have hb : (a[i].path == b[i].path && (a[i].text == b[i].text && (a[i].run == b[i].run && true))) = false := by
            cases h : (a[i].path == b[i].path && (a[i].text == b[i].text && (a[i].run == b[i].run && true))) with
            | false => rfl
            | true => exact absurd ((filBeq _ _).1 h) he
          refine pa [.b true, .v (filA a[i]), .v (filA b[i]), .b true] rfl ?_ ?_
          · (repeat' with_reducible apply AllP_cons) <;> try exact aC
            · kernel_rfl
            · rw [hb]; rfl
          refine S_retc .bool rfl trivial ?_
          have hne : a ≠ b := fun e => by subst e; exact he rfl
          rw [decide_eq_false hne]; rfl
      · have e1 : decide ((i : Int) < (((fils a).length : Nat) : Int)) = false := decide_eq_false (by omega)
        refine pB [.b false] rfl ?_
        refine S_retc .bool rfl trivial ?_
        have : a = b := by rw [List.take_of_length_le (by omega), List.take_of_length_le (by omega)] at ht; exact ht
        show AV.bool true = .bool (decide (a = b))
        rw [decide_eq_true this]
    · have e0 : ((((fils a).length : Nat) : Int) != (((fils b).length : Nat) : Int)) = true := by rw [hla, hlb]; simpa using fun h => hl (by omega)
      refine pB [.b true] rfl ?_
      refine S_retc .bool rfl trivial ?_
      show AV.bool false = .bool (decide (a = b))
      rw [decide_eq_false (fun h => hl (by rw [h]))]
end Go.Proofs.YtjkeekbfgnmngaaGreatDoor
end
section
set_option linter.unusedVariables false
set_option linter.unusedSimpArgs false
set_option maxRecDepth 20000
set_option maxHeartbeats 4000000
namespace Go.Proofs.YtjkeekbfgnmngaaGreatDoor
open Go Go.Ab
theorem bl_eq (x y : List UInt8) : Op.bytesLess x y = decide (x < y) := by
  induction x generalizing y with
  | nil => cases y <;> simp [Op.bytesLess]
  | cons a x ih =>
    cases y with
    | nil => simp [Op.bytesLess]
    | cons b y =>
      rw [Op.bytesLess, ih y, Bool.eq_iff_iff]
      simp only [List.cons_lt_cons_iff, Bool.or_eq_true, Bool.and_eq_true, decide_eq_true_eq, beq_iff_eq]
theorem bl_trans {a b c : List UInt8} (h1 : Op.bytesLess a b = true) (h2 : Op.bytesLess b c = true) : Op.bytesLess a c = true := by
  rw [bl_eq] at h1 h2 ⊢
  simp only [decide_eq_true_eq] at h1 h2 ⊢
  exact List.lt_trans h1 h2
theorem bl_irr (a : List UInt8) : Op.bytesLess a a = false := by
  rw [bl_eq]; simp
theorem leS_bl {a b : List UInt8} : leS a b = false → Op.bytesLess b a = true := by
  unfold leS
  rw [bl_eq, bl_eq]
  simp only [Bool.or_eq_false_iff, decide_eq_false_iff_not, beq_eq_false_iff_ne, decide_eq_true_eq]
  rintro ⟨h1, h2⟩
  by_cases h : b < a
  · exact h
  · exact absurd (List.le_antisymm (List.not_lt.1 h) (List.not_lt.1 h1)) h2
theorem leS_true {a b : List UInt8} : leS a b = true → Op.bytesLess b a = false := by
  intro h
  cases hb : Op.bytesLess b a with
  | false => rfl
  | true =>
    unfold leS at h
    cases h1 : Op.bytesLess a b with
    | true => have := bl_trans h1 hb; rw [bl_irr] at this; cases this
    | false =>
      rw [h1] at h
      have e : a = b := by simpa using h
      rw [e, bl_irr] at hb; cases hb
def okU (l : List Fil) (i : Nat) : Prop := ∀ k (hk : k < l.length), k < i → (∀ (h0 : 0 < k), Op.bytesLess (l[k - 1]'(by omega)).path l[k].path = true) ∧ ∀ g ∈ l, insT l[k].path g.path = false
theorem okU_all {l : List Fil} (h : okU l l.length) : okT l := by
  constructor
  · have key : ∀ (d i : Nat) (hi : i + d + 1 < l.length), Op.bytesLess (l[i]'(by omega)).path (l[i + d + 1]'hi).path = true := by
      intro d
      induction d with
      | zero => intro i hi; exact (h (i + 1) hi hi).1 (by omega)
      | succ d ih =>
        intro i hi
        exact bl_trans (ih i (by omega)) ((h (i + d + 1 + 1) hi hi).1 (by omega))
    rw [List.pairwise_iff_getElem]
    intro i j hi hj hij
    have := key (j - i - 1) i (by omega)
    simp only [show i + (j - i - 1) + 1 = j by omega] at this
    exact this
  · intro f hf g hg
    obtain ⟨k, hk, rfl⟩ := List.getElem_of_mem hf
    exact (h k hk hk).2 g hg
theorem okT_adj {l : List Fil} (h : okT l) {k : Nat} (hk : k < l.length) (h0 : 0 < k) : Op.bytesLess (l[k - 1]'(by omega)).path l[k].path = true := List.pairwise_iff_getElem.1 h.1 _ _ _ hk (by omega)
structure FilsOk (l : List Fil) : Prop where
  len : l.length ≤ 1000000000
  path : ∀ f ∈ l, f.path.length ≤ 1000000000000
  text : ∀ f ∈ l, f.text.length ≤ 1000000000000
def filBx (v : Nat) (f : Fil) : Nat × Option Box := (v, some (.cells [.str f.path, .str f.text, .bool f.run] ⟨false, some 25⟩))
theorem Check_ok {st fl : Bool} (l : List Fil) (hl : FilsOk l) : Calc cx 10 [.sl st fl 3 (fils l)] (.int .i64 (chkT l : Nat)) :=
  pure_intro (fun a w => Tryz.call10 a w) Tryz.func10 rfl Tryz.ntmps10 rfl .int fun B => by
    have hll := fils_len l
    have hlen := hl.len
    unfold chkT
    by_cases h60 : 60 < l.length
    · rw [if_pos h60]
      have e0 : decide ((((fils l).length : Nat) : Int) > 60) = true := decide_eq_true (by omega)
      refine pB [.b true] rfl ?_
      exact S_retc .int rfl trivial rfl
    rw [if_neg h60]
    have e0 : decide ((((fils l).length : Nat) : Int) > 60) = false := decide_eq_false (by omega)
    refine pB [.b false] rfl ?_
    refine S_dead ?_ ⟨_, _, .inl rfl⟩
    refine S_while (α := Nat) (fun i => [(0, .sl st fl 3 (fils l)), (12, .sl st fl 3 (fils l)), (13, .int .i64 (((fils l).length : Nat) : Int)), (14, .int .i64 (i : Nat))]) (fun i => [(i, none)]) (fun i => i ≤ l.length ∧ formT (l.take i) = 0) (fun i => l.length - i) 0
      ⟨Nat.zero_le _, rfl⟩ (.cons rfl (.cons rfl (.cons rfl (.cons rfl (.nil _))))) rfl ?_
    rintro i ⟨hi, hf0⟩
    have hi : i ≤ l.length := hi
    by_cases hlt : i < l.length
    · have e1 : decide ((i : Int) < (((fils l).length : Nat) : Int)) = true := decide_eq_true (by omega)
      have g1 : (fils l)[(i : Int).toNat]? = some (filA l[i]) := fils_get hlt
      have hm := List.getElem_mem hlt
      have hP := isPath_ok l[i].path (by have := hl.path _ hm; omega)
      cases hp : isPathB l[i].path with
      | false =>
        rw [hp] at hP
        have hfe : filE l[i] = 1 := by unfold filE; rw [hp]; rfl
        have hft := formT_at hlt hf0 (by rw [hfe]; decide)
        refine pa [.b true, .v (filA l[i]), .v (.bool false), .b true] rfl ?_ ?_
        · (repeat' with_reducible apply AllP_cons) <;> try exact aC
          · exact ⟨_, hP, .cons (.refl .str) (.nil _)⟩
        refine S_retc .int rfl trivial ?_
        rw [hft, hfe]; rfl
      | true =>
        rw [hp] at hP
        by_cases ht : 100000 < l[i].text.length
        · have hfe : filE l[i] = 2 := by unfold filE; rw [hp, if_pos rfl, if_pos ht]
          have hft := formT_at hlt hf0 (by rw [hfe]; decide)
          have e2 : decide ((((l[i].text).length : Nat) : Int) > 100000) = true := decide_eq_true (by omega)
          refine pa [.b true, .v (filA l[i]), .v (.bool true), .b false, .b true] rfl ?_ ?_
          · (repeat' with_reducible apply AllP_cons) <;> try exact aC
            · exact ⟨_, hP, .cons (.refl .str) (.nil _)⟩
          refine S_retc .int rfl trivial ?_
          rw [hft, hfe]; rfl
        · have hfe : filE l[i] = 0 := by unfold filE; rw [hp, if_pos rfl, if_neg ht]
          have e2 : decide ((((l[i].text).length : Nat) : Int) > 100000) = false := decide_eq_false (by omega)
          refine pa [.b true, .v (filA l[i]), .v (.bool true), .b false, .b false, .s] rfl ?_ ?_
          · (repeat' with_reducible apply AllP_cons) <;> try exact aC
            · exact ⟨_, hP, .cons (.refl .str) (.nil _)⟩
          refine S_drop (id := 0) rfl ?_ ⟨.skip, _, .inr ⟨_, _, _, rfl⟩⟩
          refine pB [] rfl ?_
          exact S_round (i + 1) (by show l.length - (i + 1) < l.length - i; omega) ⟨hlt, formT_step hlt hf0 hfe⟩ (.cons rfl (.cons rfl (.cons rfl (.cons (nX (by omega)) (.nil _))))) rfl
    · have e1 : decide ((i : Int) < (((fils l).length : Nat) : Int)) = false := decide_eq_false (by omega)
      have hfz : formT l = 0 := by rw [List.take_of_length_le (by omega)] at hf0; exact hf0
      rw [if_neg (by simp [hfz])]
      refine pB [.b false] rfl ?_
      refine S_dead ?_ ⟨_, _, .inl rfl⟩
      refine S_while (α := Nat × Nat × Nat) (fun q => [(0, .sl st fl 3 (fils l)), (27, .sl st fl 3 (fils l)), (28, .int .i64 (((fils l).length : Nat) : Int)), (29, .int .i64 (q.1 : Nat))]) (fun q => [(q.2.1, none), (q.2.2, none)]) (fun q => q.1 ≤ l.length ∧ okU l q.1) (fun q => l.length - q.1) (0, i, 0)
        ⟨Nat.zero_le _, fun k hk h => absurd h (Nat.not_lt_zero _)⟩ (.cons rfl (.cons rfl (.cons rfl (.cons rfl (.nil _))))) rfl ?_
      rintro ⟨i, u, v⟩ ⟨hi, hU⟩
      have hi : i ≤ l.length := hi
      have hU : okU l i := hU
      by_cases hlt : i < l.length
      · have e1 : decide ((i : Int) < (((fils l).length : Nat) : Int)) = true := decide_eq_true (by omega)
        have g1 : (fils l)[(i : Int).toNat]? = some (filA l[i]) := fils_get hlt
        have hm := List.getElem_mem hlt
        by_cases hbad : ∃ h0 : 0 < i, leS l[i].path (l[i - 1]'(by omega)).path = true
        · obtain ⟨h0, hb⟩ := hbad
          have hno : ¬ okT l := fun h => by have := okT_adj h hlt h0; rw [leS_true hb] at this; cases this
          have e2 : decide ((i : Int) > 0) = true := decide_eq_true (by omega)
          have hw : IntKind.i64.wrap ((i : Int) - 1) = ((i - 1 : Nat) : Int) := w64 (by omega) (by omega)
          have g2 : (fils l)[(((i - 1 : Nat) : Nat) : Int).toNat]? = some (filA (l[i - 1]'(by omega))) := fils_get (by omega)
          rw [if_neg hno]
          refine pa [.b true, .v (filA l[i]), .b true, .v (filA (l[i - 1]'(by omega))), .b true] rfl ?_ ?_
          · (repeat' with_reducible apply AllP_cons) <;> try exact aC
            · rw [hw]; exact g2
          exact S_retc .int rfl trivial rfl
        have hadj : ∀ h0 : 0 < i, Op.bytesLess (l[i - 1]'(by omega)).path l[i].path = true := fun h0 => leS_bl (by
          cases h : leS l[i].path (l[i - 1]'(by omega)).path with
          | false => rfl
          | true => exact absurd ⟨h0, h⟩ hbad)
        rcases Nat.eq_zero_or_pos i with h0 | h0
        case' inl =>
          have e2 : decide ((i : Int) > 0) = false := decide_eq_false (by omega)
          refine pB [.b true, .v (filA l[i]), .b false, .b false] rfl ?_
        case' inr =>
          have e2 : decide ((i : Int) > 0) = true := decide_eq_true (by omega)
          have hw : IntKind.i64.wrap ((i : Int) - 1) = ((i - 1 : Nat) : Int) := w64 (by omega) (by omega)
          have g2 : (fils l)[(((i - 1 : Nat) : Nat) : Int).toNat]? = some (filA (l[i - 1]'(by omega))) := fils_get (by omega)
          have hb : leS l[i].path (l[i - 1]'(by omega)).path = false := by
            cases h : leS l[i].path (l[i - 1]'(by omega)).path with
            | false => rfl
            | true => exact absurd ⟨h0, h⟩ hbad
          refine pa [.b true, .v (filA l[i]), .b true, .v (filA (l[i - 1]'(by omega))), .b false] rfl ?_ ?_
          · (repeat' with_reducible apply AllP_cons) <;> try exact aC
            · rw [hw]; exact g2
        all_goals
          refine S_while (α := Nat × Nat) (fun q => [(0, .sl st fl 3 (fils l)), (27, .sl st fl 3 (fils l)), (28, .int .i64 (((fils l).length : Nat) : Int)), (29, .int .i64 (i : Nat)), (6, .ptr 0 (u + 1) 0), (47, .sl st fl 3 (fils l)), (48, .int .i64 (((fils l).length : Nat) : Int)), (49, .int .i64 (q.1 : Nat))]) (fun q => [filBx (u + 1) l[i], (q.2, none)]) (fun q => q.1 ≤ l.length ∧ ∀ k (hk : k < l.length), k < q.1 → insT l[i].path l[k].path = false) (fun q => l.length - q.1) (0, v)
            ⟨Nat.zero_le _, fun k hk h => absurd h (Nat.not_lt_zero _)⟩ (.cons rfl (.cons rfl (.cons rfl (.cons rfl (.cons rfl (.cons rfl (.cons rfl (.cons rfl (.nil _))))))))) rfl ?_
          rintro ⟨j, y⟩ ⟨hj, hI⟩
          have hj : j ≤ l.length := hj
          by_cases hjt : j < l.length
          · have e3 : decide ((j : Int) < (((fils l).length : Nat) : Int)) = true := decide_eq_true (by omega)
            have g3 : (fils l)[(j : Int).toNat]? = some (filA l[j]) := fils_get hjt
            have hN := inside_ok l[i].path l[j].path (hl.path _ hm)
            cases hin : insT l[i].path l[j].path with
            | true =>
              rw [hin] at hN
              have hno : ¬ okT l := fun h => by have := h.2 _ hm _ (List.getElem_mem hjt); rw [hin] at this; cases this
              rw [if_neg hno]
              refine pa [.b true, .v (filA l[j]), .v (.bool true), .b true] rfl ?_ ?_
              · (repeat' with_reducible apply AllP_cons) <;> try exact aC
                · exact ⟨_, hN, .cons (.refl .str) (.cons (.refl .str) (.nil _))⟩
              exact S_retc .int rfl trivial rfl
            | false =>
              rw [hin] at hN
              refine pa [.b true, .v (filA l[j]), .v (.bool false), .b false, .s] rfl ?_ ?_
              · (repeat' with_reducible apply AllP_cons) <;> try exact aC
                · exact ⟨_, hN, .cons (.refl .str) (.cons (.refl .str) (.nil _))⟩
              refine S_drop (id := 1) rfl ?_ ⟨.skip, _, .inr ⟨_, _, _, rfl⟩⟩
              refine pB [] rfl ?_
              refine S_round (j + 1, y + 1) (by show l.length - (j + 1) < l.length - j; omega) ⟨hjt, fun k hk h => ?_⟩ (.cons rfl (.cons rfl (.cons rfl (.cons rfl (.cons rfl (.cons rfl (.cons rfl (.cons (nX (by omega)) (.nil _))))))))) rfl
              have h : k < j + 1 := h
              by_cases hkj : k < j
              · exact hI k hk hkj
              · have : k = j := by omega
                subst this; exact hin
          · have e3 : decide ((j : Int) < (((fils l).length : Nat) : Int)) = false := decide_eq_false (by omega)
            refine pB [.b false, .s] rfl ?_
            refine S_drop (id := 0) rfl ?_ ⟨.skip, _, .inr ⟨_, _, _, rfl⟩⟩
            refine pB [] rfl ?_
            refine S_round (i + 1, u + 1, y) (by show l.length - (i + 1) < l.length - i; omega) ⟨hlt, fun k hk h => ?_⟩ (.cons rfl (.cons rfl (.cons rfl (.cons (nX (by omega)) (.nil _))))) rfl
            have h : k < i + 1 := h
            by_cases hki : k < i
            · exact hU k hk hki
            · have : k = i := by omega
              subst this
              refine ⟨hadj, fun g hg => ?_⟩
              obtain ⟨q, hq, rfl⟩ := List.getElem_of_mem hg
              exact hI q hq (by show q < j; omega)
      · have e1 : decide ((i : Int) < (((fils l).length : Nat) : Int)) = false := decide_eq_false (by omega)
        have hok : okT l := okU_all (by rw [show l.length = i by omega]; exact hU)
        rw [if_pos hok]
        refine pB [.b false] rfl ?_
        exact S_retc .int rfl trivial rfl
end Go.Proofs.YtjkeekbfgnmngaaGreatDoor
end
section
set_option linter.unusedVariables false
set_option linter.unusedSimpArgs false
set_option maxRecDepth 20000
namespace Go.Proofs.YtjkeekbfgnmngaaGreatDoor
open Go Go.Ab
theorem noescape (v : Value) (w : World) : (callFunc 156 #[v]).run cx.P w = .ok (.value v) w := by
  show (callFunc 156 #[v]).run Tryz.prog w = _
  rw [run_callFunc_extern Tryz.func156 rfl rfl rfl (e := Extern.AbiNoEscape.same) rfl]
  rfl
structure HoldsB (T : TypeId) (n : Nat) : Prop where
  pos : 0 < cx.P.cellsOf T
  le : cx.P.cellsOf T ≤ n
  lies : ∀ k, liesAt cx.P cx.P.depth T (k + 1) 0 84 1 = true
def bBox (T : TypeId) (a b : AV) (rest : List AV) : Box := .cells (a :: b :: rest) ⟨false, some T⟩
def byBox (bs : List UInt8) : Box := .cells (bs.map byteAV) ⟨false, some 5⟩
theorem copyCheck_ok {T : TypeId} {rest : List AV} (hT : HoldsB T (rest.length + 1 + 1)) (v : Nat) (a b : AV) (ha : a = .nilp ∨ a = .ptr 0 v 0) (y : Nat × Option Box) :
    CallOk cx 124 [.ptr 0 v 0] [(v, some (bBox T a b rest)), y] (fun o σ' => o = .ret (.tup []) ∧ σ' = [(v, some (bBox T (.ptr 0 v 0) b rest)), y]) :=
  callOk_intro (fun a w => Tryz.call124 a w) Tryz.func124 rfl Tryz.ntmps124 rfl fun B => by
    rcases ha with rfl | rfl
    · refine ab 1000 rfl ⟨rfl, trivial⟩ ?_
      refine S_cond rfl (fun _ => ?_) (fun h => ?_)
      · refine ab 1000 rfl trivial ?_
        refine S_toU rfl rfl rfl ⟨rfl, by simp, by decide, trivial⟩ ?_
        refine S_same noescape rfl rfl rfl ?_
        refine S_fromU rfl rfl rfl ⟨rfl, rfl, hT.pos, hT.le, hT.lies, trivial⟩ ?_
        refine ab 1000 rfl ⟨lble rfl, rfl, trivial⟩ ?_
        exact S_nil ⟨_, _, rfl, trivial, rfl, rfl⟩
      · cases h
    · refine ab 1000 rfl ⟨rfl, trivial⟩ ?_
      refine S_cond rfl (fun h => ?_) (fun _ => ?_)
      · cases h
      · refine ab 1000 rfl ⟨rfl, rfl, trivial⟩ ?_
        refine S_cond rfl (fun h => ?_) (fun _ => ?_)
        · cases h
        · refine ab 1000 rfl trivial ?_
          exact S_nil ⟨_, _, rfl, trivial, rfl, rfl⟩
theorem writeByte_ok {T : TypeId} {rest : List AV} (hT : HoldsB T (rest.length + 1 + 1)) (v u : Nat) (a : AV) (ha : a = .nilp ∨ a = .ptr 0 v 0) (bs : List UInt8) (c : UInt8) (hl : bs.length < 140737488355328) :
    CallOk cx 92 [.ptr 0 v 0, byteAV c] [(v, some (bBox T a (.ms 1 u 0 bs.length 1 false) rest)), (u, some (byBox bs))]
      (fun o σ' => o = .ret .nili ∧ σ' = [(v, some (bBox T (.ptr 0 v 0) (.ms 1 (u + 1) 0 (bs ++ [c]).length 1 false) rest)), (u + 1, some (byBox (bs ++ [c])))]) :=
  callOk_intro (fun a w => Tryz.call92 a w) Tryz.func92 rfl Tryz.ntmps92 rfl fun B => by
    refine ab 1000 rfl trivial ?_
    refine S_call rfl rfl rfl (copyCheck_ok hT v a _ ha _) ?_ (fun v σ' h => by cases h.1)
    rintro _ _ ⟨⟨⟩, rfl⟩
    refine ab 1000 rfl ⟨lble rfl, rfl, ?_, ?_, ?_, rfl, rfl, allOne_mem (cs := [byteAV c]) rfl, allOne_mem (cs := [byteAV c]) rfl, rfl, rfl, trivial⟩ ?_
    · show bs.length + 1 ≤ 9223372036854775807; omega
    · show (bs.length + 1) * 1 ≤ 140737488355328; omega
    · show 0 + bs.length * 1 = (bs.map byteAV).length; simp
    refine S_ret ⟨_, _, rfl, trivial, rfl, ?_⟩
    show [(v, some (Box.cells (_ :: .ms 1 (u + 1) 0 (bs.length + 1) 1 false :: rest) _)), (u + 1, some (.cells (bs.map byteAV ++ [byteAV c]) _))] = _
    simp [byBox, bBox]
    rfl
theorem string_ok {T : TypeId} {rest : List AV} (v u : Nat) (a : AV) (bs : List UInt8) (h0 : bs ≠ []) (hl : bs.length ≤ 140737488355328) :
    CallOk cx 90 [.ptr 0 v 0] [(v, some (bBox T a (.ms 1 u 0 bs.length 1 false) rest)), (u, some (byBox bs))]
      (fun o σ' => o = .ret (.str bs) ∧ σ' = [(v, some (bBox T a (.ms 1 u 0 bs.length 1 false) rest)), (u, none)]) :=
  callOk_intro (fun a w => Tryz.call90 a w) Tryz.func90 rfl Tryz.ntmps90 rfl fun B => by
    refine ab 1000 rfl trivial ?_
    have hpos : 0 < bs.length := List.length_pos_iff.2 h0
    refine S_draw 10 [] [] rfl rfl rfl rfl ⟨rfl, rfl, rfl, rfl, rfl, rfl, hpos, rfl, rfl, rfl, rfl, rfl, rfl, trivial⟩ ?_
    refine S_ustr bs rfl rfl rfl ⟨rfl, rfl, rfl, rfl, h0, by omega, List.take_of_length_le (by simp), trivial⟩ ?_
    refine ab 1000 rfl trivial ?_
    exact S_ret ⟨_, _, rfl, trivial, rfl, rfl⟩
end Go.Proofs.YtjkeekbfgnmngaaGreatDoor
end
section
set_option linter.unusedVariables false
set_option linter.unusedSimpArgs false
set_option maxRecDepth 20000
namespace Go.Proofs.YtjkeekbfgnmngaaGreatDoor
open Go Go.Ab
theorem writeString_ok {T : TypeId} {rest : List AV} (hT : HoldsB T (rest.length + 1 + 1)) (v u : Nat) (a : AV) (ha : a = .nilp ∨ a = .ptr 0 v 0) (bs cs : List UInt8) (hl : bs.length + cs.length ≤ 140737488355328) :
    CallOk cx 91 [.ptr 0 v 0, .str cs] [(v, some (bBox T a (.ms 1 u 0 bs.length 1 false) rest)), (u, some (byBox bs))]
      (fun o σ' => o = .ret (.tup [.int .i64 cs.length, .nili]) ∧ σ' = [(v, some (bBox T (.ptr 0 v 0) (.ms 1 (u + 1) 0 (bs ++ cs).length 1 false) rest)), (u + 1, some (byBox (bs ++ cs)))]) :=
  callOk_intro (fun a w => Tryz.call91 a w) Tryz.func91 rfl Tryz.ntmps91 rfl fun B => by
    refine ab 1000 rfl trivial ?_
    refine S_call rfl rfl rfl (copyCheck_ok hT v a _ ha _) ?_ (fun v σ' h => by cases h.1)
    rintro _ _ ⟨⟨⟩, rfl⟩
    refine ab 1000 rfl ⟨lble rfl, rfl, ?_, ?_, ?_, rfl, rfl, ?_, rfl, trivial⟩ ?_
    · show bs.length + cs.length ≤ 9223372036854775807; omega
    · show (bs.length + cs.length) * 1 ≤ 140737488355328; omega
    · show 0 + bs.length * 1 = (bs.map byteAV).length; simp
    · intro y hy; obtain ⟨x, _, rfl⟩ := List.mem_map.1 hy; rfl
    refine S_ret ⟨_, _, rfl, trivial, rfl, ?_⟩
    show [(v, some (Box.cells (_ :: .ms 1 (u + 1) 0 (bs.length + cs.length) 1 false :: rest) _)), (u + 1, some (.cells (bs.map byteAV ++ cs.map byteAV) _))] = _
    simp [byBox, bBox]
    rfl
end Go.Proofs.YtjkeekbfgnmngaaGreatDoor
end
section
set_option linter.unusedVariables false
set_option linter.unusedSimpArgs false
set_option maxRecDepth 20000
namespace Go.Proofs.YtjkeekbfgnmngaaGreatDoor
open Go Go.Ab
theorem holdsPacker : HoldsB 86 3 := ⟨lble rfl, lble rfl, fun k => by kernel_rfl⟩
def packN : Nat → Nat → List UInt8
  | 0, n => [UInt8.ofNat n]
  | k + 1, n => if n < 128 then [UInt8.ofNat n] else UInt8.ofNat (n % 128 + 128) :: packN k (n / 128)
theorem packN_ne (k n : Nat) : packN k n ≠ [] := by cases k <;> simp [packN]; split <;> simp
theorem packN_len : ∀ k n, (packN k n).length ≤ k + 1
  | 0, n => by simp [packN]
  | k + 1, n => by
    have := packN_len k (n / 128)
    unfold packN; split <;> simp; omega
def pk (v u : Nat) (a : AV) (bs : List UInt8) : Heap := [(v, some (bBox 86 a (.ms 1 u 0 bs.length 1 false) [.int .i64 0])), (u, some (byBox bs))]
theorem number_ok (v u : Nat) (a : AV) (ha : a = .nilp ∨ a = .ptr 0 v 0) (bs : List UInt8) (m : Nat) (hm : m ≤ 9223372036854775807) (hl : bs.length + 10 ≤ 140737488355328) :
    CallOk cx 55 [.ptr 0 v 0, .int .i64 m] (pk v u a bs) (fun o σ' => o = .ret (.tup []) ∧ ∃ u', σ' = pk v u' (.ptr 0 v 0) (bs ++ packN 9 m)) :=
  callOk_intro (fun a w => Tryz.call55 a w) Tryz.func55 rfl Tryz.ntmps55 rfl fun B => by
    refine ab 1000 rfl trivial ?_
    refine S_while (α := Nat × AV × List UInt8 × Nat × Nat) (fun (u, a, bs, m, j) => [(0, .ptr 0 v 0), (1, .int .i64 m)]) (fun (u, a, bs, m, j) => pk v u a bs)
      (fun (u, a, cs, m', j) => ((a = .nilp ∨ a = .ptr 0 v 0) ∧ j ≤ 9 ∧ m' < 128 ^ (j + 1) ∧ cs.length + j = bs.length + 9 ∧ cs ++ packN j m' = bs ++ packN 9 m) ∧ m' ≤ 9223372036854775807) (fun (u, a, bs, m, j) => j) (u, a, bs, m, 9)
      ⟨⟨ha, by decide, by omega, rfl, rfl⟩, hm⟩ (.cons rfl (.cons rfl (.nil _))) rfl ?_
    rintro ⟨u, a, cs, m', j⟩ ⟨⟨ha, hj, hm', hlen, hN⟩, hmb⟩
    refine ab 1000 rfl trivial ?_
    refine S_dec rfl (fun h => ?_) (fun h => ?_)
    · have hm : m' > 127 := by omega
      have hj0 : ∃ i, j = i + 1 := by
        cases j with
        | zero => simp at hm'; omega
        | succ i => exact ⟨i, rfl⟩
      obtain ⟨i, rfl⟩ := hj0
      have h63 : m' < 9223372036854775808 := Nat.lt_succ_of_le hmb
      refine ab 1000 rfl trivial ?_
      refine S_calle rfl rfl rfl (args := [.ptr 0 v 0, byteAV (UInt8.ofNat (m' % 128 + 128))]) ?_ (writeByte_ok holdsPacker v u a ha cs (UInt8.ofNat (m' % 128 + 128)) (by omega)) ?_ (fun v σ' h => by cases h.1)
      · have h1 : bitsA .or .i64 (bitsA .and .i64 (m' : Int) 127) 128 = ((m' % 128 + 128 : Nat) : Int) := by
          rw [show (127 : Int) = ((127 : Nat) : Int) from rfl, and_i64 h63 (by decide), show (128 : Int) = ((128 : Nat) : Int) from rfl, Nat.and_two_pow_sub_one_eq_mod m' 7, or_i64 (by omega) (by decide)]
          have h2 : m' % 2 ^ 7 ||| 128 = m' % 128 + 128 := by
            have := Nat.two_pow_add_eq_or_of_lt (i := 7) (b := m' % 128) (by omega) 1
            rw [Nat.or_comm]
            show 2 ^ 7 * 1 ||| m' % 128 = _
            rw [← this]; omega
          rw [h2]
        show [AV.ptr 0 v 0, AV.int .u8 (IntKind.u8.wrap (bitsA .or .i64 (bitsA .and .i64 (m' : Int) 127) 128))] = _
        rw [h1, wu8 rfl (by omega)]
        rw [byteAV_of rfl (by omega)]
      rintro _ _ ⟨⟨⟩, rfl⟩
      refine ab 1000 rfl ⟨by decide, trivial⟩ ?_
      refine S_round (u + 1, .ptr 0 v 0, cs ++ [UInt8.ofNat (m' % 128 + 128)], m' / 128, i) (by show i < i + 1; omega) ⟨⟨.inr rfl, by omega, ?_, by simp; omega, ?_⟩, by show m' / 128 ≤ _; omega⟩ (.cons rfl (.cons ?_ (.nil _))) rfl
      · rw [Nat.div_lt_iff_lt_mul (by decide)]; rw [Nat.pow_succ] at hm'; omega
      · rw [← hN, packN, if_neg (by omega)]; simp
      · show AV.int .i64 ((m' : Int).fdiv (2 ^ 7)) = _
        rw [shr_nat]
    · have hm : m' ≤ 127 := by omega
      refine ab 1000 rfl trivial ?_
      refine S_calle rfl rfl rfl (args := [.ptr 0 v 0, byteAV (UInt8.ofNat m')]) ?_ (writeByte_ok holdsPacker v u a ha cs (UInt8.ofNat m') (by omega)) ?_ (fun v σ' h => by cases h.1)
      · show [AV.ptr 0 v 0, AV.int .u8 (IntKind.u8.wrap (m' : Int))] = _
        rw [wu8 rfl (by omega), byteAV_of rfl (by omega)]
      rintro _ _ ⟨⟨⟩, rfl⟩
      refine ab 1000 rfl trivial ?_
      refine S_nil ⟨_, _, rfl, trivial, rfl, u + 1, ?_⟩
      have hp : packN j m' = [UInt8.ofNat m'] := by cases j <;> simp [packN]; omega
      rw [← hN, hp]
      rfl
set_option maxRecDepth 4000 in
theorem done_ok (v u : Nat) (a : AV) (bs : List UInt8) (h0 : bs ≠ []) (hl : bs.length ≤ 140737488355328) :
    CallOk cx 52 [.ptr 0 v 0] (pk v u a bs) (fun o σ' => o = .ret (.tup [.str bs, .int .i64 0]) ∧ σ' = [(v, some (bBox 86 a (.ms 1 u 0 bs.length 1 false) [.int .i64 0])), (u, none)]) :=
  callOk_intro (fun a w => Tryz.call52 a w) Tryz.func52 rfl Tryz.ntmps52 rfl fun B => by
    refine ab 1000 rfl ⟨rfl, trivial⟩ ?_
    refine S_cond rfl (fun h => absurd h (by decide)) (fun _ => ?_)
    refine ab 1000 rfl trivial ?_
    refine S_call rfl rfl rfl (string_ok v u a bs h0 hl) ?_ (fun v σ' h => by cases h.1)
    rintro _ _ ⟨⟨⟩, rfl⟩
    refine ab 1000 rfl trivial ?_
    exact S_ret ⟨_, _, rfl, trivial, rfl, rfl⟩
end Go.Proofs.YtjkeekbfgnmngaaGreatDoor
end
section
set_option linter.unusedVariables false
set_option linter.unusedSimpArgs false
set_option maxRecDepth 20000
namespace Go.Proofs.YtjkeekbfgnmngaaGreatDoor
open Go Go.Ab
def readN : List UInt8 → Nat → Nat → Nat × Nat × Nat
  | [], _, _ => (0, 0, 1)
  | c :: r, i, n =>
    if i = 8 then (0, 0, 3)
    else
      let n' := n + c.toNat % 128 * 128 ^ i
      if 127 < c.toNat then readN r (i + 1) n'
      else if c.toNat = 0 ∧ 0 < i then (0, 0, 1)
      else if 9007199254740991 < n' then (0, 0, 3)
      else (n', i + 1, 0)
def numAV (x : Nat × Nat × Nat) : AV := .tup [.int .i64 x.1, .int .i64 x.2.1, .int .i64 x.2.2]
theorem numAV_free (x : Nat × Nat × Nat) : Free true (numAV x) := .tup (by intro y hy; simp at hy; rcases hy with rfl | rfl | rfl <;> exact .int)
theorem ReadNumber_ok (s : List UInt8) (hs : s.length ≤ 9223372036854775806) : Calc cx 38 [.str s] (numAV (readN s 0 0)) :=
  pure_intro (fun a w => Tryz.call38 a w) Tryz.func38 rfl Tryz.ntmps38 rfl (numAV_free _) fun B => by
    refine ab 1000 rfl trivial ?_
    refine S_while (α := Nat × Nat) (fun (i, n) => [(0, .str s), (5, .int .i64 n), (9, .int .i64 s.length), (10, .int .i64 i)]) (fun _ => [])
      (fun (i, n) => i ≤ s.length ∧ i ≤ 8 ∧ n < 128 ^ i ∧ readN (s.drop i) i n = readN s 0 0) (fun (i, _) => s.length - i) (0, 0)
      ⟨by simp, by decide, by decide, rfl⟩ (.cons rfl (.cons rfl (.cons rfl (.cons rfl (.nil _))))) rfl ?_
    rintro ⟨i, n⟩ ⟨hi, hi8, hn, hN⟩
    refine ab 1000 rfl trivial ?_
    refine S_dec rfl (fun h => ?_) (fun h => ?_)
    · have hil : i < s.length := by omega
      rw [List.drop_eq_getElem_cons hil] at hN
      refine ab 1000 rfl trivial ?_
      refine S_beq rfl (fun hb => ?_) (fun hb => ?_)
      · have h8 : i = 8 := by omega
        refine ab 1000 rfl trivial ?_
        refine S_retc (numAV_free _) rfl trivial ?_
        rw [show readN s 0 0 = (0, 0, 3) by rw [← hN]; simp [readN, h8]]; rfl
      · have h8 : i ≠ 8 := by omega
        have hi7 : i ≤ 7 := by omega
        have hw7 : IntKind.i64.wrap (7 * (i : Int)) = ((7 * i : Nat) : Int) := w64 rfl (by omega)
        refine ab 1000 rfl ⟨by rw [hw7]; omega, h, by omega, trivial⟩ ?_
        have hgd : s.getD i 0 = s[i] := by simp [List.getD, hil]
        have hc := s[i].toNat_lt
        obtain ⟨c, hcd⟩ : ∃ c, c = s[i].toNat := ⟨_, rfl⟩
        rw [← hcd] at hc
        have hwc : IntKind.i64.wrap (((s.getD i 0).toNat : Nat) : Int) = (c : Int) := by rw [hgd, ← hcd]; exact w64 rfl (by omega)
        have hpow : 128 ^ i ≤ 128 ^ 7 := Nat.pow_le_pow_right (by decide) hi7
        have hmul : c % 128 * 128 ^ i ≤ 127 * 128 ^ 7 := Nat.mul_le_mul (by omega) hpow
        have hn5 : bitsA .or .i64 (n : Int) (IntKind.i64.wrap (bitsA .and .i64 (IntKind.i64.wrap (((s.getD i 0).toNat : Nat) : Int)) 127 * 2 ^ min (IntKind.i64.wrap (7 * (i : Int))).toNat IntKind.i64.bits)) = ((n + c % 128 * 128 ^ i : Nat) : Int) := by
          rw [hwc, hw7, show (127 : Int) = ((127 : Nat) : Int) from rfl, and_i64 (by omega) (by decide), Nat.and_two_pow_sub_one_eq_mod c 7, Int.toNat_natCast, Nat.min_eq_left (show 7 * i ≤ IntKind.i64.bits by show 7 * i ≤ 64; omega)]
          have h2i : (2 : Int) ^ (7 * i) = ((128 ^ i : Nat) : Int) := by
            rw [show (128 : Nat) = 2 ^ 7 from rfl, ← Nat.pow_mul]; simp
          rw [h2i, show (((c % 2 ^ 7 : Nat) : Int) * ((128 ^ i : Nat) : Int)) = ((c % 128 * 128 ^ i : Nat) : Int) from rfl]
          rw [wrap_i64n (by omega), or_i64 (by omega) (by omega)]
          have h2 := Nat.two_pow_add_eq_or_of_lt (i := 7 * i) (b := n) (by rw [Nat.pow_mul]; exact hn) (c % 128)
          rw [Nat.pow_mul, Nat.mul_comm] at h2
          rw [Nat.or_comm]
          show ((c % 128 * (2 ^ 7) ^ i ||| n : Nat) : Int) = _
          rw [← h2, Nat.add_comm]
        have hN' : readN s 0 0 = if 127 < c then readN (s.drop (i + 1)) (i + 1) (n + c % 128 * 128 ^ i) else if c = 0 ∧ 0 < i then (0, 0, 1) else if 9007199254740991 < n + c % 128 * 128 ^ i then (0, 0, 3) else (n + c % 128 * 128 ^ i, i + 1, 0) := by
          rw [← hN]; simp only [readN, if_neg h8, ← hcd]
        have hn' : n + c % 128 * 128 ^ i < 128 ^ (i + 1) := by
          have : c % 128 * 128 ^ i ≤ 127 * 128 ^ i := Nat.mul_le_mul (by omega) (Nat.le_refl _)
          rw [Nat.pow_succ]; omega
        generalize hgn : n + c % 128 * 128 ^ i = n' at *
        refine S_weak (fr' := [(0, .str s), (5, .int .i64 n'), (6, .int .i64 i), (7, .int .i64 c), (9, .int .i64 s.length), (10, .int .i64 i), (26, .bool (decide ((c : Int) > 127)))])
          (.cons rfl (.cons (congrArg _ hn5) (.cons rfl (.cons (congrArg _ hwc) (.cons rfl (.cons rfl (.cons (congrArg (fun z : Int => AV.bool (decide (z > 127))) hwc) (.nil _)))))))) ?_
        refine S_dec rfl (fun h27 => ?_) (fun h27 => ?_)
        · refine ab 1000 rfl trivial ?_
          refine S_round (i + 1, n') (by show s.length - (i + 1) < s.length - i; omega) ⟨hil, by omega, hn', ?_⟩ (.cons rfl (.cons rfl (.cons rfl (.cons (ai64 rfl (by omega)) (.nil _))))) rfl
          rw [hN', if_pos (by omega)]
        · rw [if_neg (by omega)] at hN'
          refine ab 1000 rfl trivial ?_
          refine S_guard rfl rfl rfl rfl (fun hg => ?_) (fun hg => ?_)
          · have hc0 : c = 0 := by simpa using hg
            refine ab 1000 rfl trivial ?_
            refine S_dec rfl (fun hi0 => ?_) (fun hi0 => ?_)
            · refine ab 1000 rfl trivial ?_
              refine S_retc (numAV_free _) rfl trivial ?_
              rw [hN', if_pos ⟨hc0, by omega⟩]; rfl
            · rw [if_neg (by omega)] at hN'
              refine ab 1000 rfl trivial ?_
              refine S_dec rfl (fun hbig => ?_) (fun hbig => ?_)
              · refine ab 1000 rfl trivial ?_
                refine S_retc (numAV_free _) rfl trivial ?_
                rw [hN', if_pos (by omega)]; rfl
              · refine ab 1000 rfl trivial ?_
                refine S_retc (numAV_free _) rfl trivial ?_
                rw [hN', if_neg (by omega)]
                show AV.tup [.int .i64 n', .int .i64 (IntKind.i64.wrap ((i : Int) + 1)), .int .i64 0] = _
                rw [w64 (x := (i : Int) + 1) (k := i + 1) rfl (by omega)]; rfl
          · have hc0 : c ≠ 0 := by simpa using hg
            rw [if_neg (by omega)] at hN'
            refine ab 1000 rfl trivial ?_
            refine S_cond rfl (fun hh => by cases hh) (fun _ => ?_)
            refine ab 1000 rfl trivial ?_
            refine S_dec rfl (fun hbig => ?_) (fun hbig => ?_)
            · refine ab 1000 rfl trivial ?_
              refine S_retc (numAV_free _) rfl trivial ?_
              rw [hN', if_pos (by omega)]; rfl
            · refine ab 1000 rfl trivial ?_
              refine S_retc (numAV_free _) rfl trivial ?_
              rw [hN', if_neg (by omega)]
              show AV.tup [.int .i64 n', .int .i64 (IntKind.i64.wrap ((i : Int) + 1)), .int .i64 0] = _
              rw [w64 (x := (i : Int) + 1) (k := i + 1) rfl (by omega)]; rfl
    · have hil : i = s.length := by omega
      refine ab 1000 rfl trivial ?_
      refine S_retc (numAV_free _) rfl trivial ?_
      rw [show readN s 0 0 = (0, 0, 1) by rw [← hN, hil]; simp [readN]]; rfl
end Go.Proofs.YtjkeekbfgnmngaaGreatDoor
end
section
set_option linter.unusedVariables false
set_option linter.unusedSimpArgs false
set_option maxRecDepth 20000
namespace Go.Proofs.YtjkeekbfgnmngaaGreatDoor
open Go Go.Ab
def packT (s : List UInt8) : List UInt8 := packN 9 s.length ++ s
theorem text_ok (v u : Nat) (a : AV) (ha : a = .nilp ∨ a = .ptr 0 v 0) (bs s : List UInt8) (hl : bs.length + 10 + s.length ≤ 140737488355328) :
    CallOk cx 54 [.ptr 0 v 0, .str s] (pk v u a bs) (fun o σ' => o = .ret (.tup []) ∧ ∃ u', σ' = pk v u' (.ptr 0 v 0) (bs ++ packT s)) :=
  callOk_intro (fun a w => Tryz.call54 a w) Tryz.func54 rfl Tryz.ntmps54 rfl fun B => by
    refine ab 1000 rfl trivial ?_
    have hpl := packN_len 9 s.length
    refine S_call rfl rfl rfl (number_ok v u a ha bs s.length (by omega) (by omega)) ?_ (fun v σ' h => by cases h.1)
    rintro _ _ ⟨⟨⟩, u', rfl⟩
    refine ab 1000 rfl trivial ?_
    refine S_call rfl rfl rfl (writeString_ok holdsPacker v u' _ (.inr rfl) (bs ++ packN 9 s.length) s (by simp; omega)) ?_ (fun v σ' h => by cases h.1)
    rintro _ _ ⟨⟨⟩, rfl⟩
    refine ab 1000 rfl trivial ?_
    refine S_nil ⟨_, _, rfl, trivial, rfl, u' + 1, ?_⟩
    simp only [packT, ← List.append_assoc]; rfl
end Go.Proofs.YtjkeekbfgnmngaaGreatDoor
end
section
set_option linter.unusedVariables false
set_option linter.unusedSimpArgs false
set_option maxRecDepth 20000
namespace Go.Proofs.YtjkeekbfgnmngaaGreatDoor
open Go Go.Ab
def nodeE (n : NodeV) : Nat := if (isName n.name && isDig n.dig) = true then (if n.kind < 1 ∨ 3 < n.kind then 7 else 0) else 1
def chkF (e : Nat) (n : NodeV) : Nat := if e = 0 then nodeE n else e
def chkLoop (l : List NodeV) : Nat := l.foldl chkF 0
def chkN (l : List NodeV) : Nat := if 60 < l.length then 2 else if chkLoop l = 0 then (if riseB (l.map NodeV.name) = true then 0 else 6) else chkLoop l
theorem chk_step {l : List NodeV} {i : Nat} (h : i < l.length) : (l.take (i + 1)).foldl chkF 0 = chkF ((l.take i).foldl chkF 0) l[i] := by
  rw [List.take_succ_eq_append_getElem h, List.foldl_append]; rfl
structure NodesOk (l : List NodeV) : Prop where
  len : l.length ≤ 9223372036854775807
  name : ∀ n ∈ l, n.name.length ≤ 9223372036854775807
  dig : ∀ n ∈ l, n.dig.length ≤ 9223372036854775807
def packNode (n : NodeV) : List UInt8 := packT n.name ++ packN 9 n.kind.toNat ++ packT n.dig
def packNs (l : List NodeV) : List UInt8 := packN 9 l.length ++ l.flatMap packNode
structure NodesFit (l : List NodeV) : Prop where
  len : l.length ≤ 60
  name : ∀ n ∈ l, n.name.length ≤ 20
  kind : ∀ n ∈ l, 1 ≤ n.kind ∧ n.kind ≤ 3
  dig : ∀ n ∈ l, n.dig.length = 64
theorem isName_len {s : List UInt8} (h : isName s = true) : s.length ≤ 20 := by
  unfold isName at h
  simp only [Bool.and_eq_true, decide_eq_true_eq] at h
  exact h.2.2.1
theorem isDig_len {s : List UInt8} (h : isDig s = true) : s.length = 64 := by
  unfold isDig at h
  simp only [Bool.and_eq_true, beq_iff_eq] at h
  exact h.2
theorem chk_all {l : List NodeV} (h : chkLoop l = 0) : ∀ n ∈ l, nodeE n = 0 := by
  have key : ∀ (l : List NodeV) (e : Nat), l.foldl chkF e = 0 → e = 0 ∧ ∀ n ∈ l, nodeE n = 0 := by
    intro l
    induction l with
    | nil => intro e h; exact ⟨h, fun n hn => by cases hn⟩
    | cons a r ih =>
      intro e h
      obtain ⟨h1, h2⟩ := ih _ h
      by_cases he : e = 0
      · refine ⟨he, fun n hn => ?_⟩
        rw [chkF, if_pos he] at h1
        rcases List.mem_cons.1 hn with rfl | hn
        · exact h1
        · exact h2 n hn
      · rw [chkF, if_neg he] at h1; exact absurd h1 he
  exact (key l 0 h).2
theorem chk_fit {l : List NodeV} (h : chkN l = 0) : NodesFit l := by
  unfold chkN at h
  split at h
  · cases h
  · rename_i h60
    split at h
    · rename_i h0
      have ha := chk_all h0
      have hn : ∀ n ∈ l, (isName n.name && isDig n.dig) = true ∧ ¬ (n.kind < 1 ∨ 3 < n.kind) := fun n hn => by
        have := ha n hn
        unfold nodeE at this
        split at this
        · rename_i h1
          split at this
          · cases this
          · exact ⟨h1, by assumption⟩
        · cases this
      refine ⟨by omega, fun n hm => isName_len ?_, fun n hm => ?_, fun n hm => isDig_len ?_⟩
      · have := (hn n hm).1; simp only [Bool.and_eq_true] at this; exact this.1
      · have := (hn n hm).2; omega
      · have := (hn n hm).1; simp only [Bool.and_eq_true] at this; exact this.2
    · rename_i h0; exact absurd h h0
theorem packT_len (s : List UInt8) : (packT s).length ≤ s.length + 10 := by
  have := packN_len 9 s.length
  simp only [packT, List.length_append]; omega
theorem packNode_len {n : NodeV} (h1 : n.name.length ≤ 20) (h2 : n.dig.length = 64) : (packNode n).length ≤ 114 := by
  have a := packT_len n.name
  have b := packT_len n.dig
  have c := packN_len 9 n.kind.toNat
  simp only [packNode, List.length_append]; omega
theorem packNs_len {l : List NodeV} (h1 : ∀ n ∈ l, n.name.length ≤ 20) (h2 : ∀ n ∈ l, n.dig.length = 64) : (l.flatMap packNode).length ≤ l.length * 114 := by
  induction l with
  | nil => simp
  | cons a r ih =>
    have := ih (fun n hn => h1 n (List.mem_cons_of_mem _ hn)) (fun n hn => h2 n (List.mem_cons_of_mem _ hn))
    have := packNode_len (h1 a (List.mem_cons_self ..)) (h2 a (List.mem_cons_self ..))
    rw [List.flatMap_cons, List.length_append, List.length_cons]; omega
end Go.Proofs.YtjkeekbfgnmngaaGreatDoor
end
section
set_option linter.unusedVariables false
set_option linter.unusedSimpArgs false
set_option maxRecDepth 20000
namespace Go.Proofs.YtjkeekbfgnmngaaGreatDoor
open Go Go.Ab
theorem nodeName_ok (n : NodeV) : Calc cx 112 [nodeAV n] (.str n.name) :=
  pure_intro (fun a w => Tryz.call112 a w) Tryz.func112 rfl Tryz.ntmps112 rfl .str fun B => by
    refine ab 1000 rfl ⟨rfl, trivial⟩ ?_
    exact S_retc .str rfl trivial rfl
theorem rises_ok {st fl : Bool} (l : List NodeV) (hl : l.length ≤ 9223372036854775807) : Calc cx 111 [.sl st fl 3 (nodes l), .func (.func 112) [] []] (.bool (riseB (l.map NodeV.name))) :=
  pure_intro (fun a w => Tryz.call111 a w) Tryz.func111 rfl Tryz.ntmps111 rfl .bool fun B => by
    refine ab 1000 rfl trivial ?_
    have hnl := nodes_len l
    have hml : (l.map NodeV.name).length = l.length := by simp
    refine S_while (α := Nat) (fun i => [(0, .sl st fl 3 (nodes l)), (1, .func (.func 112) [] []), (5, .int .i64 (i : Nat))]) (fun _ => []) (fun i => 1 ≤ i ∧ (i = 1 ∨ i ≤ l.length) ∧ (List.range i).all (riseP (l.map NodeV.name)) = true) (fun i => l.length + 1 - i) 1
      ⟨Nat.le_refl _, .inl rfl, rfl⟩ (.cons rfl (.cons rfl (.cons rfl (.nil _)))) rfl ?_
    rintro i ⟨h1, h2, hN⟩
    refine ab 1000 rfl trivial ?_
    refine S_dec rfl (fun hil => ?_) (fun hil => ?_)
    · have hil : i < l.length := by have : (i : Int) < ((nodes l).length : Nat) := hil; omega
      have hil' : i - 1 < l.length := by omega
      have hw : IntKind.i64.wrap ((i : Int) - 1) = ((i - 1 : Nat) : Int) := w64 (by omega) (by omega)
      have g1 : l[i].name = (l.map NodeV.name).getD i [] := by simp [List.getD, hil]
      have g2 : l[i - 1].name = (l.map NodeV.name).getD (i - 1) [] := by simp [List.getD, hil']
      refine ab 1000 rfl trivial ?_
      refine S_draw 14 [] [nodeAV l[i], .str l[i].name, nodeAV l[i - 1], .str l[i - 1].name] rfl rfl rfl rfl ⟨rfl, rfl, rfl, rfl, by omega, by rw [Int.toNat_natCast]; exact nodes_get hil, rfl, ⟨_, nodeName_ok l[i], .cons (.refl (nodeAV_free _)) (.nil _)⟩, rfl, rfl, rfl, rfl, rfl, by rw [hw]; omega, by rw [hw, Int.toNat_natCast]; exact nodes_get hil', rfl, ⟨_, nodeName_ok l[i - 1], .cons (.refl (nodeAV_free _)) (.nil _)⟩, rfl, trivial⟩ ?_
      refine ab 1000 rfl trivial ?_
      refine S_cond rfl (fun h => ?_) (fun h => ?_)
      · have h : leS l[i].name l[i - 1].name = true := h
        rw [g1, g2] at h
        refine ab 1000 rfl trivial ?_
        refine S_retc .bool rfl trivial ?_
        rw [rise_no (by omega) h1 h]; rfl
      · have h : leS l[i].name l[i - 1].name = false := h
        rw [g1, g2] at h
        refine ab 1000 rfl trivial ?_
        exact S_round (i + 1) (by show l.length + 1 - (i + 1) < l.length + 1 - i; omega) ⟨by omega, .inr (by omega), rise_step hN h⟩ (.cons rfl (.cons rfl (.cons (ai64 rfl (by omega)) (.nil _)))) rfl
    · have hil : ¬ i < l.length := by have : ¬ (i : Int) < ((nodes l).length : Nat) := hil; omega
      refine ab 1000 rfl trivial ?_
      refine S_retc .bool rfl trivial ?_
      have : riseB (l.map NodeV.name) = true := by
        rcases Nat.eq_zero_or_pos l.length with h | h
        · rw [riseB, hml, h]; rfl
        · rw [riseB, hml, show l.length = i by omega]; exact hN
      rw [this]; rfl
end Go.Proofs.YtjkeekbfgnmngaaGreatDoor
end
section
set_option linter.unusedVariables false
set_option linter.unusedSimpArgs false
set_option maxRecDepth 20000
namespace Go.Proofs.YtjkeekbfgnmngaaGreatDoor
open Go Go.Ab
def pkE (v u : Nat) (a : AV) (bs : List UInt8) (e : Nat) : Heap := [(v, some (bBox 86 a (.ms 1 u 0 bs.length 1 false) [.int .i64 e])), (u, some (byBox bs))]
def PkR (v : Nat) (o0 : AV) (bs : List UInt8) (e : Nat) : Out → Heap → Prop := fun o σ' => o = .ret o0 ∧ ∃ u a, (a = .nilp ∨ a = .ptr 0 v 0) ∧ σ' = pkE v u a bs e
theorem pnumber_ok (v u : Nat) (a : AV) (ha : a = .nilp ∨ a = .ptr 0 v 0) (bs : List UInt8) (m : Nat) (hm : m ≤ 9223372036854775807) (hl : bs.length + 10 ≤ 140737488355328) :
    CallOk cx 55 [.ptr 0 v 0, .int .i64 m] (pkE v u a bs 0) (PkR v (.tup []) (bs ++ packN 9 m) 0) :=
  (number_ok v u a ha bs m hm hl).mono fun o σ' ⟨h1, u', h2⟩ => ⟨h1, u', _, .inr rfl, h2⟩
theorem ptext_ok (v u : Nat) (a : AV) (ha : a = .nilp ∨ a = .ptr 0 v 0) (bs s : List UInt8) (hl : bs.length + 10 + s.length ≤ 140737488355328) :
    CallOk cx 54 [.ptr 0 v 0, .str s] (pkE v u a bs 0) (PkR v (.tup []) (bs ++ packT s) 0) :=
  (text_ok v u a ha bs s hl).mono fun o σ' ⟨h1, u', h2⟩ => ⟨h1, u', _, .inr rfl, h2⟩
def failE (is : Bool) (e e0 : Nat) : Nat := if is = true ∧ e0 = 0 then e else e0
theorem fail_ok (v u : Nat) (a : AV) (ha : a = .nilp ∨ a = .ptr 0 v 0) (bs : List UInt8) (is : Bool) (e e0 : Nat) :
    CallOk cx 47 [.ptr 0 v 0, .bool is, .int .i64 e] (pkE v u a bs e0) (PkR v (.tup []) bs (failE is e e0)) :=
  callOk_intro (fun a w => Tryz.call47 a w) Tryz.func47 rfl Tryz.ntmps47 rfl fun B => by
    refine ab 1000 rfl trivial ?_
    cases is with
    | false =>
      refine S_guard rfl rfl rfl rfl (fun h => by cases h) (fun _ => ?_)
      refine ab 1000 rfl trivial ?_
      refine S_cond rfl (fun h => by cases h) (fun _ => ?_)
      refine ab 1000 rfl trivial ?_
      exact S_nil ⟨_, _, rfl, trivial, rfl, u, a, ha, by rw [failE, if_neg (by simp)]; rfl⟩
    | true =>
      refine S_guard rfl rfl rfl rfl (fun _ => ?_) (fun h => by cases h)
      refine ab 1000 rfl ⟨rfl, trivial⟩ ?_
      refine S_beq rfl (fun h => ?_) (fun h => ?_)
      · have h0 : e0 = 0 := by omega
        subst h0
        refine ab 1000 rfl ⟨lble rfl, rfl, trivial⟩ ?_
        exact S_nil ⟨_, _, rfl, trivial, rfl, u, a, ha, by rw [failE, if_pos ⟨rfl, rfl⟩]; rfl⟩
      · have h0 : e0 ≠ 0 := by omega
        refine ab 1000 rfl trivial ?_
        exact S_nil ⟨_, _, rfl, trivial, rfl, u, a, ha, by rw [failE, if_neg (by simp [h0])]; rfl⟩
theorem doneE_ok (v u : Nat) (a : AV) (bs : List UInt8) (e : Nat) (he : e ≠ 0) :
    CallOk cx 52 [.ptr 0 v 0] (pkE v u a bs e) (fun o σ' => o = .ret (.tup [.str [], .int .i64 e]) ∧ σ' = pkE v u a bs e) :=
  callOk_intro (fun a w => Tryz.call52 a w) Tryz.func52 rfl Tryz.ntmps52 rfl fun B => by
    refine ab 1000 rfl ⟨rfl, trivial⟩ ?_
    refine S_bne rfl (fun _ => ?_) (fun h => by omega)
    refine ab 1000 rfl trivial ?_
    refine S_draw 5 [] [] rfl rfl rfl rfl ⟨rfl, rfl, rfl, rfl, rfl, rfl, trivial⟩ ?_
    refine ab 1000 rfl trivial ?_
    exact S_ret ⟨_, _, rfl, trivial, rfl, rfl⟩
def pkB (j k v u : Nat) (a : AV) (bs : List UInt8) (e : Nat) : Nat × Option Box := (v, some (bBox 86 a (.ms k u 0 bs.length 1 false) [.int .i64 e]))
def byB (u : Nat) (bs : List UInt8) : Nat × Option Box := (u, some (byBox bs))
theorem bytes_free (bs : List UInt8) : ∀ x ∈ bs.map byteAV, Free false x := by
  intro x hx
  obtain ⟨y, _, rfl⟩ := List.mem_map.1 hx
  exact .int
theorem pk_rn {j k v u e : Nat} {a a' : AV} {bs : List UInt8} (ha : (a = .nilp ∧ a' = .nilp) ∨ (a = .ptr 0 v 0 ∧ a' = .ptr j v 0)) : RnE [j, k] (v, some (bBox 86 a (.ms 1 u 0 bs.length 1 false) [.int .i64 e])) (pkB j k v u a' bs e) := by
  refine .live (.cells (.cons ?_ (.cons (.ms rfl) (.cons (.free .int) (.nil _)))))
  rcases ha with ⟨rfl, rfl⟩ | ⟨rfl, rfl⟩
  · exact .free .nilp
  · exact .ptr rfl
section
variable {n : Nat} {B : Bs} {k : List AI} {Q : Post} {fr : Fr} {σ : Heap}
theorem S_pk {all : Array Oper} {o : Oper} {l : List Oper} {K : List Nat} {f : FuncId} {v u e e' : Nat} {a : AV} {bs bs' : List UInt8} {xs xs' : List AV} {o0 : AV} (j i : Nat) (hc : callA cx fr o.op = some (f, .ptr j v 0 :: xs)) (hg : guardA all o K fr = some true) (hd : dstOk n o.dst = true)
    (hji : ndB [j, i] = true) (hj : σ[j]? = some (pkB j i v u a bs e)) (hi : σ[i]? = some (byB u bs)) (ha : a = .nilp ∨ a = .ptr j v 0) (has : xs = xs') (hfa : ∀ y ∈ xs', Free false y)
    (hcall : ∀ a, (a = .nilp ∨ a = .ptr 0 v 0) → CallOk cx f (.ptr 0 v 0 :: xs') (pkE v u a bs e) (PkR v o0 bs' e')) (ho : Free false o0)
    (hr : ∀ u a, (a = .nilp ∨ a = .ptr j v 0) → S cx n B (.ops all l K :: k) Q (setA o.dst o0 fr) ((σ.set j (pkB j i v u a bs' e')).set i (byB u bs'))) : S cx n B (.ops all (o :: l) K :: k) Q fr σ := by
  subst has
  obtain ⟨a0, ha0, haa⟩ : ∃ a0 : AV, (a0 = .nilp ∨ a0 = .ptr 0 v 0) ∧ ((a0 = .nilp ∧ a = .nilp) ∨ (a0 = .ptr 0 v 0 ∧ a = .ptr j v 0)) := by
    rcases ha with rfl | rfl
    · exact ⟨.nilp, .inl rfl, .inl ⟨rfl, rfl⟩⟩
    · exact ⟨.ptr 0 v 0, .inr rfl, .inr ⟨rfl, rfl⟩⟩
  refine S_callf [j, i] (hcall a0 ha0) hc (.cons (.ptr rfl) (.free hfa)) (Part.mk' (es := [pkB j i v u a bs e, byB u bs]) hji ?_ (.cons (pk_rn haa) (.cons (.live (.cells (Rns.free (bytes_free bs)))) (.nil _)))) hg hd ?_ ?_
  · simp only [pickAll, hj, hi]
  · rintro y σ1 ⟨h1, u', a', ha', rfl⟩
    cases h1
    have hbn : ∃ a2 : AV, ((a' = .nilp ∧ a2 = .nilp) ∨ (a' = .ptr 0 v 0 ∧ a2 = .ptr j v 0)) ∧ (a2 = .nilp ∨ a2 = .ptr j v 0) := by
      rcases ha' with rfl | rfl
      · exact ⟨.nilp, .inl ⟨rfl, rfl⟩, .inl rfl⟩
      · exact ⟨.ptr j v 0, .inr ⟨rfl, rfl⟩, .inr rfl⟩
    obtain ⟨a2, h2, h3⟩ := hbn
    refine ⟨o0, [pkB j i v u' a2 bs' e', byB u' bs'], .cons (pk_rn h2) (.cons (.live (.cells (Rns.free (bytes_free bs')))) (.nil _)), .free ho, ?_⟩
    simpa [putAll] using hr u' a2 h3
  · rintro y σ1 ⟨h1, _⟩
    cases h1
theorem S_done0 {all : Array Oper} {o : Oper} {l : List Oper} {K : List Nat} {v u : Nat} {a : AV} {bs : List UInt8} (j i : Nat) (hc : callA cx fr o.op = some (52, [.ptr j v 0])) (hg : guardA all o K fr = some true) (hd : dstOk n o.dst = true)
    (hji : ndB [j, i] = true) (hj : σ[j]? = some (pkB j i v u a bs 0)) (hi : σ[i]? = some (byB u bs)) (ha : a = .nilp ∨ a = .ptr j v 0) (h0 : bs ≠ []) (hl : bs.length ≤ 140737488355328)
    (hr : S cx n B (.ops all l K :: k) Q (setA o.dst (.tup [.str bs, .int .i64 0]) fr) ((σ.set j (pkB j i v u a bs 0)).set i (u, none))) : S cx n B (.ops all (o :: l) K :: k) Q fr σ := by
  obtain ⟨a0, haa⟩ : ∃ a0 : AV, ((a0 = .nilp ∧ a = .nilp) ∨ (a0 = .ptr 0 v 0 ∧ a = .ptr j v 0)) := by
    rcases ha with rfl | rfl
    · exact ⟨.nilp, .inl ⟨rfl, rfl⟩⟩
    · exact ⟨.ptr 0 v 0, .inr ⟨rfl, rfl⟩⟩
  refine S_callf [j, i] (done_ok v u a0 bs h0 hl) hc (.cons (.ptr rfl) (.nil _)) (Part.mk' (es := [pkB j i v u a bs 0, byB u bs]) hji ?_ (.cons (pk_rn haa) (.cons (.live (.cells (Rns.free (bytes_free bs)))) (.nil _)))) hg hd ?_ ?_
  · simp only [pickAll, hj, hi]
  · rintro y σ1 ⟨h1, rfl⟩
    cases h1
    refine ⟨_, [pkB j i v u a bs 0, (u, none)], .cons (pk_rn haa) (.cons .dead (.nil _)), .free (.tup (by intro x hx; simp at hx; rcases hx with rfl | rfl; exact .str; exact .int)), ?_⟩
    simpa [putAll] using hr
  · rintro y σ1 ⟨h1, _⟩
    cases h1
theorem S_doneE {all : Array Oper} {o : Oper} {l : List Oper} {K : List Nat} {v u e : Nat} {a : AV} {bs : List UInt8} (j i : Nat) (hc : callA cx fr o.op = some (52, [.ptr j v 0])) (hg : guardA all o K fr = some true) (hd : dstOk n o.dst = true)
    (hji : ndB [j, i] = true) (hj : σ[j]? = some (pkB j i v u a bs e)) (hi : σ[i]? = some (byB u bs)) (ha : a = .nilp ∨ a = .ptr j v 0) (he : e ≠ 0)
    (hr : S cx n B (.ops all l K :: k) Q (setA o.dst (.tup [.str [], .int .i64 e]) fr) ((σ.set j (pkB j i v u a bs e)).set i (byB u bs))) : S cx n B (.ops all (o :: l) K :: k) Q fr σ := by
  obtain ⟨a0, haa⟩ : ∃ a0 : AV, ((a0 = .nilp ∧ a = .nilp) ∨ (a0 = .ptr 0 v 0 ∧ a = .ptr j v 0)) := by
    rcases ha with rfl | rfl
    · exact ⟨.nilp, .inl ⟨rfl, rfl⟩⟩
    · exact ⟨.ptr 0 v 0, .inr ⟨rfl, rfl⟩⟩
  refine S_callf [j, i] (doneE_ok v u a0 bs e he) hc (.cons (.ptr rfl) (.nil _)) (Part.mk' (es := [pkB j i v u a bs e, byB u bs]) hji ?_ (.cons (pk_rn haa) (.cons (.live (.cells (Rns.free (bytes_free bs)))) (.nil _)))) hg hd ?_ ?_
  · simp only [pickAll, hj, hi]
  · rintro y σ1 ⟨h1, rfl⟩
    cases h1
    refine ⟨_, [pkB j i v u a bs e, byB u bs], .cons (pk_rn haa) (.cons (.live (.cells (Rns.free (bytes_free bs)))) (.nil _)), .free (.tup (by intro x hx; simp at hx; rcases hx with rfl | rfl; exact .str; exact .int)), ?_⟩
    simpa [putAll] using hr
  · rintro y σ1 ⟨h1, _⟩
    cases h1
theorem free_bi {st : Bool} {b : Bool} {n : Int} {k : IntKind} : ∀ y ∈ [AV.bool b, AV.int k n], Free st y := by
  intro y hy; simp at hy; rcases hy with rfl | rfl; exact .bool; exact .int
theorem free_i {st : Bool} {n : Int} {k : IntKind} : ∀ y ∈ [AV.int k n], Free st y := by
  intro y hy; simp at hy; subst hy; exact .int
theorem free_s {st : Bool} {s : List UInt8} : ∀ y ∈ [AV.str s], Free st y := by
  intro y hy; simp at hy; subst hy; exact .str
theorem free_u {st : Bool} : Free st (.tup []) := .tup (by simp)
end
end Go.Proofs.YtjkeekbfgnmngaaGreatDoor
end
section
set_option linter.unusedVariables false
set_option linter.unusedSimpArgs false
set_option maxRecDepth 20000
namespace Go.Proofs.YtjkeekbfgnmngaaGreatDoor
open Go Go.Ab
theorem fails_eq (n : NodeV) (e : Nat) : failE (decide (n.kind < 1 ∨ 3 < n.kind)) 7 (failE (!(isName n.name && isDig n.dig)) 1 e) = chkF e n := by
  unfold failE chkF nodeE
  cases (isName n.name && isDig n.dig) <;> by_cases hk : n.kind < 1 ∨ 3 < n.kind <;> by_cases he : e = 0 <;> simp [hk, he]
theorem Nodes_ok {st fl : Bool} (l : List NodeV) (hl : NodesOk l) : Calc cx 83 [.sl st fl 3 (nodes l)] (.tup [.str (if chkN l = 0 then packNs l else []), .int .i64 (chkN l : Nat)]) :=
  pure_intro (fun a w => Tryz.call83 a w) Tryz.func83 rfl Tryz.ntmps83 rfl (ans_free _ _) fun B => by
    have hnl := nodes_len l
    refine ab 1000 rfl trivial ?_
    refine S_ghost 1 ⟨false, some 5⟩ (id := 0) (j := 1) rfl rfl rfl (show (0 : Nat) ≠ 1 by decide) ⟨.skip, _, .inr ⟨_, _, _, rfl⟩⟩ ?_
    by_cases h60 : 60 < l.length
    · have hc : chkN l = 2 := by rw [chkN, if_pos h60]
      rw [hc, if_neg (by decide)]
      refine S_pk 0 1 rfl rfl rfl rfl rfl rfl (.inl rfl) (show [AV.bool (decide (((nodes l).length : Int) > 60)), .int .i64 2] = [.bool true, .int .i64 2] by rw [decide_eq_true (by omega)]) free_bi (fun a ha => fail_ok 0 0 a ha [] true 2 0) free_u (fun u1 a1 ha1 => ?_)
      refine ab 1000 rfl ⟨rfl, trivial⟩ ?_
      refine S_bne rfl (fun _ => ?_) (fun h => absurd (show ((2 : Nat) : Int) = 0 from h) (by decide))
      refine ab 1000 rfl trivial ?_
      refine S_doneE (e := 2) 0 1 rfl rfl rfl rfl rfl rfl ha1 (by decide) ?_
      refine ab 1000 rfl trivial ?_
      exact S_retc (ans_free _ _) rfl trivial rfl
    refine S_pk 0 1 rfl rfl rfl rfl rfl rfl (.inl rfl) (show [AV.bool (decide (((nodes l).length : Int) > 60)), .int .i64 2] = [.bool false, .int .i64 2] by rw [decide_eq_false (by omega)]) free_bi (fun a ha => fail_ok 0 0 a ha [] false 2 0) free_u (fun u1 a1 ha1 => ?_)
    refine ab 1000 rfl ⟨rfl, trivial⟩ ?_
    refine S_bne rfl (fun h => absurd (show ((0 : Nat) : Int) = 0 from rfl) h) (fun _ => ?_)
    refine ab 1000 rfl trivial ?_
    refine S_dead ?_ ⟨_, _, .inl rfl⟩
    refine S_while (α := Nat × Nat × AV × Nat) (fun (i, u, a, b) => [(0, .sl st fl 3 (nodes l)), (4, .ptr 0 0 0), (25, .sl st fl 3 (nodes l)), (26, .int .i64 ((nodes l).length : Nat)), (27, .int .i64 (i : Nat))])
      (fun (i, u, a, b) => [pkB 0 1 0 u a [] ((l.take i).foldl chkF 0), byB u [], (b, none)]) (fun (i, u, a, b) => i ≤ l.length ∧ (a = .nilp ∨ a = .ptr 0 0 0)) (fun (i, u, a, b) => l.length - i) (0, u1, a1, 0)
      ⟨Nat.zero_le _, ha1⟩ (.cons rfl (.cons rfl (.cons rfl (.cons rfl (.cons rfl (.nil _)))))) rfl ?_
    rintro ⟨i, u, a, b⟩ ⟨hi, ha⟩
    have hi : i ≤ l.length := hi
    refine ab 1000 rfl trivial ?_
    refine S_dec rfl (fun hil => ?_) (fun hil => ?_)
    · have hil : i < l.length := by have : (i : Int) < ((nodes l).length : Nat) := hil; omega
      obtain ⟨n, hn⟩ : ∃ n, n = l[i] := ⟨_, rfl⟩
      have hget : (nodes l)[(i : Int).toNat]? = some (nodeAV n) := by rw [Int.toNat_natCast, hn]; exact nodes_get hil
      have hm : n ∈ l := by rw [hn]; exact List.getElem_mem hil
      obtain ⟨e, he⟩ : ∃ e, e = (l.take i).foldl chkF 0 := ⟨_, rfl⟩
      refine S_heap [pkB 0 1 0 u a [] e, byB u [], (b, none)] (by rw [he]) ?_
      refine ab 1000 rfl trivial ?_
      refine S_index (nodeAV n) rfl rfl rfl ⟨rfl, by omega, hget, trivial⟩ ?_
      refine ab 1000 rfl ⟨rfl, lble rfl, rfl, trivial⟩ ?_
      refine S_heap [pkB 0 1 0 u a [] e, byB u [], (b + 1, some (.cells [.str n.name, .int .i64 n.kind, .str n.dig] ⟨false, some 125⟩))] rfl ?_
      refine S_pure rfl rfl rfl (isName_ok n.name (hl.name n hm)) (.cons (.refl .str) (.nil _)) ?_
      refine ab 1000 rfl trivial ?_
      refine S_split 5 (fun fr σ => Weak fr [(0, .sl st fl 3 (nodes l)), (4, .ptr 0 0 0), (25, .sl st fl 3 (nodes l)), (26, .int .i64 ((nodes l).length : Nat)), (27, .int .i64 (i : Nat)), (6, .ptr 2 (b + 1) 0), (31, .ptr 0 0 0), (41, .bool !(isName n.name && isDig n.dig))] ∧ σ = [pkB 0 1 0 u a [] e, byB u [], (b + 1, some (.cells [.str n.name, .int .i64 n.kind, .str n.dig] ⟨false, some 125⟩))]) ?_ ?_
      · refine S_guard rfl rfl rfl rfl (fun h => ?_) (fun h => ?_)
        · have h : isName n.name = false := by simpa using (show (!isName n.name) = true from h)
          refine ab 1000 rfl trivial ?_
          exact S_inv ⟨(.cons rfl (.cons rfl (.cons rfl (.cons rfl (.cons rfl (.cons rfl (.cons rfl (.cons (by rw [h]; rfl) (.nil _))))))))), rfl⟩
        · have h : isName n.name = true := by simpa using (show (!isName n.name) = false from h)
          refine ab 1000 rfl ⟨rfl, trivial⟩ ?_
          refine S_pure rfl rfl rfl (digestIs_ok n.dig (hl.dig n hm)) (.cons (.refl .str) (.nil _)) ?_
          refine ab 1000 rfl trivial ?_
          exact S_inv ⟨(.cons rfl (.cons rfl (.cons rfl (.cons rfl (.cons rfl (.cons rfl (.cons rfl (.cons (by rw [h]; rfl) (.nil _))))))))), rfl⟩
      rintro fr σ ⟨hw, rfl⟩
      refine S_opsW hw ?_
      refine S_pk 0 1 rfl rfl rfl rfl rfl rfl ha rfl free_bi (fun a ha => fail_ok 0 u a ha [] (!(isName n.name && isDig n.dig)) 1 e) free_u (fun u2 a2 ha2 => ?_)
      refine ab 1000 rfl ⟨rfl, trivial⟩ ?_
      refine S_split 4 (fun fr σ => Weak fr [(0, .sl st fl 3 (nodes l)), (4, .ptr 0 0 0), (25, .sl st fl 3 (nodes l)), (26, .int .i64 ((nodes l).length : Nat)), (27, .int .i64 (i : Nat)), (6, .ptr 2 (b + 1) 0), (43, .ptr 0 0 0), (51, .bool (decide (n.kind < 1 ∨ 3 < n.kind)))] ∧ σ = [pkB 0 1 0 u2 a2 [] (failE (!(isName n.name && isDig n.dig)) 1 e), byB u2 [], (b + 1, some (.cells [.str n.name, .int .i64 n.kind, .str n.dig] ⟨false, some 125⟩))]) ?_ ?_
      · refine S_guard rfl rfl rfl rfl (fun h => ?_) (fun h => ?_)
        · have h : n.kind < 1 := of_decide_eq_true h
          refine ab 1000 rfl trivial ?_
          exact S_inv ⟨(.cons rfl (.cons rfl (.cons rfl (.cons rfl (.cons rfl (.cons rfl (.cons rfl (.cons (by show AV.bool true = _; rw [decide_eq_true (.inl h)]) (.nil _))))))))), rfl⟩
        · have h : ¬ n.kind < 1 := of_decide_eq_false h
          refine ab 1000 rfl ⟨rfl, trivial⟩ ?_
          exact S_inv ⟨(.cons rfl (.cons rfl (.cons rfl (.cons rfl (.cons rfl (.cons rfl (.cons rfl (.cons (by show AV.bool (decide (3 < n.kind)) = _; exact congrArg AV.bool (decide_eq_decide.2 ⟨fun h => .inr h, fun h2 => h2.resolve_left h⟩)) (.nil _))))))))), rfl⟩
      rintro fr σ ⟨hw, rfl⟩
      refine S_opsW hw ?_
      refine S_pk 0 1 rfl rfl rfl rfl rfl rfl ha2 rfl free_bi (fun a ha => fail_ok 0 u2 a ha [] (decide (n.kind < 1 ∨ 3 < n.kind)) 7 (failE (!(isName n.name && isDig n.dig)) 1 e)) free_u (fun u3 a3 ha3 => ?_)
      rw [fails_eq]
      refine S_drop (id := 2) rfl ?_ ⟨.skip, _, .inr ⟨_, _, _, rfl⟩⟩
      refine ab 1000 rfl trivial ?_
      refine S_round (i + 1, u3, a3, b + 1) (by show l.length - (i + 1) < l.length - i; omega) ⟨hil, ha3⟩ (.cons rfl (.cons rfl (.cons rfl (.cons rfl (.cons (ai64 rfl (by omega)) (.nil _)))))) ?_
      show [pkB 0 1 0 u3 a3 [] (chkF e n), byB u3 [], (b + 1, none)] = [pkB 0 1 0 u3 a3 [] ((l.take (i + 1)).foldl chkF 0), byB u3 [], (b + 1, none)]
      rw [chk_step hil, ← hn, ← he]
    · have hil : i = l.length := by have : ¬ (i : Int) < ((nodes l).length : Nat) := hil; omega
      refine S_heap [pkB 0 1 0 u a [] (chkLoop l), byB u [], (b, none)] (by rw [hil, List.take_length]; rfl) ?_
      refine ab 1000 rfl trivial ?_
      refine S_pure rfl rfl rfl (rises_ok l hl.len) (.cons (.refl (.sl (fun h => by cases h) (nodes_any l))) (.cons (.refl (.func (fun x h => by cases h) (fun x h => by cases h))) (.nil _))) ?_
      refine ab 1000 rfl trivial ?_
      refine S_pk 0 1 rfl rfl rfl rfl rfl rfl ha rfl free_bi (fun a ha => fail_ok 0 u a ha [] (!riseB (l.map NodeV.name)) 6 (chkLoop l)) free_u (fun u4 a4 ha4 => ?_)
      have hE : failE (!riseB (l.map NodeV.name)) 6 (chkLoop l) = chkN l := by
        unfold failE chkN
        cases riseB (l.map NodeV.name) <;> by_cases he : chkLoop l = 0 <;> simp [he, h60]
      rw [hE]
      refine ab 1000 rfl ⟨rfl, trivial⟩ ?_
      refine S_bne rfl (fun h => ?_) (fun h => ?_)
      · have he : chkN l ≠ 0 := by have : ((chkN l : Nat) : Int) ≠ 0 := h; omega
        rw [if_neg he]
        refine ab 1000 rfl trivial ?_
        refine S_doneE 0 1 rfl rfl rfl rfl rfl rfl ha4 he ?_
        refine ab 1000 rfl trivial ?_
        exact S_retc (ans_free _ _) rfl trivial rfl
      have hc : chkN l = 0 := by have : ((chkN l : Nat) : Int) = 0 := h; omega
      have fit := chk_fit hc
      have hlen := fit.len
      rw [hc, if_pos rfl]
      refine ab 1000 rfl trivial ?_
      refine S_pk 0 1 rfl rfl rfl rfl rfl rfl ha4 (show [AV.int .i64 ((nodes l).length : Nat)] = [.int .i64 (l.length : Nat)] by rw [hnl]) free_i (fun a ha => pnumber_ok 0 u4 a ha [] l.length (by omega) (by decide)) free_u (fun u5 a5 ha5 => ?_)
      refine S_heap [pkB 0 1 0 u5 a5 (packN 9 l.length ++ (l.take 0).flatMap packNode) 0, byB u5 (packN 9 l.length ++ (l.take 0).flatMap packNode), (b, none)] (by rw [List.take_zero, List.flatMap_nil, List.append_nil, List.nil_append]; rfl) ?_
      refine ab 1000 rfl trivial ?_
      refine S_while (α := Nat × Nat × AV × Nat) (fun (i, u, a, b) => [(0, .sl st fl 3 (nodes l)), (4, .ptr 0 0 0), (72, .sl st fl 3 (nodes l)), (73, .int .i64 ((nodes l).length : Nat)), (74, .int .i64 (i : Nat))])
        (fun (i, u, a, b) => [pkB 0 1 0 u a (packN 9 l.length ++ (l.take i).flatMap packNode) 0, byB u (packN 9 l.length ++ (l.take i).flatMap packNode), (b, none)]) (fun (i, u, a, b) => i ≤ l.length ∧ (a = .nilp ∨ a = .ptr 0 0 0)) (fun (i, u, a, b) => l.length - i) (0, u5, a5, b)
        ⟨Nat.zero_le _, ha5⟩ (.cons rfl (.cons rfl (.cons rfl (.cons rfl (.cons rfl (.nil _)))))) rfl ?_
      rintro ⟨i, u, a, b⟩ ⟨hi, ha⟩
      have hi : i ≤ l.length := hi
      have hfl := packNs_len (l := l.take i) (fun n h => fit.name n (List.mem_of_mem_take h)) (fun n h => fit.dig n (List.mem_of_mem_take h))
      have htk : (l.take i).length = i := by simp; omega
      have hpl := packN_len 9 l.length
      obtain ⟨bs, hbs⟩ : ∃ bs, bs = packN 9 l.length ++ (l.take i).flatMap packNode := ⟨_, rfl⟩
      have hbl : bs.length ≤ 10 + 60 * 114 := by rw [hbs, List.length_append]; omega
      refine S_heap [pkB 0 1 0 u a bs 0, byB u bs, (b, none)] (by rw [hbs]) ?_
      refine ab 1000 rfl trivial ?_
      refine S_dec rfl (fun hil => ?_) (fun hil => ?_)
      · have hil : i < l.length := by have : (i : Int) < ((nodes l).length : Nat) := hil; omega
        obtain ⟨n, hn⟩ : ∃ n, n = l[i] := ⟨_, rfl⟩
        have hget : (nodes l)[(i : Int).toNat]? = some (nodeAV n) := by rw [Int.toNat_natCast, hn]; exact nodes_get hil
        have hm : n ∈ l := by rw [hn]; exact List.getElem_mem hil
        obtain ⟨k, hk⟩ := Int.eq_ofNat_of_zero_le (show 0 ≤ n.kind by have := fit.kind n hm; omega)
        have hk3 : k ≤ 3 := by have := fit.kind n hm; omega
        have hnn := fit.name n hm
        have hnd := fit.dig n hm
        have l1 := packT_len n.name
        have l2 := packT_len n.dig
        have l3 := packN_len 9 k
        refine ab 1000 rfl trivial ?_
        refine S_index (nodeAV n) rfl rfl rfl ⟨rfl, by omega, hget, trivial⟩ ?_
        refine ab 1000 rfl ⟨rfl, lble rfl, rfl, trivial⟩ ?_
        refine S_heap [pkB 0 1 0 u a bs 0, byB u bs, (b + 1, some (.cells [.str n.name, .int .i64 n.kind, .str n.dig] ⟨false, some 125⟩))] rfl ?_
        refine S_pk 0 1 rfl rfl rfl rfl rfl rfl ha rfl free_s (fun a ha => ptext_ok 0 u a ha bs n.name (by omega)) free_u (fun u6 a6 ha6 => ?_)
        refine ab 1000 rfl ⟨rfl, trivial⟩ ?_
        refine S_pk 0 1 rfl rfl rfl rfl rfl rfl ha6 (show [AV.int .i64 n.kind] = [.int .i64 (k : Int)] by rw [hk]) free_i (fun a ha => pnumber_ok 0 u6 a ha (bs ++ packT n.name) k (by omega) (by rw [List.length_append]; omega)) free_u (fun u7 a7 ha7 => ?_)
        refine ab 1000 rfl ⟨rfl, trivial⟩ ?_
        refine S_pk 0 1 rfl rfl rfl rfl rfl rfl ha7 rfl free_s (fun a ha => ptext_ok 0 u7 a ha (bs ++ packT n.name ++ packN 9 k) n.dig (by simp only [List.length_append]; omega)) free_u (fun u8 a8 ha8 => ?_)
        refine S_drop (id := 2) rfl ?_ ⟨.skip, _, .inr ⟨_, _, _, rfl⟩⟩
        refine ab 1000 rfl trivial ?_
        refine S_round (i + 1, u8, a8, b + 1) (by show l.length - (i + 1) < l.length - i; omega) ⟨hil, ha8⟩ (.cons rfl (.cons rfl (.cons rfl (.cons rfl (.cons (ai64 rfl (by omega)) (.nil _)))))) ?_
        have hq : packN 9 l.length ++ (l.take (i + 1)).flatMap packNode = bs ++ packT n.name ++ packN 9 k ++ packT n.dig := by
          rw [List.take_succ_eq_append_getElem hil, ← hn, List.flatMap_append, List.flatMap_cons, List.flatMap_nil, List.append_nil, hbs, packNode, hk, Int.toNat_natCast]
          simp only [List.append_assoc]
        show [pkB 0 1 0 u8 a8 (bs ++ packT n.name ++ packN 9 k ++ packT n.dig) 0, byB u8 (bs ++ packT n.name ++ packN 9 k ++ packT n.dig), (b + 1, none)] = [pkB 0 1 0 u8 a8 (packN 9 l.length ++ (l.take (i + 1)).flatMap packNode) 0, byB u8 (packN 9 l.length ++ (l.take (i + 1)).flatMap packNode), (b + 1, none)]
        rw [hq]
      · have hil : i = l.length := by have : ¬ (i : Int) < ((nodes l).length : Nat) := hil; omega
        have hq : packNs l = bs := by rw [hbs, hil, List.take_length]; rfl
        rw [hq]
        refine ab 1000 rfl trivial ?_
        refine S_done0 0 1 rfl rfl rfl rfl rfl rfl ha (by rw [hbs]; simp [packN_ne]) (by omega) ?_
        refine ab 1000 rfl trivial ?_
        exact S_retc (ans_free _ _) rfl trivial rfl
end Go.Proofs.YtjkeekbfgnmngaaGreatDoor
end
section
set_option linter.unusedVariables false
set_option linter.unusedSimpArgs false
set_option maxRecDepth 20000
namespace Go.Proofs.YtjkeekbfgnmngaaGreatDoor
open Go Go.Ab
def M32 : Nat := 4294967296
def rotr (x n : Nat) : Nat := (x * 2 ^ (32 - n) % M32) ||| (x / 2 ^ n)
def beW (p : List UInt8) (i : Nat) : Nat := (((p.getD i 0).toNat * 256 + (p.getD (i + 1) 0).toNat) * 256 + (p.getD (i + 2) 0).toNat) * 256 + (p.getD (i + 3) 0).toNat
def sig0 (x : Nat) : Nat := rotr x 7 ^^^ rotr x 18 ^^^ (x / 8)
def sig1 (x : Nat) : Nat := rotr x 17 ^^^ rotr x 19 ^^^ (x / 1024)
def Sig0 (x : Nat) : Nat := rotr x 2 ^^^ rotr x 13 ^^^ rotr x 22
def Sig1 (x : Nat) : Nat := rotr x 6 ^^^ rotr x 11 ^^^ rotr x 25
def wNext (w : List Nat) : Nat := (w.getD (w.length - 16) 0 + sig0 (w.getD (w.length - 15) 0) + w.getD (w.length - 7) 0 + sig1 (w.getD (w.length - 2) 0)) % M32
def sched : Nat → List Nat → List Nat
  | 0, w => w
  | k + 1, w => sched k (w ++ [wNext w])
def words (p : List UInt8) : List Nat := (List.range 16).map fun t => beW p (4 * t)
def schedOf (p : List UInt8) : List Nat := sched 48 (words p)
def round (v : List Nat) (kw : Nat) : List Nat :=
  let e := v.getD 4 0
  let a := v.getD 0 0
  let u := (v.getD 7 0 + Sig1 e + ((e &&& v.getD 5 0) ^^^ ((4294967295 - e) &&& v.getD 6 0)) + kw) % M32
  let x := (Sig0 a + ((a &&& v.getD 1 0) ^^^ (a &&& v.getD 2 0) ^^^ (v.getD 1 0 &&& v.getD 2 0))) % M32
  [(u + x) % M32, a, v.getD 1 0, v.getD 2 0, (v.getD 3 0 + u) % M32, e, v.getD 5 0, v.getD 6 0]
def rounds : Nat → Nat → List Nat → List Nat → List Nat
  | 0, t, w, v => v
  | k + 1, t, w, v => rounds k (t + 1) w (round v (kTab.getD t 0 + w.getD t 0))
def addW (a b : List Nat) : List Nat := (List.range 8).map fun i => (a.getD i 0 + b.getD i 0) % M32
def block (h : List Nat) (p : List UInt8) : List Nat := addW h (rounds 64 0 (schedOf p) h)
def blocks : Nat → List Nat → List UInt8 → List Nat
  | 0, h, p => h
  | k + 1, h, p => blocks k (block h (p.take 64)) (p.drop 64)
def padLen (n : Nat) : Nat := (119 - n % 64) % 64
def be8 (n : Nat) : List UInt8 := (List.range 8).map fun i => UInt8.ofNat (n / 256 ^ (7 - i) % 256)
def padded (s : List UInt8) : List UInt8 := s ++ [128] ++ List.replicate (padLen s.length) 0 ++ be8 (8 * s.length)
def hashOf (s : List UInt8) : List Nat := blocks ((padded s).length / 64) hTab (padded s)
def hexC (n : Nat) : UInt8 := ("0123456789abcdef".toUTF8.data.toList).getD n 0
def hexW (n : Nat) : List UInt8 := (List.range 8).map fun i => hexC (n / 16 ^ (7 - i) % 16)
def sha (s : List UInt8) : List UInt8 := (hashOf s).flatMap hexW
end Go.Proofs.YtjkeekbfgnmngaaGreatDoor
end
section
set_option linter.unusedVariables false
set_option linter.unusedSimpArgs false
set_option maxRecDepth 20000
namespace Go.Proofs.YtjkeekbfgnmngaaGreatDoor
open Go Go.Ab
theorem u32add (a b : Nat) : IntKind.u32.wrap ((a : Int) + (b : Int)) = (((a + b) % M32 : Nat) : Int) := by
  rw [show (a : Int) + (b : Int) = ((a + b : Nat) : Int) from rfl, wrap_low rfl]; rfl
theorem u32xor {a b : Nat} (ha : a < M32) (hb : b < M32) : bitsA .xor .u32 (a : Int) (b : Int) = ((a ^^^ b : Nat) : Int) := bits_xor rfl ha hb
theorem u32and {a b : Nat} (ha : a < M32) (hb : b < M32) : bitsA .and .u32 (a : Int) (b : Int) = ((a &&& b : Nat) : Int) := bits_and rfl ha hb
theorem u32or {a b : Nat} (ha : a < M32) (hb : b < M32) : bitsA .or .u32 (a : Int) (b : Int) = ((a ||| b : Nat) : Int) := bits_or rfl ha hb
theorem u32not {a : Nat} (ha : a < M32) : bitsA .xor .u32 4294967295 (a : Int) = ((4294967295 - a : Nat) : Int) := by
  rw [show (4294967295 : Int) = ((4294967295 : Nat) : Int) from rfl, u32xor (by decide) ha, xor_ones ha]
theorem u32not' {a : Nat} (ha : a < M32) : bitsA .xor .u32 (if IntKind.u32.signed = true then -1 else IntKind.u32.max) (a : Int) = ((4294967295 - a : Nat) : Int) := by
  rw [show (if IntKind.u32.signed = true then -1 else IntKind.u32.max) = (4294967295 : Int) by decide, u32not ha]
theorem xor_lt {a b : Nat} (ha : a < M32) (hb : b < M32) : a ^^^ b < M32 := Nat.xor_lt_two_pow (n := 32) ha hb
theorem and_lt {a b : Nat} (ha : a < M32) : a &&& b < M32 := Nat.lt_of_le_of_lt Nat.and_le_left ha
theorem or_lt {a b : Nat} (ha : a < M32) (hb : b < M32) : a ||| b < M32 := Nat.or_lt_two_pow (n := 32) ha hb
theorem div_lt {a : Nat} (k : Nat) (ha : a < M32) : a / k < M32 := Nat.lt_of_le_of_lt (Nat.div_le_self _ _) ha
theorem mod_lt (a : Nat) : a % M32 < M32 := Nat.mod_lt _ (by decide)
theorem rotr_lt {x : Nat} (n : Nat) (h : x < M32) : rotr x n < M32 := or_lt (mod_lt _) (div_lt _ h)
theorem Rotate_ok (x n : Nat) (hx : x < M32) (h1 : 1 ≤ n) (h2 : n ≤ 31) : Calc cx 150 [.int .u32 x, .int .i64 (-(n : Int))] (.int .u32 (rotr x n)) :=
  pure_intro (fun a w => Tryz.call150 a w) Tryz.func150 rfl Tryz.ntmps150 rfl .int fun B => by
    have hw : IntKind.u64.wrap (-(n : Int)) = ((18446744073709551616 - n : Nat) : Int) := by
      rw [show IntKind.u64.wrap (-(n : Int)) = (-(n : Int)) % 18446744073709551616 by simp [IntKind.wrap, IntKind.signed, IntKind.bits]]; omega
    have hs : bitsA .and .u64 (IntKind.u64.wrap (-(n : Int))) 31 = ((32 - n : Nat) : Int) := by
      rw [hw, show (31 : Int) = ((31 : Nat) : Int) from rfl, bits_and (k := .u64) rfl (by show _ < 18446744073709551616; omega) (by decide)]
      rw [Nat.and_two_pow_sub_one_eq_mod _ 5]
      congr 1; omega
    have hd : IntKind.u64.wrap (32 - ((32 - n : Nat) : Int)) = (n : Int) := wu64 (by omega) (by omega)
    refine ab 1000 rfl ⟨?_, ?_, trivial⟩ ?_
    · rw [hs, hd]; omega
    · rw [hs]; omega
    refine S_retc .int rfl trivial ?_
    show AV.int .u32 (bitsA .or .u32 (IntKind.u32.wrap ((x : Int) * 2 ^ (min (bitsA .and .u64 (IntKind.u64.wrap (-(n : Int))) 31).toNat 32))) ((x : Int).fdiv (2 ^ (min (IntKind.u64.wrap (32 - bitsA .and .u64 (IntKind.u64.wrap (-(n : Int))) 31)).toNat 32)))) = _
    rw [hs, hd, Int.toNat_natCast, Int.toNat_natCast, Nat.min_eq_left (by omega), Nat.min_eq_left (by omega), shr_nat]
    rw [show (x : Int) * 2 ^ (32 - n) = ((x * 2 ^ (32 - n) : Nat) : Int) by rw [Int.natCast_mul, Int.natCast_pow]; rfl, wrap_low rfl]
    rw [show (2 : Nat) ^ IntKind.u32.bits = M32 from rfl, u32or (mod_lt _) (div_lt _ hx)]
    rfl
theorem u32L_len (l : List Nat) : (u32L l).length = l.length := by simp [u32L]
theorem u32L_get {l : List Nat} {i : Nat} (h : i < l.length) : (u32L l)[i]? = some (.int .u32 (l.getD i 0 : Nat)) := by
  simp [u32L, List.getD, h]
theorem u32L_ld {l : List Nat} {i : Nat} (h : i < l.length) : ((u32L l).drop i)[0]? = some (.int .u32 (l.getD i 0 : Nat)) := by
  rw [List.getElem?_drop, Nat.add_zero]; exact u32L_get h
theorem u32L_set (l : List Nat) (i n : Nat) : setRange (u32L l) i [.int .u32 (n : Nat)] = u32L (l.set i n) := by
  show (u32L l).set i _ = _
  simp [u32L, List.map_set]
end Go.Proofs.YtjkeekbfgnmngaaGreatDoor
end
section
set_option linter.unusedVariables false
set_option linter.unusedSimpArgs false
set_option maxRecDepth 20000
namespace Go.Proofs.YtjkeekbfgnmngaaGreatDoor
open Go Go.Ab
def W32 (l : List Nat) : Prop := ∀ x ∈ l, x < M32
theorem W32.getD {l : List Nat} (h : W32 l) (i : Nat) : l.getD i 0 < M32 := by
  rcases Nat.lt_or_ge i l.length with hi | hi
  · rw [show l.getD i 0 = l[i] by simp [List.getD, hi]]; exact h _ (List.getElem_mem hi)
  · rw [show l.getD i 0 = 0 by simp [List.getD, hi]]; decide
theorem W32.app {a b : List Nat} (ha : W32 a) (hb : W32 b) : W32 (a ++ b) := by
  intro x hx; rcases List.mem_append.1 hx with h | h; exact ha x h; exact hb x h
theorem W32.one {a : Nat} (ha : a < M32) : W32 [a] := by intro x hx; simp at hx; subst hx; exact ha
def accW (p : List UInt8) (i : Nat) : Nat → Nat
  | 0 => 0
  | j + 1 => accW p i j * 256 + (p.getD (i + j) 0).toNat
theorem accW_lt (p : List UInt8) (i : Nat) : ∀ j, accW p i j < 256 ^ j
  | 0 => by simp [accW]
  | j + 1 => by
    have := accW_lt p i j
    have hb := (p.getD (i + j) 0).toNat_lt
    rw [accW, Nat.pow_succ]; omega
theorem words_len (p : List UInt8) : (words p).length = 16 := by simp [words]
theorem words_get (p : List UInt8) {t : Nat} (h : t < 16) : (words p)[t]'(by rw [words_len]; exact h) = accW p (4 * t) 4 := by
  simp [words, beW, accW]
theorem words_lt (p : List UInt8) : W32 (words p) := by
  intro x hx
  obtain ⟨t, ht, rfl⟩ := List.getElem_of_mem hx
  rw [words_len] at ht
  rw [words_get p ht]
  exact accW_lt p (4 * t) 4
theorem set_fill {α : Type} (a : List α) (n : Nat) (x y : α) (b : List α) : (a ++ y :: b).set a.length x = a ++ x :: b := by
  rw [List.set_append_right _ _ (Nat.le_refl _), Nat.sub_self]; rfl
theorem wNext_lt (w : List Nat) : wNext w < M32 := mod_lt _
theorem round_lt {v : List Nat} (k : Nat) (h : W32 v) : W32 (round v k) := by
  intro x hx
  simp only [round, List.mem_cons, List.not_mem_nil, or_false] at hx
  rcases hx with rfl | rfl | rfl | rfl | rfl | rfl | rfl | rfl <;> first | exact mod_lt _ | exact h.getD _
theorem addW_len (a b : List Nat) : (addW a b).length = 8 := by simp [addW]
theorem addW_lt (a b : List Nat) : W32 (addW a b) := by
  intro x hx
  obtain ⟨i, _, rfl⟩ := List.mem_map.1 hx
  exact mod_lt _
theorem block_lt (h : List Nat) (p : List UInt8) : W32 (block h p) := addW_lt _ _
theorem block_len (h : List Nat) (p : List UInt8) : (block h p).length = 8 := addW_len _ _
def sB (v : Nat) (h : List Nat) : Nat × Option Box := (v, some (.cells (u32L h) ⟨false, some 156⟩))
def wB (x : Nat) (w : List Nat) : Nat × Option Box := (x, some (.cells (u32L w) ⟨false, none⟩))
def bB (u : Nat) (bs : List UInt8) (g : Tag) : Nat × Option Box := (u, some (.cells (bs.map byteAV) g))
theorem bytes_ld {bs : List UInt8} {i : Nat} (h : i < bs.length) : ((bs.map byteAV).drop i)[0]? = some (byteAV (bs.getD i 0)) := by
  rw [List.getElem?_drop, Nat.add_zero, List.getElem?_map, List.getElem?_eq_getElem h]
  simp [List.getD, h]
end Go.Proofs.YtjkeekbfgnmngaaGreatDoor
end
section
set_option linter.unusedVariables false
set_option linter.unusedSimpArgs false
set_option maxRecDepth 20000
namespace Go.Proofs.YtjkeekbfgnmngaaGreatDoor
open Go Go.Ab
theorem kTab32 : W32 kTab := by
  show ∀ x ∈ kTab, x < M32
  decide +kernel
theorem addmods (a b c d e : Nat) : ((((a + b) % M32 + c) % M32 + d) % M32 + e) % M32 = (a + b + c + (d + e)) % M32 := by
  simp only [M32]; omega
set_option maxHeartbeats 8000000 in
theorem block_ok (v u a b off len : Nat) (fl : Bool) (h : List Nat) (bs : List UInt8) (g : Tag) (hh : h.length = 8) (hh2 : W32 h) (hlen : 64 ≤ len) (ho : off + len ≤ bs.length) (hbl : bs.length ≤ 4611686018427387904) :
    CallOk cx 106 [.ptr 0 v 0, .ms 1 u off len 1 fl] [sB v h, bB u bs g, (a, none), (b, none)]
      (fun o σ' => o = .ret (.tup []) ∧ σ' = [sB v (block h (bs.drop off)), bB u bs g, (a + 1, none), (b + 1, none)]) :=
  callOk_intro (fun a' w => Tryz.call106 a' w) Tryz.func106 rfl Tryz.ntmps106 rfl fun B => by
    obtain ⟨p, hp⟩ : ∃ p, p = bs.drop off := ⟨_, rfl⟩
    rw [← hp]
    have hpl : 64 ≤ p.length := by rw [hp, List.length_drop]; omega
    have hpg : ∀ i, i < 64 → bs.getD (off + i) 0 = p.getD i 0 := by
      intro i hi
      rw [hp]
      simp [List.getD]
    refine ab 1000 rfl trivial ?_
    refine S_while (α := Nat) (fun t => [(0, .ptr 0 v 0), (1, .ms 1 u off len 1 fl), (4, .ptr 2 (a + 1) 0), (21, .int .i64 t)]) (fun t => [sB v h, bB u bs g, wB (a + 1) ((words p).take t ++ List.replicate (64 - t) 0), (b, none)]) (fun t => t ≤ 16) (fun t => 16 - t) 0
      (Nat.zero_le _) (.cons rfl (.cons rfl (.cons rfl (.cons rfl (.nil _))))) rfl ?_
    intro t ht
    refine ab 1000 rfl trivial ?_
    refine S_dec rfl (fun hlt => ?_) (fun hlt => ?_)
    · have htl : t < 16 := by omega
      have hw4 : IntKind.i64.wrap (4 * (t : Int)) = ((4 * t : Nat) : Int) := w64 rfl (by omega)
      have hw8 : IntKind.i64.wrap (((4 * t : Nat) : Int) + 4) = ((4 * t + 4 : Nat) : Int) := w64 rfl (by omega)
      have hfill : (words p).take t ++ List.replicate (64 - t) 0 = (words p).take t ++ accW p (4 * t) 0 :: List.replicate (63 - t) 0 := by
        rw [show 64 - t = (63 - t) + 1 by omega, List.replicate_succ]; rfl
      have htk : ((words p).take t).length = t := by rw [List.length_take, words_len]; omega
      refine ab 1000 rfl ⟨rfl, by rw [hw4, hw8]; omega, by rw [hw4, hw8]; omega, by rw [hw4]; omega, trivial⟩ ?_
      refine S_while (α := Nat) (fun j => [(0, .ptr 0 v 0), (1, .ms 1 u off len 1 fl), (4, .ptr 2 (a + 1) 0), (5, .int .i64 t), (21, .int .i64 t), (30, .ms 1 u (off + 4 * t) 4 1 false), (31, .int .i64 4), (32, .int .i64 j)])
        (fun j => [sB v h, bB u bs g, wB (a + 1) ((words p).take t ++ accW p (4 * t) j :: List.replicate (63 - t) 0), (b, none)]) (fun j => j ≤ 4) (fun j => 4 - j) 0
        (Nat.zero_le _) (.cons rfl (.cons rfl (.cons rfl (.cons rfl (.cons rfl (.cons ?_ (.cons ?_ (.cons rfl (.nil _))))))))) (by rw [hfill]) ?_
      · show AV.ms 1 u (off + (IntKind.i64.wrap (4 * (t : Int))).toNat * 1) ((IntKind.i64.wrap (IntKind.i64.wrap (4 * (t : Int)) + 4)).toNat - (IntKind.i64.wrap (4 * (t : Int))).toNat) 1 false = _
        rw [hw4, hw8, Int.toNat_natCast, Int.toNat_natCast, Nat.mul_one, show 4 * t + 4 - 4 * t = 4 by omega]
      · show AV.int .i64 (((IntKind.i64.wrap (IntKind.i64.wrap (4 * (t : Int)) + 4)).toNat - (IntKind.i64.wrap (4 * (t : Int))).toNat : Nat) : Int) = _
        rw [hw4, hw8, Int.toNat_natCast, Int.toNat_natCast, show 4 * t + 4 - 4 * t = 4 by omega]; rfl
      intro j hj
      refine ab 1000 rfl trivial ?_
      refine S_dec rfl (fun hlt => ?_) (fun hlt => ?_)
      · have hj4 : j < 4 := by omega
        have hacc := accW_lt p (4 * t) j
        have hap : 256 ^ j ≤ 256 ^ 3 := Nat.pow_le_pow_right (by decide) (by omega)
        refine ab 1000 rfl trivial ?_
        refine S_index .top rfl rfl rfl ⟨rfl, by omega, by omega, trivial⟩ ?_
        refine S_load (byteAV (p.getD (4 * t + j) 0)) rfl rfl rfl ⟨rfl, ?_, trivial⟩ ?_
        · show ((bs.map byteAV).drop (offN (off + 4 * t) (mulN (j : Int).toNat 1)))[0]? = _
          rw [offN_eq, mulN_eq, Int.toNat_natCast, Nat.mul_one, Nat.add_assoc, bytes_ld (by omega), hpg _ (by omega)]
        refine ab 1000 rfl trivial ?_
        refine S_index .top rfl rfl rfl ⟨by omega, by omega, trivial⟩ ?_
        have hwl : ((words p).take t ++ accW p (4 * t) j :: List.replicate (63 - t) 0).length = 64 := by
          rw [List.length_append, htk, List.length_cons, List.length_replicate]; omega
        have hwg : ((words p).take t ++ accW p (4 * t) j :: List.replicate (63 - t) 0).getD t 0 = accW p (4 * t) j := by
          rw [List.getD, List.getElem?_append_right (by omega), htk, Nat.sub_self]; rfl
        refine S_load (.int .u32 (accW p (4 * t) j : Nat)) rfl rfl rfl ⟨rfl, ?_, trivial⟩ ?_
        · show ((u32L ((words p).take t ++ accW p (4 * t) j :: List.replicate (63 - t) 0)).drop (mulN (t : Int).toNat 1))[0]? = _
          rw [mulN_eq, Int.toNat_natCast, Nat.mul_one, u32L_ld (by omega), hwg]
        refine ab 1000 rfl ⟨by decide, trivial⟩ ?_
        refine S_index .top rfl rfl rfl ⟨by omega, by omega, trivial⟩ ?_
        refine S_store rfl rfl rfl ⟨rfl, rfl, rfl, ?_, trivial⟩ ?_
        · show mulN (t : Int).toNat 1 + 1 ≤ (u32L _).length
          rw [mulN_eq, Int.toNat_natCast, Nat.mul_one, u32L_len]; omega
        have hc := (p.getD (4 * t + j) 0).toNat_lt
        have hval : AV.int .u32 (bitsA .or .u32 (IntKind.u32.wrap ((accW p (4 * t) j : Nat) * 2 ^ (min (8 : Int).toNat 32))) (IntKind.u32.wrap (((p.getD (4 * t + j) 0).toNat : Nat) : Int))) = .int .u32 (accW p (4 * t) (j + 1) : Nat) := by
          rw [show ((accW p (4 * t) j : Nat) : Int) * 2 ^ (min (8 : Int).toNat 32) = ((accW p (4 * t) j * 2 ^ 8 : Nat) : Int) from rfl]
          rw [wu32 (x := ((accW p (4 * t) j * 2 ^ 8 : Nat) : Int)) (k := accW p (4 * t) j * 2 ^ 8) rfl (by omega), wu32 (x := (((p.getD (4 * t + j) 0).toNat : Nat) : Int)) (k := (p.getD (4 * t + j) 0).toNat) rfl (by omega)]
          rw [u32or (by show _ < 4294967296; omega) (by show _ < 4294967296; omega)]
          have := Nat.two_pow_add_eq_or_of_lt (i := 8) (b := (p.getD (4 * t + j) 0).toNat) (by omega) (accW p (4 * t) j)
          rw [Nat.mul_comm] at this
          rw [← this]
          simp [accW]
        refine S_heap [sB v h, bB u bs g, wB (a + 1) ((words p).take t ++ accW p (4 * t) (j + 1) :: List.replicate (63 - t) 0), (b, none)] ?_ ?_
        · show [_, _, (a + 1, some (Box.cells (setRange (u32L ((words p).take t ++ accW p (4 * t) j :: List.replicate (63 - t) 0)) (mulN (t : Int).toNat 1) [AV.int .u32 (bitsA .or .u32 (IntKind.u32.wrap ((accW p (4 * t) j : Nat) * 2 ^ (min (8 : Int).toNat 32))) (IntKind.u32.wrap (((p.getD (4 * t + j) 0).toNat : Nat) : Int)))]) _)), _] = _
          rw [hval, mulN_eq, Int.toNat_natCast, Nat.mul_one, u32L_set]
          have := set_fill ((words p).take t) 0 (accW p (4 * t) (j + 1)) (accW p (4 * t) j) (List.replicate (63 - t) 0)
          rw [htk] at this
          rw [this]; rfl
        refine ab 1000 rfl trivial ?_
        exact S_round (j + 1) (by show 4 - (j + 1) < 4 - j; omega) hj4 (.cons rfl (.cons rfl (.cons rfl (.cons rfl (.cons rfl (.cons rfl (.cons rfl (.cons (ai64 rfl (by omega)) (.nil _))))))))) rfl
      · have hj4 : j = 4 := by omega
        subst hj4
        refine ab 1000 rfl trivial ?_
        refine S_round (t + 1) (by show 16 - (t + 1) < 16 - t; omega) htl (.cons rfl (.cons rfl (.cons rfl (.cons (ai64 rfl (by omega)) (.nil _))))) ?_
        show [_, _, wB (a + 1) ((words p).take t ++ accW p (4 * t) 4 :: List.replicate (63 - t) 0), _] = [_, _, wB (a + 1) ((words p).take (t + 1) ++ List.replicate (64 - (t + 1)) 0), _]
        have hwt : (words p).take (t + 1) = (words p).take t ++ [accW p (4 * t) 4] := by
          rw [List.take_succ_eq_append_getElem (by rw [words_len]; exact htl), words_get p htl]
        rw [hwt, show 64 - (t + 1) = 63 - t by omega, List.append_assoc]; rfl
    · have ht16 : t = 16 := by omega
      subst ht16
      refine ab 1000 rfl trivial ?_
      refine S_while (α := List Nat) (fun w => [(0, .ptr 0 v 0), (4, .ptr 2 (a + 1) 0), (8, .int .i64 w.length)]) (fun w => [sB v h, bB u bs g, wB (a + 1) (w ++ List.replicate (64 - w.length) 0), (b, none)]) (fun w => 16 ≤ w.length ∧ w.length ≤ 64 ∧ W32 w ∧ sched (64 - w.length) w = schedOf p) (fun w => 64 - w.length) (words p)
        ⟨by rw [words_len]; exact Nat.le_refl _, by rw [words_len]; decide, words_lt p, by rw [words_len]; rfl⟩ (.cons rfl (.cons rfl (.cons (by rw [words_len]; rfl) (.nil _)))) (by rw [words_len, List.take_of_length_le (by rw [words_len]; exact Nat.le_refl _)]) ?_
      rintro w ⟨hw1, hw2, hw3, hw4⟩
      refine ab 1000 rfl trivial ?_
      refine S_dec rfl (fun hlt => ?_) (fun hlt => ?_)
      · have htl : w.length < 64 := by omega
        obtain ⟨t, htd⟩ : ∃ t, t = w.length := ⟨_, rfl⟩
        have hLl : (w ++ List.replicate (64 - w.length) 0).length = 64 := by rw [List.length_append, List.length_replicate]; omega
        have hLg : ∀ i, i < w.length → (w ++ List.replicate (64 - w.length) 0).getD i 0 = w.getD i 0 := by
          intro i hi
          rw [List.getD, List.getElem?_append_left hi]; rfl
        have ld : ∀ i, i < w.length → ((u32L (w ++ List.replicate (64 - w.length) 0)).drop i)[0]? = some (.int .u32 (w.getD i 0 : Nat)) := by
          intro i hi
          rw [u32L_ld (by omega), hLg i hi]
        have hw15 : IntKind.i64.wrap ((w.length : Int) - 15) = ((w.length - 15 : Nat) : Int) := w64 (by omega) (by omega)
        have hw2' : IntKind.i64.wrap ((w.length : Int) - 2) = ((w.length - 2 : Nat) : Int) := w64 (by omega) (by omega)
        have hw16 : IntKind.i64.wrap ((w.length : Int) - 16) = ((w.length - 16 : Nat) : Int) := w64 (by omega) (by omega)
        have hw7 : IntKind.i64.wrap ((w.length : Int) - 7) = ((w.length - 7 : Nat) : Int) := w64 (by omega) (by omega)
        have hx := hw3.getD (w.length - 15)
        have hy := hw3.getD (w.length - 2)
        obtain ⟨x, hxd⟩ : ∃ x, x = w.getD (w.length - 15) 0 := ⟨_, rfl⟩
        obtain ⟨y, hyd⟩ : ∃ y, y = w.getD (w.length - 2) 0 := ⟨_, rfl⟩
        rw [← hxd] at hx
        rw [← hyd] at hy
        refine ab 1000 rfl trivial ?_
        refine S_draw 9 [] [.top, .int .u32 (x : Nat), .top, .int .u32 (y : Nat)] rfl rfl rfl rfl ⟨rfl, rfl, by rw [hw15]; omega, by rw [hw15]; omega, rfl, ?_, rfl, rfl, by rw [hw2']; omega, by rw [hw2']; omega, rfl, ?_, rfl, trivial⟩ ?_
        · show ((u32L (w ++ List.replicate (64 - w.length) 0)).drop (mulN (IntKind.i64.wrap ((w.length : Int) - 15)).toNat 1))[0]? = _
          rw [mulN_eq, hw15, Int.toNat_natCast, Nat.mul_one, ld _ (by omega), ← hxd]
        · show ((u32L (w ++ List.replicate (64 - w.length) 0)).drop (mulN (IntKind.i64.wrap ((w.length : Int) - 2)).toNat 1))[0]? = _
          rw [mulN_eq, hw2', Int.toNat_natCast, Nat.mul_one, ld _ (by omega), ← hyd]
        refine ab 1000 rfl trivial ?_
        refine S_pure rfl rfl rfl (Rotate_ok x 7 hx (by decide) (by decide)) (.cons (.refl .int) (.cons (.refl .int) (.nil _))) ?_
        refine ab 1000 rfl trivial ?_
        refine S_pure rfl rfl rfl (Rotate_ok x 18 hx (by decide) (by decide)) (.cons (.refl .int) (.cons (.refl .int) (.nil _))) ?_
        refine ab 1000 rfl ⟨by decide, trivial⟩ ?_
        refine S_pure rfl rfl rfl (Rotate_ok y 17 hy (by decide) (by decide)) (.cons (.refl .int) (.cons (.refl .int) (.nil _))) ?_
        refine ab 1000 rfl trivial ?_
        refine S_pure rfl rfl rfl (Rotate_ok y 19 hy (by decide) (by decide)) (.cons (.refl .int) (.cons (.refl .int) (.nil _))) ?_
        refine ab 1000 rfl ⟨by decide, trivial⟩ ?_
        refine S_weak (fr' := [(0, .ptr 0 v 0), (4, .ptr 2 (a + 1) 0), (8, .int .i64 w.length), (11, .int .u32 (sig0 x : Nat)), (12, .int .u32 (sig1 y : Nat))]) (.cons rfl (.cons rfl (.cons rfl (.cons ?_ (.cons ?_ (.nil _)))))) ?_
        · show AV.int .u32 (bitsA .xor .u32 (bitsA .xor .u32 (rotr x 7 : Nat) (rotr x 18 : Nat)) ((x : Int).fdiv (2 ^ 3))) = _
          rw [u32xor (rotr_lt _ hx) (rotr_lt _ hx), shr_nat, u32xor (xor_lt (rotr_lt _ hx) (rotr_lt _ hx)) (div_lt _ hx)]; rfl
        · show AV.int .u32 (bitsA .xor .u32 (bitsA .xor .u32 (rotr y 17 : Nat) (rotr y 19 : Nat)) ((y : Int).fdiv (2 ^ 10))) = _
          rw [u32xor (rotr_lt _ hy) (rotr_lt _ hy), shr_nat, u32xor (xor_lt (rotr_lt _ hy) (rotr_lt _ hy)) (div_lt _ hy)]; rfl
        refine S_draw 15 [] [.top, .int .u32 (w.getD (w.length - 16) 0 : Nat), .top, .int .u32 (w.getD (w.length - 7) 0 : Nat), .top] rfl rfl rfl rfl
          ⟨rfl, rfl, rfl, by rw [hw16]; omega, by rw [hw16]; omega, rfl, ?_, rfl, rfl, rfl, rfl, by rw [hw7]; omega, by rw [hw7]; omega, rfl, ?_, rfl, rfl, rfl, by omega, by omega, trivial⟩ ?_
        · show ((u32L (w ++ List.replicate (64 - w.length) 0)).drop (mulN (IntKind.i64.wrap ((w.length : Int) - 16)).toNat 1))[0]? = _
          rw [mulN_eq, hw16, Int.toNat_natCast, Nat.mul_one, ld _ (by omega)]
        · show ((u32L (w ++ List.replicate (64 - w.length) 0)).drop (mulN (IntKind.i64.wrap ((w.length : Int) - 7)).toNat 1))[0]? = _
          rw [mulN_eq, hw7, Int.toNat_natCast, Nat.mul_one, ld _ (by omega)]
        refine S_store rfl rfl rfl ⟨rfl, rfl, rfl, ?_, trivial⟩ ?_
        · show mulN (w.length : Int).toNat 1 + 1 ≤ (u32L _).length
          rw [mulN_eq, Int.toNat_natCast, Nat.mul_one, u32L_len]; omega
        have hval : AV.int .u32 (IntKind.u32.wrap (IntKind.u32.wrap (IntKind.u32.wrap ((w.getD (w.length - 16) 0 : Nat) + (sig0 x : Nat)) + (w.getD (w.length - 7) 0 : Nat)) + (sig1 y : Nat))) = .int .u32 (wNext w : Nat) := by
          rw [u32add, u32add, u32add, wNext, ← hxd, ← hyd]
          congr 2
          simp only [M32]; omega
        refine S_heap [sB v h, bB u bs g, wB (a + 1) ((w ++ [wNext w]) ++ List.replicate (64 - (w ++ [wNext w]).length) 0), (b, none)] ?_ ?_
        · show [_, _, (a + 1, some (Box.cells (setRange (u32L (w ++ List.replicate (64 - w.length) 0)) (mulN (w.length : Int).toNat 1) [AV.int .u32 (IntKind.u32.wrap (IntKind.u32.wrap (IntKind.u32.wrap ((w.getD (w.length - 16) 0 : Nat) + (sig0 x : Nat)) + (w.getD (w.length - 7) 0 : Nat)) + (sig1 y : Nat)))]) _)), _] = _
          rw [hval, mulN_eq, Int.toNat_natCast, Nat.mul_one, u32L_set]
          have hrep : List.replicate (64 - w.length) 0 = 0 :: List.replicate (63 - w.length) 0 := by
            rw [show 64 - w.length = (63 - w.length) + 1 by omega, List.replicate_succ]
          rw [hrep, set_fill w 0 (wNext w) 0 (List.replicate (63 - w.length) 0)]
          rw [show 64 - (w ++ [wNext w]).length = 63 - w.length by simp, List.append_assoc]; rfl
        refine ab 1000 rfl trivial ?_
        refine S_round (w ++ [wNext w]) (by show 64 - (w ++ [wNext w]).length < 64 - w.length; simp; omega) ⟨by simp; omega, by simp; omega, hw3.app (.one (wNext_lt w)), ?_⟩ (.cons rfl (.cons rfl (.cons ?_ (.nil _)))) rfl
        · rw [← hw4, show 64 - w.length = (64 - (w ++ [wNext w]).length) + 1 by simp; omega, sched]
        · show AV.int .i64 (IntKind.i64.wrap ((w.length : Int) + 1)) = _
          exact ai64 (by simp) (by simp; omega)
      · have hwl : w.length = 64 := by omega
        have hws : w = schedOf p := by rw [← hw4, hwl]; rfl
        have hWl : (schedOf p).length = 64 := by rw [← hws, hwl]
        have hW32 : W32 (schedOf p) := by rw [← hws]; exact hw3
        obtain ⟨h0, h1, h2, h3, h4, h5, h6, h7, hhe⟩ : ∃ h0 h1 h2 h3 h4 h5 h6 h7, h = [h0, h1, h2, h3, h4, h5, h6, h7] := by
          match h, hh with
          | [h0, h1, h2, h3, h4, h5, h6, h7], _ => exact ⟨_, _, _, _, _, _, _, _, rfl⟩
        refine S_heap [sB v [h0, h1, h2, h3, h4, h5, h6, h7], bB u bs g, wB (a + 1) (schedOf p), (b, none)] (by
          show [sB v h, bB u bs g, wB (a + 1) (w ++ List.replicate (64 - w.length) 0), (b, none)] = _
          rw [hwl, hws, hhe]; simp) ?_
        refine ab 1000 rfl ⟨lble rfl, rfl, rfl, trivial⟩ ?_
        refine S_while (α := Nat × List Nat) (fun (t, _) => [(0, .ptr 0 v 0), (4, .ptr 2 (a + 1) 0), (13, .ptr 3 (b + 1) 0), (94, .int .i64 t)]) (fun (t, vv) => [sB v [h0, h1, h2, h3, h4, h5, h6, h7], bB u bs g, wB (a + 1) (schedOf p), wB (b + 1) vv])
          (fun (t, vv) => t ≤ 64 ∧ vv.length = 8 ∧ W32 vv ∧ rounds (64 - t) t (schedOf p) vv = rounds 64 0 (schedOf p) h) (fun (t, _) => 64 - t) (0, [h0, h1, h2, h3, h4, h5, h6, h7])
          ⟨Nat.zero_le _, rfl, by rw [← hhe]; exact hh2, by rw [← hhe]⟩ (.cons rfl (.cons rfl (.cons rfl (.cons rfl (.nil _))))) rfl ?_
        rintro ⟨t, vv⟩ ⟨ht, hvl, hv32, hN⟩
        obtain ⟨v0, v1, v2, v3, v4, v5, v6, v7, rfl⟩ : ∃ v0 v1 v2 v3 v4 v5 v6 v7, vv = [v0, v1, v2, v3, v4, v5, v6, v7] := by
          match vv, hvl with
          | [v0, v1, v2, v3, v4, v5, v6, v7], _ => exact ⟨_, _, _, _, _, _, _, _, rfl⟩
        have b0 : v0 < M32 := hv32 _ (by simp)
        have b1 : v1 < M32 := hv32 _ (by simp)
        have b2 : v2 < M32 := hv32 _ (by simp)
        have b3 : v3 < M32 := hv32 _ (by simp)
        have b4 : v4 < M32 := hv32 _ (by simp)
        have b5 : v5 < M32 := hv32 _ (by simp)
        have b6 : v6 < M32 := hv32 _ (by simp)
        have b7 : v7 < M32 := hv32 _ (by simp)
        refine ab 1000 rfl trivial ?_
        refine S_dec rfl (fun hlt => ?_) (fun hlt => ?_)
        · have htl : t < 64 := by omega
          refine ab 1000 rfl trivial ?_
          refine S_draw 5 [] [.top, .int .u32 (v0 : Nat), .top, .int .u32 (v4 : Nat)] rfl rfl rfl rfl ⟨by decide, by decide, rfl, rfl, by decide, by decide, rfl, rfl, rfl, trivial⟩ ?_
          refine ab 1000 rfl trivial ?_
          have hkg : (u32L kTab)[t]? = some (.int .u32 (kTab.getD t 0 : Nat)) := u32L_get (by show t < 64; exact htl)
          have hrot : ∀ (x n : Nat), x < M32 → 1 ≤ n → n ≤ 31 → ∀ σ, ∃ args', Calc cx 150 args' (.int .u32 (rotr x n)) ∧ Frzs σ [.int .u32 x, .int .i64 (-(n : Int))] args' :=
            fun x n hx h1 h2 σ => ⟨_, Rotate_ok x n hx h1 h2, .cons (.refl .int) (.cons (.refl .int) (.nil _))⟩
          refine S_draw 30 [] [.top, .int .u32 (v7 : Nat), .int .u32 (rotr v4 6 : Nat), .int .u32 (rotr v4 11 : Nat), .int .u32 (rotr v4 25 : Nat), .top, .int .u32 (v5 : Nat), .top, .int .u32 (v6 : Nat), .int .u32 (kTab.getD t 0 : Nat), .top, .int .u32 ((schedOf p).getD t 0 : Nat)] rfl rfl rfl rfl
            ⟨by decide, by decide, rfl, rfl, rfl, hrot v4 6 b4 (by decide) (by decide) _, rfl, hrot v4 11 b4 (by decide) (by decide) _, rfl, rfl, hrot v4 25 b4 (by decide) (by decide) _, rfl, rfl, rfl, by decide, by decide, rfl, rfl, rfl, rfl, rfl, by decide, by decide, rfl, rfl, rfl, rfl, rfl, rfl,
              by omega, by omega, ?_, rfl, rfl, rfl, by omega, by omega, rfl, ?_, rfl, trivial⟩ ?_
          · show ((u32L kTab).drop ((t : Int).toNat * 1)).take 1 = [.int .u32 (kTab.getD t 0 : Nat)]
            rw [Int.toNat_natCast, Nat.mul_one]
            have hlk : t < (u32L kTab).length := by show t < 64; exact htl
            rw [List.drop_eq_getElem_cons hlk, List.take_succ_cons, List.take_zero]
            rw [List.getElem?_eq_getElem hlk] at hkg
            simp only [Option.some.injEq] at hkg
            rw [hkg]
          · show ((u32L (schedOf p)).drop (mulN (t : Int).toNat 1))[0]? = _
            rw [mulN_eq, Int.toNat_natCast, Nat.mul_one, u32L_ld (by omega)]
          refine ab 1000 rfl trivial ?_
          refine S_draw 24 [] [.int .u32 (rotr v0 2 : Nat), .int .u32 (rotr v0 13 : Nat), .int .u32 (rotr v0 22 : Nat), .top, .int .u32 (v1 : Nat), .top, .int .u32 (v2 : Nat), .top, .int .u32 (v1 : Nat), .top, .int .u32 (v2 : Nat)] rfl rfl rfl rfl
            ⟨rfl, hrot v0 2 b0 (by decide) (by decide) _, rfl, hrot v0 13 b0 (by decide) (by decide) _, rfl, rfl, hrot v0 22 b0 (by decide) (by decide) _, rfl, rfl, by decide, by decide, rfl, rfl, rfl, rfl, by decide, by decide, rfl, rfl, rfl, rfl, by decide, by decide, rfl, rfl, by decide, by decide, rfl, rfl, rfl, rfl, rfl, trivial⟩ ?_
          refine ab 1000 rfl trivial ?_
          have hk32 : kTab.getD t 0 < M32 := kTab32.getD t
          have hw32 := hW32.getD t
          obtain ⟨U, hU⟩ : ∃ U, U = (v7 + Sig1 v4 + ((v4 &&& v5) ^^^ ((4294967295 - v4) &&& v6)) + (kTab.getD t 0 + (schedOf p).getD t 0)) % M32 := ⟨_, rfl⟩
          obtain ⟨X, hX⟩ : ∃ X, X = (Sig0 v0 + ((v0 &&& v1) ^^^ (v0 &&& v2) ^^^ (v1 &&& v2))) % M32 := ⟨_, rfl⟩
          have hround : round [v0, v1, v2, v3, v4, v5, v6, v7] (kTab.getD t 0 + (schedOf p).getD t 0) = [(U + X) % M32, v0, v1, v2, (v3 + U) % M32, v4, v5, v6] := by
            rw [hU, hX]; rfl
          refine S_weak (fr' := [(0, .ptr 0 v 0), (4, .ptr 2 (a + 1) 0), (13, .ptr 3 (b + 1) 0), (94, .int .i64 t), (17, .int .u32 (U : Nat)), (18, .int .u32 (X : Nat))]) (.cons rfl (.cons rfl (.cons rfl (.cons rfl (.cons ?_ (.cons ?_ (.nil _))))))) ?_
          · show AV.int .u32 (IntKind.u32.wrap (IntKind.u32.wrap (IntKind.u32.wrap (IntKind.u32.wrap ((v7 : Nat) + bitsA .xor .u32 (bitsA .xor .u32 (rotr v4 6 : Nat) (rotr v4 11 : Nat)) (rotr v4 25 : Nat)) + bitsA .xor .u32 (bitsA .and .u32 (v4 : Nat) (v5 : Nat)) (bitsA .and .u32 (bitsA .xor .u32 (if IntKind.u32.signed = true then -1 else IntKind.u32.max) (v4 : Nat)) (v6 : Nat))) + (kTab.getD t 0 : Nat)) + ((schedOf p).getD t 0 : Nat))) = _
            rw [u32xor (rotr_lt _ b4) (rotr_lt _ b4), u32xor (xor_lt (rotr_lt _ b4) (rotr_lt _ b4)) (rotr_lt _ b4), u32not' b4, u32and b4 b5, u32and (by show _ < 4294967296; omega) b6, u32xor (and_lt b4) (and_lt (by show _ < 4294967296; omega))]
            rw [u32add, u32add, u32add, u32add, hU]
            exact congrArg (fun z : Nat => AV.int .u32 (z : Int)) (addmods v7 (Sig1 v4) _ _ _)
          · show AV.int .u32 (IntKind.u32.wrap (bitsA .xor .u32 (bitsA .xor .u32 (rotr v0 2 : Nat) (rotr v0 13 : Nat)) (rotr v0 22 : Nat) + bitsA .xor .u32 (bitsA .xor .u32 (bitsA .and .u32 (v0 : Nat) (v1 : Nat)) (bitsA .and .u32 (v0 : Nat) (v2 : Nat))) (bitsA .and .u32 (v1 : Nat) (v2 : Nat)))) = _
            rw [u32xor (rotr_lt _ b0) (rotr_lt _ b0), u32xor (xor_lt (rotr_lt _ b0) (rotr_lt _ b0)) (rotr_lt _ b0), u32and b0 b1, u32and b0 b2, u32and b1 b2, u32xor (and_lt b0) (and_lt b0), u32xor (xor_lt (and_lt b0) (and_lt b0)) (and_lt b1), u32add, hX]
            exact congrArg (fun z : Nat => AV.int .u32 (((z + _) % M32 : Nat) : Int)) (show rotr v0 2 ^^^ rotr v0 13 ^^^ rotr v0 22 = Sig0 v0 from rfl)
          refine S_draw 2 [] [] rfl rfl rfl rfl ⟨rfl, by decide, by decide, rfl, lble rfl, by decide, rfl, by decide, by decide, rfl, lble rfl, by decide, trivial⟩ ?_
          refine ab 1000 rfl ⟨by decide, by decide, lble rfl, lble rfl, rfl, rfl, allOne_mem (cs := [_, _, _, _, _, _, _]) rfl, lble rfl, rfl, rfl, trivial⟩ ?_
          refine S_index .top rfl rfl rfl ⟨by decide, by decide, trivial⟩ ?_
          refine S_load (.int .u32 (v3 : Nat)) rfl rfl rfl ⟨rfl, rfl, trivial⟩ ?_
          refine ab 1000 rfl trivial ?_
          refine S_index .top rfl rfl rfl ⟨by decide, by decide, trivial⟩ ?_
          refine S_store rfl rfl rfl ⟨rfl, rfl, rfl, lble rfl, trivial⟩ ?_
          refine ab 1000 rfl trivial ?_
          refine S_index .top rfl rfl rfl ⟨by decide, by decide, trivial⟩ ?_
          refine S_store rfl rfl rfl ⟨rfl, rfl, rfl, lble rfl, trivial⟩ ?_
          refine S_heap [sB v [h0, h1, h2, h3, h4, h5, h6, h7], bB u bs g, wB (a + 1) (schedOf p), wB (b + 1) [(U + X) % M32, v0, v1, v2, (v3 + U) % M32, v4, v5, v6]] ?_ ?_
          · show [_, _, _, (b + 1, some (Box.cells [AV.int .u32 (IntKind.u32.wrap ((U : Nat) + (X : Nat))), .int .u32 v0, .int .u32 v1, .int .u32 v2, AV.int .u32 (IntKind.u32.wrap ((v3 : Nat) + (U : Nat))), .int .u32 v4, .int .u32 v5, .int .u32 v6] _))] = _
            rw [u32add, u32add]; rfl
          refine ab 1000 rfl trivial ?_
          refine S_round (t + 1, [(U + X) % M32, v0, v1, v2, (v3 + U) % M32, v4, v5, v6]) (by show 64 - (t + 1) < 64 - t; omega) ⟨htl, rfl, by rw [← hround]; exact round_lt _ hv32, ?_⟩ (.cons rfl (.cons rfl (.cons rfl (.cons (ai64 rfl (by omega)) (.nil _))))) rfl
          rw [← hN, show 64 - t = (64 - (t + 1)) + 1 by omega, rounds, hround]
        · have ht64 : t = 64 := by omega
          subst ht64
          have hVe : rounds 64 0 (schedOf p) h = [v0, v1, v2, v3, v4, v5, v6, v7] := hN.symm
          have hblk : block h p = addW h [v0, v1, v2, v3, v4, v5, v6, v7] := by rw [block, hVe]
          rw [hblk, hhe]
          refine ab 1000 rfl ⟨rfl, trivial⟩ ?_
          refine S_while (α := Nat) (fun i => [(0, .ptr 0 v 0), (168, .agg (u32L [v0, v1, v2, v3, v4, v5, v6, v7])), (169, .int .i64 i)])
            (fun i => [sB v ((addW [h0, h1, h2, h3, h4, h5, h6, h7] [v0, v1, v2, v3, v4, v5, v6, v7]).take i ++ [h0, h1, h2, h3, h4, h5, h6, h7].drop i), bB u bs g, wB (a + 1) (schedOf p), wB (b + 1) [v0, v1, v2, v3, v4, v5, v6, v7]]) (fun i => i ≤ 8) (fun i => 8 - i) 0
            (Nat.zero_le _) (.cons rfl (.cons rfl (.cons rfl (.nil _)))) rfl ?_
          intro i hi
          generalize hHd : [h0, h1, h2, h3, h4, h5, h6, h7] = hl at *
          generalize hVd : [v0, v1, v2, v3, v4, v5, v6, v7] = vl at *
          have hhl : hl.length = 8 := by rw [← hHd]; rfl
          have hvl' : vl.length = 8 := by rw [← hVd]; rfl
          have hal := addW_len hl vl
          refine ab 1000 rfl trivial ?_
          refine S_dec rfl (fun hlt => ?_) (fun hlt => ?_)
          · have hil : i < 8 := by omega
            have htk : ((addW hl vl).take i).length = i := by rw [List.length_take, hal]; omega
            have hdr : hl.drop i = hl.getD i 0 :: hl.drop (i + 1) := by
              rw [List.drop_eq_getElem_cons (by omega)]
              simp [List.getD, show i < hl.length by omega]
            have hcl : ((addW hl vl).take i ++ hl.drop i).length = 8 := by rw [List.length_append, htk, List.length_drop]; omega
            have hcg : ((addW hl vl).take i ++ hl.drop i).getD i 0 = hl.getD i 0 := by
              rw [List.getD, List.getElem?_append_right (by omega), htk, Nat.sub_self, hdr]; rfl
            refine ab 1000 rfl trivial ?_
            refine S_elem (.int .u32 (vl.getD i 0 : Nat)) rfl rfl rfl ⟨by omega, by omega, rfl, by rw [Int.toNat_natCast]; exact u32L_get (by omega), trivial⟩ ?_
            refine ab 1000 rfl trivial ?_
            refine S_draw 11 [] [.top, .int .u32 (hl.getD i 0 : Nat), .top] rfl rfl rfl rfl ⟨rfl, rfl, rfl, rfl, by omega, by omega, rfl, ?_, rfl, rfl, rfl, rfl, by omega, by omega, trivial⟩ ?_
            · show ((u32L ((addW hl vl).take i ++ hl.drop i)).drop (mulN (i : Int).toNat 1))[0]? = _
              rw [mulN_eq, Int.toNat_natCast, Nat.mul_one, u32L_ld (by omega), hcg]
            refine S_store rfl rfl rfl ⟨rfl, rfl, rfl, ?_, trivial⟩ ?_
            · show mulN (i : Int).toNat 1 + 1 ≤ (u32L _).length
              rw [mulN_eq, Int.toNat_natCast, Nat.mul_one, u32L_len]; omega
            refine S_heap [sB v ((addW hl vl).take (i + 1) ++ hl.drop (i + 1)), bB u bs g, wB (a + 1) (schedOf p), wB (b + 1) vl] ?_ ?_
            · show [(v, some (Box.cells (setRange (u32L ((addW hl vl).take i ++ hl.drop i)) (mulN (i : Int).toNat 1) [AV.int .u32 (IntKind.u32.wrap ((hl.getD i 0 : Nat) + (vl.getD i 0 : Nat)))]) _)), _, _, _] = _
              rw [u32add, mulN_eq, Int.toNat_natCast, Nat.mul_one, u32L_set, hdr]
              have hsf := set_fill ((addW hl vl).take i) 0 ((hl.getD i 0 + vl.getD i 0) % M32) (hl.getD i 0) (hl.drop (i + 1))
              rw [htk] at hsf
              rw [hsf]
              have hta : (addW hl vl).take (i + 1) = (addW hl vl).take i ++ [(hl.getD i 0 + vl.getD i 0) % M32] := by
                rw [List.take_succ_eq_append_getElem (by omega)]
                simp [addW]
              rw [hta, List.append_assoc]; rfl
            refine ab 1000 rfl trivial ?_
            exact S_round (i + 1) (by show 8 - (i + 1) < 8 - i; omega) hil (.cons rfl (.cons rfl (.cons (ai64 rfl (by omega)) (.nil _)))) rfl
          · have hi8 : i = 8 := by omega
            subst hi8
            refine S_drop (id := 2) rfl ?_ ⟨_, _, .inl rfl⟩
            refine S_drop (id := 3) rfl ?_ ⟨_, _, .inl rfl⟩
            refine ab 1000 rfl trivial ?_
            refine S_nil ⟨_, _, rfl, trivial, rfl, ?_⟩
            show [sB v ((addW hl vl).take 8 ++ hl.drop 8), _, _, _] = _
            rw [List.take_of_length_le (by omega), List.drop_of_length_le (by omega), List.append_nil]
end Go.Proofs.YtjkeekbfgnmngaaGreatDoor
end
section
set_option linter.unusedVariables false
set_option linter.unusedSimpArgs false
set_option maxRecDepth 20000
namespace Go.Proofs.YtjkeekbfgnmngaaGreatDoor
open Go Go.Ab
theorem padded_len (s : List UInt8) : (padded s).length = s.length + 1 + padLen s.length + 8 := by
  simp [padded, be8]; omega
theorem padded_mod (s : List UInt8) : (padded s).length % 64 = 0 := by
  rw [padded_len]; unfold padLen; omega
theorem blocks_len : ∀ (k : Nat) (h : List Nat) (p : List UInt8), h.length = 8 → (blocks k h p).length = 8
  | 0, h, p, hh => hh
  | k + 1, h, p, hh => blocks_len k _ _ (block_len _ _)
theorem blocks_lt : ∀ (k : Nat) (h : List Nat) (p : List UInt8), W32 h → W32 (blocks k h p)
  | 0, h, p, hh => hh
  | k + 1, h, p, hh => blocks_lt k _ _ (block_lt _ _)
theorem beW_take (p : List UInt8) (i : Nat) (h : i + 3 < 64) : beW (p.take 64) i = beW p i := by
  have : ∀ j, j < 64 → (p.take 64).getD j 0 = p.getD j 0 := by
    intro j hj
    simp [List.getD, List.getElem?_take, hj]
  unfold beW
  rw [this i (by omega), this (i + 1) (by omega), this (i + 2) (by omega), this (i + 3) (by omega)]
theorem words_take (p : List UInt8) : words (p.take 64) = words p := by
  unfold words
  apply List.map_congr_left
  intro t ht
  rw [List.mem_range] at ht
  exact beW_take p (4 * t) (by omega)
theorem block_take (h : List Nat) (p : List UInt8) : block h (p.take 64) = block h p := by
  unfold block schedOf; rw [words_take]
def beB (n : Nat) : List UInt8 := (List.range 4).map fun j => UInt8.ofNat (n / 2 ^ (24 - 8 * j) % 256)
def rawOf (s : List UInt8) : List UInt8 := (hashOf s).flatMap beB
theorem hashOf_len (s : List UInt8) : (hashOf s).length = 8 := blocks_len _ _ _ rfl
theorem hashOf_lt (s : List UInt8) : W32 (hashOf s) := blocks_lt _ _ _ (by show ∀ x ∈ hTab, x < M32; decide +kernel)
theorem fB_len (l : List Nat) : (l.flatMap beB).length = 4 * l.length := by
  induction l with
  | nil => rfl
  | cons a r ih => rw [List.flatMap_cons, List.length_append, ih, List.length_cons]; simp [beB]; omega
theorem rawOf_len (s : List UInt8) : (rawOf s).length = 32 := by rw [rawOf, fB_len, hashOf_len]
theorem split32 (l : List UInt8) (h : l.length = 32) : ∃ r0 r1 r2 r3 r4 r5 r6 r7 r8 r9 r10 r11 r12 r13 r14 r15 r16 r17 r18 r19 r20 r21 r22 r23 r24 r25 r26 r27 r28 r29 r30 r31, l = [r0, r1, r2, r3, r4, r5, r6, r7, r8, r9, r10, r11, r12, r13, r14, r15, r16, r17, r18, r19, r20, r21, r22, r23, r24, r25, r26, r27, r28, r29, r30, r31] := by
  match l, h with
  | [r0, r1, r2, r3, r4, r5, r6, r7, r8, r9, r10, r11, r12, r13, r14, r15, r16, r17, r18, r19, r20, r21, r22, r23, r24, r25, r26, r27, r28, r29, r30, r31], _ => exact ⟨_, _, _, _, _, _, _, _, _, _, _, _, _, _, _, _, _, _, _, _, _, _, _, _, _, _, _, _, _, _, _, _, rfl⟩
def rB : Nat × Option Box := (0, some (.cells (List.replicate 32 (.int .u8 0)) ⟨false, none⟩))
theorem raw_ok (s : List UInt8) (hs : s.length ≤ 70368744177664) : Calc cx 76 [.str s] (.agg ((rawOf s).map byteAV)) :=
  pure_intro (fun a w => Tryz.call76 a w) Tryz.func76 rfl Tryz.ntmps76 rfl (.agg (by intro x hx; obtain ⟨y, _, rfl⟩ := List.mem_map.1 hx; exact .int)) fun B => by
    refine go (M := [11]) 1000 rfl ⟨?_, ?_, ?_, rfl, rfl, allOne_mem (cs := [.int .u8 128]) rfl, allOne_mem (cs := [.int .u8 128]) rfl, rfl, trivial⟩ ?_
    · show s.length + 1 ≤ 9223372036854775807; omega
    · show (s.length + 1) * 1 ≤ 140737488355328; omega
    · show 0 + s.length * 1 = (s.map byteAV).length; simp
    obtain ⟨rb, hrb⟩ : ∃ rb : Nat × Option Box, rb = (0, some (.cells (List.replicate 32 (.int .u8 0)) ⟨false, none⟩)) := ⟨_, rfl⟩
    have hbl : ∀ k, ((s ++ [128] ++ List.replicate k (0 : UInt8))).length = s.length + 1 + k := fun k => by simp; omega
    have hpl : padLen s.length < 64 := Nat.mod_lt _ (by decide)
    refine S_while (α := Nat × Nat) (fun (u, k) => [(0, .str s), (2, .ptr 0 0 0), (3, .ms 1 u 0 (s.length + 1 + k) 1 false)]) (fun (u, k) => [rb, bB u (s ++ [128] ++ List.replicate k 0) ⟨false, some 5⟩])
      (fun (u, k) => k ≤ padLen s.length) (fun (u, k) => padLen s.length - k) (1, 0)
      (Nat.zero_le _) (.cons rfl (.cons rfl (.cons rfl (.nil _)))) (by rw [hrb]; simp only [bB, List.replicate_zero, List.append_nil, List.map_append, List.map_cons, List.map_nil]; rfl) ?_
    rintro ⟨u, k⟩ hk
    refine ab 1000 rfl ⟨by decide, trivial⟩ ?_
    have hmod : (((s.length + 1 + k : Nat) : Int)).tmod 64 = (((s.length + 1 + k) % 64 : Nat) : Int) := rfl
    refine S_bne rfl (fun h56 => ?_) (fun h56 => ?_)
    · have h56 : (s.length + 1 + k) % 64 ≠ 56 := by
        have : ((((s.length + 1 + k : Nat) : Int)).tmod 64) ≠ 56 := h56
        rw [hmod] at this; omega
      have hkl : k < padLen s.length := by unfold padLen at *; omega
      refine ab 1000 rfl ⟨?_, ?_, ?_, rfl, rfl, allOne_mem (cs := [.int .u8 0]) rfl, allOne_mem (cs := [.int .u8 0]) rfl, rfl, trivial⟩ ?_
      · show s.length + 1 + k + 1 ≤ 9223372036854775807; omega
      · show (s.length + 1 + k + 1) * 1 ≤ 140737488355328; omega
      · show 0 + (s.length + 1 + k) * 1 = ((s ++ [128] ++ List.replicate k (0 : UInt8)).map byteAV).length
        rw [List.length_map, hbl]; omega
      refine S_round (u + 1, k + 1) (by show padLen s.length - (k + 1) < padLen s.length - k; omega) hkl (.cons rfl (.cons rfl (.cons rfl (.nil _)))) ?_
      show [rb, (u + 1, some (Box.cells ((s ++ [128] ++ List.replicate k (0 : UInt8)).map byteAV ++ [.int .u8 0]) _))] = [rb, bB (u + 1) (s ++ [128] ++ List.replicate (k + 1) 0) _]
      rw [List.replicate_succ', ← List.append_assoc]
      simp only [bB, List.map_append, List.map_cons, List.map_nil]
      rfl
    · have h56 : (s.length + 1 + k) % 64 = 56 := by
        have : ((((s.length + 1 + k : Nat) : Int)).tmod 64) = 56 := h56
        rw [hmod] at this; omega
      have hkl : k = padLen s.length := by unfold padLen at *; omega
      subst hkl
      obtain ⟨base, hbase⟩ : ∃ base, base = s ++ [128] ++ List.replicate (padLen s.length) (0 : UInt8) := ⟨_, rfl⟩
      have hbl' : base.length = s.length + 1 + padLen s.length := by rw [hbase]; exact hbl _
      have hpd : padded s = base ++ be8 (8 * s.length) := by rw [hbase]; rfl
      refine ab 1000 rfl trivial ?_
      refine S_while (α := Nat × Nat) (fun (u, j) => [(0, .str s), (2, .ptr 0 0 0), (3, .ms 1 u 0 (base.length + j) 1 false), (4, .int .i64 (7 - (j : Int)))]) (fun (u, j) => [rb, bB u (base ++ (be8 (8 * s.length)).take j) ⟨false, some 5⟩])
        (fun (u, j) => j ≤ 8) (fun (u, j) => 8 - j) (u, 0)
        (Nat.zero_le _) (.cons rfl (.cons rfl (.cons (by rw [hbl']; rfl) (.cons rfl (.nil _))))) (by rw [hbase]; simp) ?_
      rintro ⟨u, j⟩ hj
      refine ab 1000 rfl trivial ?_
      refine S_dec rfl (fun hlt => ?_) (fun hlt => ?_)
      · have hj8 : j < 8 := by omega
        have hw1 : IntKind.u64.wrap (s.length : Int) = (s.length : Int) := wu64 rfl (by omega)
        have hw2 : IntKind.u64.wrap ((s.length : Int) * 8) = ((8 * s.length : Nat) : Int) := wu64 (by omega) (by omega)
        have hw3 : IntKind.i64.wrap (8 * (7 - (j : Int))) = ((8 * (7 - j) : Nat) : Int) := w64 (by omega) (by omega)
        refine ab 1000 rfl ⟨?_, ?_, ?_, rfl, rfl, ?_, ?_, rfl, by rw [hw3]; omega, trivial⟩ ?_
        · show base.length + j + 1 ≤ 9223372036854775807; omega
        · show (base.length + j + 1) * 1 ≤ 140737488355328; omega
        · show 0 + (base.length + j) * 1 = ((base ++ (be8 (8 * s.length)).take j).map byteAV).length
          simp [be8]; omega
        · exact allOne_mem (cs := [.int .u8 _]) rfl
        · exact allOne_mem (cs := [.int .u8 _]) rfl
        have hval : AV.int .u8 (IntKind.u8.wrap ((IntKind.u64.wrap (IntKind.u64.wrap (s.length : Int) * 8)).fdiv (2 ^ (min (IntKind.i64.wrap (8 * (7 - (j : Int)))).toNat 64)))) = byteAV (UInt8.ofNat (8 * s.length / 256 ^ (7 - j) % 256)) := by
          rw [hw1, hw2, hw3, Int.toNat_natCast, Nat.min_eq_left (by omega), shr_nat, wrap_low rfl]
          have : (2 : Nat) ^ (8 * (7 - j)) = 256 ^ (7 - j) := by rw [show (256 : Nat) = 2 ^ 8 from rfl, ← Nat.pow_mul]
          rw [this]
          exact byteAV_of rfl (Nat.mod_lt _ (by decide))
        refine S_round (u + 1, j + 1) (by show 8 - (j + 1) < 8 - j; omega) hj8 (.cons rfl (.cons rfl (.cons rfl (.cons ?_ (.nil _))))) ?_
        · show AV.int .i64 (IntKind.i64.wrap (7 - (j : Int) - 1)) = .int .i64 (7 - ((j + 1 : Nat) : Int))
          exact ai64i (by omega) (by omega)
        · show [rb, (u + 1, some (Box.cells ((base ++ (be8 (8 * s.length)).take j).map byteAV ++ [AV.int .u8 (IntKind.u8.wrap ((IntKind.u64.wrap (IntKind.u64.wrap (s.length : Int) * 8)).fdiv (2 ^ (min (IntKind.i64.wrap (8 * (7 - (j : Int)))).toNat 64))))]) _))] = [rb, bB (u + 1) (base ++ (be8 (8 * s.length)).take (j + 1)) _]
          rw [hval]
          have ht : (be8 (8 * s.length)).take (j + 1) = (be8 (8 * s.length)).take j ++ [UInt8.ofNat (8 * s.length / 256 ^ (7 - j) % 256)] := by
            rw [List.take_succ_eq_append_getElem (by simp [be8]; omega)]
            simp [be8]
          rw [ht]
          simp only [bB, List.map_append, List.map_cons, List.map_nil, List.append_assoc]
          rfl
      · have hj8 : j = 8 := by omega
        subst hj8
        have htake : base ++ (be8 (8 * s.length)).take 8 = padded s := by rw [hpd, List.take_of_length_le (by simp [be8])]
        have hPl : (padded s).length = base.length + 8 := by rw [hpd, List.length_append]; simp [be8]
        have hPm := padded_mod s
        have hPb : (padded s).length ≤ 4611686018427387904 := by rw [padded_len]; omega
        refine S_heap [rB, bB u (padded s) ⟨false, some 5⟩] (by rw [← htake, hrb]; rfl) ?_
        refine ab 1000 rfl trivial ?_
        refine S_dead ?_ ⟨_, _, .inl rfl⟩
        refine S_dead ?_ ⟨_, _, .inl rfl⟩
        refine S_while (α := Nat × List Nat × Nat × Nat × Bool) (fun (m, h, a, b, fl) => [(0, .str s), (2, .ptr 0 0 0), (3, .ms 1 u (64 * m) ((padded s).length - 64 * m) 1 fl), (5, .ptr 2 0 0)]) (fun (m, h, a, b, fl) => [rB, bB u (padded s) ⟨false, some 5⟩, sB 0 h, (a, none), (b, none)])
          (fun (m, h, a, b, fl) => 64 * m ≤ (padded s).length ∧ h.length = 8 ∧ W32 h ∧ blocks ((padded s).length / 64 - m) h ((padded s).drop (64 * m)) = hashOf s) (fun (m, h, a, b, fl) => (padded s).length - 64 * m) (0, hTab, 0, 0, false)
          ⟨Nat.zero_le _, rfl, by show ∀ x ∈ hTab, x < M32; decide +kernel, rfl⟩ (.cons rfl (.cons rfl (.cons (by rw [hPl]; rfl) (.cons rfl (.nil _))))) rfl ?_
        rintro ⟨m, h, a, b, fl⟩ ⟨hm, hhl, hh32, hN⟩
        refine ab 1000 rfl trivial ?_
        refine S_dec rfl (fun hlt => ?_) (fun hlt => ?_)
        · have hm64 : 64 * m + 64 ≤ (padded s).length := by omega
          refine ab 1000 rfl trivial ?_
          refine S_callf [2, 1, 3, 4] (block_ok 0 u a b (64 * m) ((padded s).length - 64 * m) fl h (padded s) ⟨false, some 5⟩ hhl hh32 (by omega) (by omega) hPb) rfl (.cons (.ptr rfl) (.cons (.ms rfl) (.nil _)))
            (Part.mk' (es := [sB 0 h, bB u (padded s) ⟨false, some 5⟩, (a, none), (b, none)]) rfl rfl (.cons (.live (.cells (Rns.free ?_))) (.cons (.live (.cells (Rns.free ?_))) (.cons .dead (.cons .dead (.nil _)))))) rfl rfl ?_ (by rintro y σ1 ⟨h1, _⟩; cases h1)
          · intro x hx; obtain ⟨y, _, rfl⟩ := List.mem_map.1 hx; exact .int
          · intro x hx; obtain ⟨y, _, rfl⟩ := List.mem_map.1 hx; exact .int
          rintro y σ1 ⟨h1, rfl⟩
          cases h1
          refine ⟨.tup [], [sB 0 (block h ((padded s).drop (64 * m))), bB u (padded s) ⟨false, some 5⟩, (a + 1, none), (b + 1, none)], .cons (.live (.cells (Rns.free ?_))) (.cons (.live (.cells (Rns.free ?_))) (.cons .dead (.cons .dead (.nil _)))), .free (.tup (by simp)), ?_⟩
          · intro x hx; obtain ⟨y, _, rfl⟩ := List.mem_map.1 hx; exact .int
          · intro x hx; obtain ⟨y, _, rfl⟩ := List.mem_map.1 hx; exact .int
          refine ab 1000 rfl ⟨rfl, by omega, by decide, trivial⟩ ?_
          refine S_round (m + 1, block h ((padded s).drop (64 * m)), a + 1, b + 1, fl) (by show (padded s).length - 64 * (m + 1) < (padded s).length - 64 * m; omega) ⟨by omega, block_len _ _, block_lt _ _, ?_⟩ (.cons rfl (.cons rfl (.cons ?_ (.cons rfl (.nil _))))) rfl
          · rw [← hN, show (padded s).length / 64 - m = ((padded s).length / 64 - (m + 1)) + 1 by omega, blocks, block_take, List.drop_drop]
            congr 2
          · show AV.ms 1 u (64 * m + (64 : Int).toNat * 1) ((((padded s).length - 64 * m : Nat) : Int).toNat - (64 : Int).toNat) 1 fl = _
            congr 1
        · have hm64 : 64 * m = (padded s).length := by omega
          have hH : h = hashOf s := by
            rw [← hN, show (padded s).length / 64 - m = 0 by omega]; rfl
          subst hH
          obtain ⟨h0, h1, h2, h3, h4, h5, h6, h7, hhe⟩ : ∃ h0 h1 h2 h3 h4 h5 h6 h7, hashOf s = [h0, h1, h2, h3, h4, h5, h6, h7] := by
            have h8 := hashOf_len s
            match hashOf s, h8 with
            | [h0, h1, h2, h3, h4, h5, h6, h7], _ => exact ⟨_, _, _, _, _, _, _, _, rfl⟩
          have hHlt := hashOf_lt s
          have hro : rawOf s = (hashOf s).flatMap beB := rfl
          rw [hhe] at hHlt hro
          refine S_heap [rB, bB u (padded s) ⟨false, some 5⟩, sB 0 [h0, h1, h2, h3, h4, h5, h6, h7], (a, none), (b, none)] (by rw [← hhe]) ?_
          refine ab 1000 rfl ⟨rfl, trivial⟩ ?_
          obtain ⟨HL, hHL⟩ : ∃ HL, HL = [h0, h1, h2, h3, h4, h5, h6, h7] := ⟨_, rfl⟩
          rw [← hHL] at hHlt hro
          have hHl : HL.length = 8 := by rw [hHL]; rfl
          have hbB : ∀ n, (beB n).length = 4 := fun n => by simp [beB]
          refine S_while (α := Nat) (fun i => [(2, .ptr 0 0 0), (6, .ptr 3 (a + 1) 0), (50, .agg (u32L HL)), (51, .int .i64 i)]) (fun i => [rB, bB u (padded s) ⟨false, some 5⟩, sB 0 HL, (a + 1, some (.cells (((HL.take i).flatMap beB ++ List.replicate (32 - 4 * i) 0).map byteAV) ⟨false, none⟩)), (b, none)])
            (fun i => i ≤ 8) (fun i => 8 - i) 0 (Nat.zero_le _) (.cons rfl (.cons rfl (.cons (by rw [hHL]; rfl) (.cons rfl (.nil _))))) (by rw [hHL]; rfl) ?_
          intro i hi
          have htk : ((HL.take i).flatMap beB).length = 4 * i := by rw [fB_len, List.length_take]; omega
          refine ab 1000 rfl trivial ?_
          refine S_dec rfl (fun hlt => ?_) (fun hlt => ?_)
          · have hil : i < 8 := by omega
            refine ab 1000 rfl trivial ?_
            refine S_elem (.int .u32 (HL.getD i 0 : Nat)) rfl rfl rfl ⟨by omega, by omega, rfl, by rw [Int.toNat_natCast]; exact u32L_get (by omega), trivial⟩ ?_
            refine ab 1000 rfl trivial ?_
            have hn := hHlt.getD i
            obtain ⟨nn, hnn⟩ : ∃ nn, nn = HL.getD i 0 := ⟨_, rfl⟩
            rw [← hnn] at hn
            refine S_while (α := Nat) (fun j => [(2, .ptr 0 0 0), (6, .ptr 3 (a + 1) 0), (7, .int .i64 i), (8, .int .u32 (nn : Nat)), (50, .agg (u32L HL)), (51, .int .i64 i), (55, .int .i64 j)]) (fun j => [rB, bB u (padded s) ⟨false, some 5⟩, sB 0 HL, (a + 1, some (.cells ((((HL.take i).flatMap beB ++ (beB nn).take j) ++ List.replicate (32 - 4 * i - j) 0).map byteAV) ⟨false, none⟩)), (b, none)])
              (fun j => j ≤ 4) (fun j => 4 - j) 0 (Nat.zero_le _) (.cons rfl (.cons rfl (.cons rfl (.cons (by rw [hnn]; rfl) (.cons rfl (.cons rfl (.cons rfl (.nil _)))))))) (by simp) ?_
            intro j hj
            refine ab 1000 rfl trivial ?_
            refine S_dec rfl (fun hlt => ?_) (fun hlt => ?_)
            · have hj4 : j < 4 := by omega
              have hpre : ((HL.take i).flatMap beB ++ (beB nn).take j).length = 4 * i + j := by rw [List.length_append, htk, List.length_take, hbB]; omega
              have hw1 : IntKind.i64.wrap (8 * (j : Int)) = ((8 * j : Nat) : Int) := w64 rfl (by omega)
              have hw2 : IntKind.i64.wrap (24 - ((8 * j : Nat) : Int)) = ((24 - 8 * j : Nat) : Int) := w64 (by omega) (by omega)
              have hw3 : IntKind.i64.wrap (4 * (i : Int)) = ((4 * i : Nat) : Int) := w64 rfl (by omega)
              have hw4 : IntKind.i64.wrap (((4 * i : Nat) : Int) + (j : Int)) = ((4 * i + j : Nat) : Int) := w64 rfl (by omega)
              refine ab 1000 rfl ⟨by rw [hw1, hw2]; omega, trivial⟩ ?_
              refine S_index .top rfl rfl rfl ⟨by rw [hw3, hw4]; omega, by rw [hw3, hw4]; omega, trivial⟩ ?_
              refine S_store rfl rfl rfl ⟨rfl, rfl, rfl, ?_, trivial⟩ ?_
              · show mulN (IntKind.i64.wrap (IntKind.i64.wrap (4 * (i : Int)) + (j : Int))).toNat 1 + 1 ≤ (((((HL.take i).flatMap beB ++ (beB nn).take j) ++ List.replicate (32 - 4 * i - j) 0).map byteAV)).length
                rw [mulN_eq, hw3, hw4, Int.toNat_natCast, Nat.mul_one, List.length_map, List.length_append, hpre, List.length_replicate]; omega
              have hval : AV.int .u8 (IntKind.u8.wrap ((nn : Int).fdiv (2 ^ (min (IntKind.i64.wrap (24 - IntKind.i64.wrap (8 * (j : Int)))).toNat 32)))) = byteAV (UInt8.ofNat (nn / 2 ^ (24 - 8 * j) % 256)) := by
                rw [hw1, hw2, Int.toNat_natCast, Nat.min_eq_left (by omega), shr_nat, wrap_low rfl]
                exact byteAV_of rfl (Nat.mod_lt _ (by decide))
              have ht : (beB nn).take (j + 1) = (beB nn).take j ++ [UInt8.ofNat (nn / 2 ^ (24 - 8 * j) % 256)] := by
                rw [List.take_succ_eq_append_getElem (by rw [hbB]; exact hj4)]
                simp [beB]
              refine S_heap [rB, bB u (padded s) ⟨false, some 5⟩, sB 0 HL, (a + 1, some (.cells ((((HL.take i).flatMap beB ++ (beB nn).take (j + 1)) ++ List.replicate (32 - 4 * i - (j + 1)) 0).map byteAV) ⟨false, none⟩)), (b, none)] ?_ ?_
              · show [_, _, _, (a + 1, some (Box.cells (setRange (((((HL.take i).flatMap beB ++ (beB nn).take j) ++ List.replicate (32 - 4 * i - j) 0).map byteAV)) (mulN (IntKind.i64.wrap (IntKind.i64.wrap (4 * (i : Int)) + (j : Int))).toNat 1) [AV.int .u8 (IntKind.u8.wrap ((nn : Int).fdiv (2 ^ (min (IntKind.i64.wrap (24 - IntKind.i64.wrap (8 * (j : Int)))).toNat 32))))]) _)), _] = _
                rw [hval, mulN_eq, hw3, hw4, Int.toNat_natCast, Nat.mul_one]
                have hrep : List.replicate (32 - 4 * i - j) (0 : UInt8) = 0 :: List.replicate (32 - 4 * i - (j + 1)) 0 := by
                  rw [show 32 - 4 * i - j = (32 - 4 * i - (j + 1)) + 1 by omega, List.replicate_succ]
                rw [hrep]
                have hsf := set_fill (((HL.take i).flatMap beB ++ (beB nn).take j).map byteAV) 0 (byteAV (UInt8.ofNat (nn / 2 ^ (24 - 8 * j) % 256))) (byteAV 0) ((List.replicate (32 - 4 * i - (j + 1)) (0 : UInt8)).map byteAV)
                rw [List.length_map, hpre] at hsf
                have hL : ((((HL.take i).flatMap beB ++ (beB nn).take j) ++ 0 :: List.replicate (32 - 4 * i - (j + 1)) (0 : UInt8)).map byteAV) = ((HL.take i).flatMap beB ++ (beB nn).take j).map byteAV ++ byteAV 0 :: (List.replicate (32 - 4 * i - (j + 1)) (0 : UInt8)).map byteAV := by
                  rw [List.map_append, List.map_cons]
                rw [hL]
                show [_, _, _, (a + 1, some (Box.cells (List.set _ (4 * i + j) _) _)), _] = _
                rw [hsf, ht]
                simp only [List.map_append, List.map_cons, List.map_nil, List.append_assoc, List.singleton_append, List.cons_append, List.nil_append]
              refine ab 1000 rfl trivial ?_
              exact S_round (j + 1) (by show 4 - (j + 1) < 4 - j; omega) hj4 (.cons rfl (.cons rfl (.cons rfl (.cons rfl (.cons rfl (.cons rfl (.cons (ai64 rfl (by omega)) (.nil _)))))))) rfl
            · have hj4 : j = 4 := by omega
              subst hj4
              refine ab 1000 rfl trivial ?_
              refine S_round (i + 1) (by show 8 - (i + 1) < 8 - i; omega) hil (.cons rfl (.cons rfl (.cons rfl (.cons (ai64 rfl (by omega)) (.nil _))))) ?_
              show [_, _, _, (a + 1, some (Box.cells ((((HL.take i).flatMap beB ++ (beB nn).take 4) ++ List.replicate (32 - 4 * i - 4) 0).map byteAV) _)), _] = [_, _, _, (a + 1, some (Box.cells (((HL.take (i + 1)).flatMap beB ++ List.replicate (32 - 4 * (i + 1)) 0).map byteAV) _)), _]
              have hti : HL.take (i + 1) = HL.take i ++ [nn] := by
                rw [List.take_succ_eq_append_getElem (by omega), hnn]
                simp [List.getD, show i < HL.length by omega]
              rw [hti, List.flatMap_append, show (beB nn).take 4 = beB nn from List.take_of_length_le (by rw [hbB]; exact Nat.le_refl _), show 32 - 4 * (i + 1) = 32 - 4 * i - 4 by omega]
              simp
          · have hi8 : i = 8 := by omega
            subst hi8
            have hL : (HL.take 8).flatMap beB ++ List.replicate (32 - 4 * 8) 0 = rawOf s := by
              rw [List.take_of_length_le (by omega), hro]; simp
            obtain ⟨r0, r1, r2, r3, r4, r5, r6, r7, r8, r9, r10, r11, r12, r13, r14, r15, r16, r17, r18, r19, r20, r21, r22, r23, r24, r25, r26, r27, r28, r29, r30, r31, hr32⟩ := split32 (rawOf s) (rawOf_len s)
            refine S_heap [(0, some (.cells (List.replicate 32 (.int .u8 0)) ⟨false, none⟩)), bB u (padded s) ⟨false, some 5⟩, sB 0 HL, (a + 1, some (.cells ([r0, r1, r2, r3, r4, r5, r6, r7, r8, r9, r10, r11, r12, r13, r14, r15, r16, r17, r18, r19, r20, r21, r22, r23, r24, r25, r26, r27, r28, r29, r30, r31].map byteAV) ⟨false, none⟩)), (b, none)] (by rw [← hr32, ← hL]; rfl) ?_
            refine ab 1000 rfl ⟨lble rfl, rfl, rfl, trivial⟩ ?_
            refine S_retc (.agg (by intro x hx; obtain ⟨y, _, rfl⟩ := List.mem_map.1 hx; exact .int)) rfl ⟨rfl, trivial⟩ ?_
            rw [hr32]; rfl
def hex2 (b : UInt8) : List UInt8 := [hexC (b.toNat / 16), hexC (b.toNat % 16)]
theorem hexW_of (n : Nat) : (beB n).flatMap hex2 = hexW n := by
  have e : ∀ x, (UInt8.ofNat (x % 256)).toNat = x % 256 := fun x => by rw [UInt8.toNat_ofNat', Nat.mod_eq_of_lt (by omega)]
  show [hexC ((UInt8.ofNat (n / 16777216 % 256)).toNat / 16), hexC ((UInt8.ofNat (n / 16777216 % 256)).toNat % 16), hexC ((UInt8.ofNat (n / 65536 % 256)).toNat / 16), hexC ((UInt8.ofNat (n / 65536 % 256)).toNat % 16),
    hexC ((UInt8.ofNat (n / 256 % 256)).toNat / 16), hexC ((UInt8.ofNat (n / 256 % 256)).toNat % 16), hexC ((UInt8.ofNat (n / 1 % 256)).toNat / 16), hexC ((UInt8.ofNat (n / 1 % 256)).toNat % 16)] =
    [hexC (n / 268435456 % 16), hexC (n / 16777216 % 16), hexC (n / 1048576 % 16), hexC (n / 65536 % 16), hexC (n / 4096 % 16), hexC (n / 256 % 16), hexC (n / 16 % 16), hexC (n / 1 % 16)]
  simp only [e]
  rw [show n / 16777216 % 256 / 16 = n / 268435456 % 16 by omega, show n / 16777216 % 256 % 16 = n / 16777216 % 16 by omega, show n / 65536 % 256 / 16 = n / 1048576 % 16 by omega, show n / 65536 % 256 % 16 = n / 65536 % 16 by omega,
    show n / 256 % 256 / 16 = n / 4096 % 16 by omega, show n / 256 % 256 % 16 = n / 256 % 16 by omega, show n / 1 % 256 / 16 = n / 16 % 16 by omega, show n / 1 % 256 % 16 = n / 1 % 16 by omega]
theorem sha_raw (s : List UInt8) : (rawOf s).flatMap hex2 = sha s := by
  unfold rawOf sha
  rw [List.flatMap_assoc]
  congr 1
  funext n
  exact hexW_of n
theorem hex2_len (l : List UInt8) : (l.flatMap hex2).length = 2 * l.length := by
  induction l with
  | nil => rfl
  | cons a r ih => rw [List.flatMap_cons, List.length_append, ih]; simp [hex2]; omega
theorem sha_len (s : List UInt8) : (sha s).length = 64 := by
  rw [← sha_raw, hex2_len, rawOf_len]
theorem Sum_ok (s : List UInt8) (hs : s.length ≤ 70368744177664) : Calc cx 35 [.str s] (.str (sha s)) :=
  pure_intro (fun a w => Tryz.call35 a w) Tryz.func35 rfl Tryz.ntmps35 rfl .str fun B => by
    refine ab 1000 rfl trivial ?_
    refine S_ghostF (t := 3) 1 ⟨false, none⟩ rfl rfl ⟨.skip, _, .inr ⟨_, _, _, rfl⟩⟩ ?_
    refine S_pure rfl rfl rfl (raw_ok s hs) (.cons (.refl .str) (.nil _)) ?_
    have hrl := rawOf_len s
    have hsr := sha_raw s
    generalize rawOf s = R at *
    refine ab 1000 rfl trivial ?_
    refine S_while (α := Nat × Nat) (fun (i, u) => [(3, .ms 0 u 0 (2 * i) 1 false), (7, .agg (R.map byteAV)), (8, .int .i64 i)]) (fun (i, u) => [(u, some (.cells (((R.take i).flatMap hex2).map byteAV) ⟨false, none⟩))]) (fun (i, u) => i ≤ 32) (fun (i, u) => 32 - i) (0, 0)
      (Nat.zero_le _) (.cons rfl (.cons rfl (.cons rfl (.nil _)))) rfl ?_
    rintro ⟨i, u⟩ hi
    have hfl : ((R.take i).flatMap hex2).length = 2 * i := by rw [hex2_len, List.length_take]; omega
    refine ab 1000 rfl trivial ?_
    refine S_dec rfl (fun hlt => ?_) (fun hlt => ?_)
    · have hil : i < 32 := by omega
      have hiR : i < R.length := by omega
      refine ab 1000 rfl trivial ?_
      refine S_elem (byteAV R[i]) rfl rfl rfl ⟨by omega, by omega, rfl, by rw [Int.toNat_natCast, List.getElem?_map, List.getElem?_eq_getElem hiR]; rfl, trivial⟩ ?_
      refine ab 1000 rfl trivial ?_
      have hc := R[i].toNat_lt
      have hs1 : ((R[i].toNat : Nat) : Int).fdiv (2 ^ (min (4 : Int).toNat IntKind.u8.bits)) = ((R[i].toNat / 16 : Nat) : Int) := shr_nat _ 4
      have hs2 : bitsA .and .u8 ((R[i].toNat : Nat) : Int) 15 = ((R[i].toNat % 16 : Nat) : Int) := by
        rw [show (15 : Int) = ((15 : Nat) : Int) from rfl, bits_and (k := .u8) rfl (by show _ < 256; omega) (by decide), Nat.and_two_pow_sub_one_eq_mod _ 4]
      refine S_draw 8 [] [] rfl rfl rfl rfl ⟨rfl, rfl, rfl, by decide, rfl, by rw [hs1]; omega, by rw [hs1]; show _ < (16 : Int); omega, rfl, rfl, rfl, by rw [hs2]; omega, by rw [hs2]; show _ < (16 : Int); omega, rfl, trivial⟩ ?_
      refine ab 1000 rfl ⟨?_, ?_, ?_, rfl, rfl, ?_, ?_, rfl, trivial⟩ ?_
      · show 2 * i + 2 ≤ 9223372036854775807; omega
      · show (2 * i + 2) * 1 ≤ 140737488355328; omega
      · show 0 + (2 * i) * 1 = (((R.take i).flatMap hex2).map byteAV).length
        rw [List.length_map, hfl]; omega
      · exact allOne_mem (cs := [.int .u8 _, .int .u8 _]) rfl
      · exact allOne_mem (cs := [.int .u8 _, .int .u8 _]) rfl
      refine S_round (i + 1, u + 1) (by show 32 - (i + 1) < 32 - i; omega) hil (.cons rfl (.cons rfl (.cons (ai64 rfl (by omega)) (.nil _)))) ?_
      show [(u + 1, some (Box.cells ((((R.take i).flatMap hex2).map byteAV) ++ [byteAV (hexC (((R[i].toNat : Nat) : Int).fdiv (2 ^ (min (4 : Int).toNat 8))).toNat), byteAV (hexC (bitsA .and .u8 ((R[i].toNat : Nat) : Int) 15).toNat)]) _))] = [(u + 1, some (Box.cells (((R.take (i + 1)).flatMap hex2).map byteAV) _))]
      rw [show ((R[i].toNat : Nat) : Int).fdiv (2 ^ (min (4 : Int).toNat 8)) = ((R[i].toNat / 16 : Nat) : Int) from hs1, hs2, Int.toNat_natCast, Int.toNat_natCast, List.take_succ_eq_append_getElem hiR]
      simp only [List.flatMap_append, List.flatMap_cons, List.flatMap_nil, List.append_nil, List.map_append, hex2, List.map_cons, List.map_nil]
      rfl
    · have hi32 : i = 32 := by omega
      subst hi32
      have hall : (R.take 32).flatMap hex2 = sha s := by rw [List.take_of_length_le (by omega), hsr]
      have htk : ((((R.take 32).flatMap hex2).map byteAV).drop 0).take (2 * 32) = (sha s).map byteAV := by
        rw [hall, List.drop_zero]; exact List.take_of_length_le (by rw [List.length_map, sha_len]; decide)
      refine ab 1000 rfl ⟨?_, ?_, rfl, rfl, trivial⟩ ?_
      · rw [htk]; exact bytes_isByte _
      · rw [hall, List.length_map, sha_len]; decide
      refine S_retc .str rfl trivial ?_
      show AV.str (((((R.take 32).flatMap hex2).map byteAV).drop 0).take (2 * 32) |>.map Go.Ab.byteOf) = _
      rw [htk, bytes_of]
theorem isDig_hex (s : List UInt8) : ∀ x ∈ sha s, hexB x = true := by
  intro x hx
  rw [← sha_raw] at hx
  obtain ⟨b, _, hb⟩ := List.mem_flatMap.1 hx
  have key : ∀ m, m < 16 → hexB (hexC m) = true := by
    intro m hm
    have : ∀ m : Fin 16, hexB (hexC m.1) = true := by decide +kernel
    exact this ⟨m, hm⟩
  have hbl := b.toNat_lt
  simp only [hex2, List.mem_cons, List.not_mem_nil, or_false] at hb
  rcases hb with rfl | rfl
  · exact key _ (by omega)
  · exact key _ (by omega)
theorem isDig_sha (s : List UInt8) : isDig (sha s) = true := by
  unfold isDig
  rw [List.all_eq_true.2 (isDig_hex s), sha_len]; rfl
end Go.Proofs.YtjkeekbfgnmngaaGreatDoor
end
