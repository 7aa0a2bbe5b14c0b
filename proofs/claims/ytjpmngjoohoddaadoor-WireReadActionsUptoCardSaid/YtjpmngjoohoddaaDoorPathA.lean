/-
  Go's library: a text cut at each letter of one kind (strings.Index, strings.Count, strings.Split at a separator of one letter).
-/
import Derived.Test.YtjpmngjoohoddaaDoorNameA
import Derived.Test.YtjpmngjoohoddaaDoorRefT
set_option linter.unusedVariables false
set_option linter.unusedSimpArgs false
set_option maxRecDepth 20000
namespace Go.Proofs.YtjpmngjoohoddaaDoor
open Go Go.Ab

/-- The parts between the letters c. -/
def splitB (c : UInt8) : List UInt8 → List (List UInt8)
  | [] => [[]]
  | x :: r => if x = c then [] :: splitB c r else match splitB c r with
    | [] => [[x]]
    | p :: ps => (x :: p) :: ps

theorem splitB_ne (c : UInt8) (l : List UInt8) : splitB c l ≠ [] := by
  cases l with
  | nil => simp [splitB]
  | cons x r =>
    rw [splitB]
    split
    · simp
    · split <;> simp

theorem split_none {c : UInt8} {l : List UInt8} (h : l.count c = 0) : splitB c l = [l] := by
  induction l with
  | nil => rfl
  | cons x r ih =>
    rw [List.count_cons] at h
    have hx : x ≠ c := by rintro rfl; simp at h
    rw [splitB, if_neg hx, ih (by omega)]

theorem split_at {c : UInt8} {l : List UInt8} (h : 0 < l.count c) : ∃ m : Nat, Lib.indexByte l c = m ∧ m < l.length ∧ splitB c l = l.take m :: splitB c (l.drop (m + 1)) ∧ l.count c = 1 + (l.drop (m + 1)).count c := by
  induction l with
  | nil => simp at h
  | cons x r ih =>
    by_cases hx : x = c
    · subst hx
      exact ⟨0, by simp [Lib.indexByte], by simp, by simp [splitB], by rw [List.count_cons]; simp [Nat.add_comm]⟩
    · have h' : 0 < r.count c := by rw [List.count_cons, if_neg (by simpa using hx)] at h; omega
      obtain ⟨m, h1, h2, h3, h4⟩ := ih h'
      refine ⟨m + 1, ?_, by simp; omega, ?_, ?_⟩
      · rw [Lib.indexByte, if_neg (by simpa using hx), if_neg (by rw [h1]; simp), h1]; rfl
      · rw [splitB, if_neg hx, h3]; rfl
      · rw [List.count_cons, if_neg (by simpa using hx), h4]; simp

theorem split_len (c : UInt8) (l : List UInt8) : (splitB c l).length = l.count c + 1 := by
  induction l with
  | nil => rfl
  | cons x r ih =>
    rw [splitB, List.count_cons]
    split
    · rename_i h; subst h; simp [ih]
    · rename_i h
      rw [if_neg (by simpa using h)]
      split
      · rename_i h2; exact absurd h2 (splitB_ne _ _)
      · rename_i h2; rw [h2] at ih; simpa using ih

theorem split_part {c : UInt8} {l : List UInt8} : ∀ p ∈ splitB c l, p.length ≤ l.length := by
  induction l with
  | nil => intro p hp; simp [splitB] at hp; subst hp; simp
  | cons x r ih =>
    intro p hp
    rw [splitB] at hp
    split at hp
    · rcases List.mem_cons.1 hp with rfl | hp
      · simp
      · have := ih p hp; simp; omega
    · split at hp
      · simp at hp; subst hp; simp
      · rename_i q qs hq
        rw [hq] at ih
        rcases List.mem_cons.1 hp with rfl | hp
        · have := ih q (List.mem_cons_self ..); simp; omega
        · have := ih p (List.mem_cons_of_mem _ hp); simp; omega

theorem set_at {α : Type} (a : List α) (x y : α) (b : List α) : (a ++ y :: b).set a.length x = a ++ x :: b := by
  induction a with
  | nil => rfl
  | cons z a ih => simp [ih]

theorem toU8_self (c : UInt8) : ((c.toNat : Nat) : Int).toNat.toUInt8 = c := by
  rw [Int.toNat_natCast]; simp

theorem cst' (s : List UInt8) (c : Int) (r : Rl) (w : World) (vs : Array Value) (h : VRels r w vs [.str s, .int .u8 c]) :
    ∃ v, (callFunc 66 vs).run cx.P w = .ok (.value v) w ∧ VRel r w v (.int .i64 (Lib.countByte s c.toNat.toUInt8 : Nat)) := by
  obtain ⟨hs, hv⟩ := h
  obtain ⟨x, y, rfl⟩ : ∃ x y, vs = #[x, y] := by
    rcases vs with ⟨l⟩
    match l, hs with
    | [x, y], _ => exact ⟨x, y, rfl⟩
  have h0 := hv 0 (by simp)
  have h1 := hv 1 (by simp)
  simp only [List.getElem_cons_zero, List.getElem_cons_succ] at h0 h1
  have h0 : VRel r w x (.str s) := h0
  have h1 : VRel r w y (.int .u8 c) := h1
  cases h0 with
  | str h => 
    subst h
    cases h1
    refine ⟨_, ?_, .int⟩
    show (callFunc 66 _).run Tryd.prog w = _
    rw [run_callFunc_extern Tryd.func66 rfl rfl rfl (e := Extern.BytealgCount.count) rfl, Lib.run_countString]
    rfl

theorem sIndex_ok (s : List UInt8) (c : UInt8) : Calc cx 67 [.str s, .str [c]] (.int .i64 (Lib.indexByte s c)) :=
  pure_intro (fun a w => Tryd.call67 a w) Tryd.func67 rfl Tryd.ntmps67 rfl .int fun B => by
    refine ab 1000 rfl trivial ?_
    refine S_guard rfl rfl rfl rfl (fun h => by cases h) (fun _ => ?_)
    refine ab 1000 rfl trivial ?_
    by_cases he : s = [c]
    · subst he
      refine S_cond (b := true) (by show AV.bool (([c] : List UInt8) == [c]) = _; simp) (fun _ => ?_) (fun h => by cases h)
      refine ab 1000 rfl trivial ?_
      refine S_retc .int rfl trivial ?_
      show AV.int .i64 0 = _
      simp [Lib.indexByte]
    refine S_cond (b := false) (by show AV.bool (([c] : List UInt8) == s) = _; rw [beq_eq_false_iff_ne.2 (fun h => he h.symm)]) (fun h => by cases h) (fun _ => ?_)
    refine ab 1000 rfl trivial ?_
    refine S_cond (b := true) rfl (fun _ => ?_) (fun h => by cases h)
    refine ab 1000 rfl ⟨Int.zero_lt_one, Int.le_refl _, trivial⟩ ?_
    refine S_pure rfl rfl rfl (indexByteS_ok s ((c.toNat : Nat) : Int)) (.cons (.refl .str) (.cons (.refl .int) (.nil _))) ?_
    rw [toU8_self]
    refine ab 1000 rfl trivial ?_
    exact S_retc .int rfl trivial rfl

theorem index_ok (s : List UInt8) (c : UInt8) : Calc cx 60 [.str s, .str [c]] (.int .i64 (Lib.indexByte s c)) :=
  pure_intro (fun a w => Tryd.call60 a w) Tryd.func60 rfl Tryd.ntmps60 rfl .int fun B => by
    refine ab 1000 rfl trivial ?_
    refine S_pure rfl rfl rfl (sIndex_ok s c) (.cons (.refl .str) (.cons (.refl .str) (.nil _))) ?_
    refine ab 1000 rfl trivial ?_
    exact S_retc .int rfl trivial rfl

theorem count_ok (s : List UInt8) (c : UInt8) : Calc cx 59 [.str s, .str [c]] (.int .i64 (s.count c : Nat)) :=
  pure_intro (fun a w => Tryd.call59 a w) Tryd.func59 rfl Tryd.ntmps59 rfl .int fun B => by
    refine ab 1000 rfl trivial ?_
    refine S_cond (b := false) rfl (fun h => by cases h) (fun _ => ?_)
    refine ab 1000 rfl trivial ?_
    refine S_cond (b := true) rfl (fun _ => ?_) (fun h => by cases h)
    refine ab 1000 rfl ⟨Int.zero_lt_one, Int.le_refl _, trivial⟩ ?_
    refine S_ext (cst' s ((c.toNat : Nat) : Int)) rfl rfl rfl ?_
    rw [toU8_self]
    refine ab 1000 rfl trivial ?_
    exact S_retc .int rfl trivial rfl

theorem genSplit_ok (s : List UInt8) (c : UInt8) (hs : s.length ≤ 1099511627776) : Calc cx 48 [.str s, .str [c], .int .i64 0, .int .i64 (-1)] (.sl true false 1 (texts (splitB c s))) :=
  pure_intro (fun a w => Tryd.call48 a w) Tryd.func48 rfl Tryd.ntmps48 rfl (.sl (fun _ => rfl) (texts_any _)) fun B => by
    have hcl : s.count c ≤ s.length := List.count_le_length
    refine ab 1000 rfl trivial ?_
    refine S_cond (b := false) rfl (fun h => by cases h) (fun _ => ?_)
    refine ab 1000 rfl trivial ?_
    refine S_cond (b := false) rfl (fun h => by cases h) (fun _ => ?_)
    refine ab 1000 rfl trivial ?_
    refine S_cond (b := true) rfl (fun _ => ?_) (fun h => by cases h)
    refine ab 1000 rfl trivial ?_
    refine S_pure rfl rfl rfl (count_ok s c) (.cons (.refl .str) (.cons (.refl .str) (.nil _))) ?_
    have hw1 : IntKind.i64.wrap ((s.count c : Nat) + 1 : Int) = ((s.count c + 1 : Nat) : Int) := w64 (by omega) (by omega)
    have hw2 : IntKind.i64.wrap ((s.length : Nat) + 1 : Int) = ((s.length + 1 : Nat) : Int) := w64 (by omega) (by omega)
    have hmin : min (IntKind.i64.wrap ((s.count c : Nat) + 1 : Int)) (IntKind.i64.wrap ((s.length : Nat) + 1 : Int)) = ((s.count c + 1 : Nat) : Int) := by rw [hw1, hw2]; omega
    refine ab 1000 rfl ⟨?_, ?_, ?_, ?_, trivial⟩ ?_
    · rw [hmin]; omega
    · show (16 : Nat) * _ ≤ (281474976710656 : Int)
      rw [hmin]; omega
    · omega
    · rw [hmin]; omega
    have hw3 : IntKind.i64.wrap (((s.count c + 1 : Nat) : Int) - 1) = ((s.count c : Nat) : Int) := w64 (by omega) (by omega)
    refine S_while (α := Nat × List (List UInt8) × List UInt8) (fun (i, done, r) => [(0, .str r), (1, .str [c]), (2, .int .i64 0), (3, .int .i64 (s.count c : Nat)), (9, .ms 0 0 0 (s.count c + 1) 1 false), (10, .int .i64 (i : Nat))])
      (fun (i, done, r) => [(0, some (.cells (texts done ++ List.replicate (s.count c + 1 - i) (.str [])) ⟨false, none⟩))])
      (fun (i, done, r) => done.length = i ∧ i + r.count c = s.count c ∧ r.length ≤ s.length ∧ done ++ splitB c r = splitB c s) (fun (i, done, r) => s.count c - i) (0, [], s)
      ⟨rfl, by omega, Nat.le_refl _, rfl⟩ (.cons rfl (.cons rfl (.cons rfl (.cons ?_ (.cons ?_ (.cons rfl (.nil _))))))) ?_ ?_
    · show AV.int .i64 (IntKind.i64.wrap (min (IntKind.i64.wrap ((s.count c : Nat) + 1 : Int)) (IntKind.i64.wrap ((s.length : Nat) + 1 : Int)) - 1)) = _
      rw [hmin, hw3]
    · show AV.ms 0 0 0 (min (IntKind.i64.wrap ((s.count c : Nat) + 1 : Int)) (IntKind.i64.wrap ((s.length : Nat) + 1 : Int))).toNat 1 false = _
      rw [hmin, Int.toNat_natCast]
    · show [(0, some (Box.cells (List.replicate (min (IntKind.i64.wrap ((s.count c : Nat) + 1 : Int)) (IntKind.i64.wrap ((s.length : Nat) + 1 : Int))).toNat (AV.str [])) ⟨false, none⟩))] = _
      rw [hmin, Int.toNat_natCast]; rfl
    rintro ⟨i, done, r⟩ ⟨h1, h2, h3, h4⟩
    have hdl : (texts done).length = i := by simp [texts, h1]
    have fin : ∀ k, k < s.count c + 1 → List.replicate (s.count c + 1 - k) (AV.str []) = .str [] :: List.replicate (s.count c + 1 - (k + 1)) (.str []) := fun k hk => by
      rw [show s.count c + 1 - k = (s.count c + 1 - (k + 1)) + 1 by omega, List.replicate_succ]
    have put : ∀ (x : List UInt8), i < s.count c + 1 → setRange (texts done ++ List.replicate (s.count c + 1 - i) (AV.str [])) i [.str x] = texts (done ++ [x]) ++ List.replicate (s.count c + 1 - (i + 1)) (.str []) := fun x hk => by
      rw [fin i hk]
      have := set_at (texts done) (AV.str x) (.str []) (List.replicate (s.count c + 1 - (i + 1)) (.str []))
      rw [hdl] at this
      show List.set _ i _ = _
      rw [this]; simp [texts]
    refine ab 1000 rfl trivial ?_
    refine S_dec rfl (fun hlt => ?_) (fun hlt => ?_)
    · have hlt : i < s.count c := by omega
      obtain ⟨m, m1, m2, m3, m4⟩ := split_at (c := c) (l := r) (by omega)
      refine ab 1000 rfl trivial ?_
      refine S_pure rfl rfl rfl (index_ok r c) (.cons (.refl .str) (.cons (.refl .str) (.nil _))) ?_
      rw [m1]
      refine ab 1000 rfl trivial ?_
      refine S_dec rfl (fun h => absurd h (by omega)) (fun _ => ?_)
      have hw4 : IntKind.i64.wrap ((m : Int) + 0) = (m : Int) := w64 (by omega) (by omega)
      have hw5 : IntKind.i64.wrap ((m : Int) + 1) = ((m + 1 : Nat) : Int) := w64 (by omega) (by omega)
      refine ab 1000 rfl ⟨by rw [hw4]; omega, by rw [hw4]; omega, trivial⟩ ?_
      refine S_index .top rfl rfl rfl ⟨rfl, by omega, by omega, trivial⟩ ?_
      refine S_store rfl rfl rfl ⟨rfl, rfl, rfl, ?_, trivial⟩ ?_
      · show offN 0 (mulN ((i : Nat) : Int).toNat 1) + 1 ≤ (texts done ++ List.replicate (s.count c + 1 - i) (AV.str [])).length
        rw [offN_eq, mulN_eq, Int.toNat_natCast, List.length_append, hdl, List.length_replicate]; omega
      refine ab 1000 rfl ⟨by show IntKind.i64.wrap ((m : Int) + 1) ≤ _; rw [hw5]; omega, by show 0 ≤ IntKind.i64.wrap ((m : Int) + 1); rw [hw5]; omega, trivial⟩ ?_
      refine S_round (i + 1, done ++ [r.take m], r.drop (m + 1)) (by show s.count c - (i + 1) < s.count c - i; omega) ⟨by simp [h1], by omega, by rw [List.length_drop]; omega, by rw [← h4, m3]; simp⟩
        (.cons ?_ (.cons rfl (.cons rfl (.cons rfl (.cons rfl (.cons (ai64 (by omega) (by omega)) (.nil _))))))) ?_
      · show AV.str (r.drop (IntKind.i64.wrap ((m : Int) + 1)).toNat) = _
        rw [hw5, Int.toNat_natCast]
      · show [(0, some (Box.cells (setRange (texts done ++ List.replicate (s.count c + 1 - i) (AV.str [])) (offN 0 (mulN ((i : Nat) : Int).toNat 1)) [.str (r.take (IntKind.i64.wrap ((m : Int) + 0)).toNat)]) ⟨false, none⟩))] = _
        rw [offN_eq, mulN_eq, Int.toNat_natCast, hw4, Int.toNat_natCast, Nat.zero_add, Nat.mul_one, put _ (by omega)]
    · have hlt : i = s.count c := by omega
      have h0 : r.count c = 0 := by omega
      rw [split_none h0] at h4
      refine ab 1000 rfl trivial ?_
      refine S_index .top rfl rfl rfl ⟨rfl, by omega, by omega, trivial⟩ ?_
      refine S_store rfl rfl rfl ⟨rfl, rfl, rfl, ?_, trivial⟩ ?_
      · show offN 0 (mulN ((i : Nat) : Int).toNat 1) + 1 ≤ (texts done ++ List.replicate (s.count c + 1 - i) (AV.str [])).length
        rw [offN_eq, mulN_eq, Int.toNat_natCast, List.length_append, hdl, List.length_replicate]; omega
      have hw6 : IntKind.i64.wrap ((i : Int) + 1) = ((i + 1 : Nat) : Int) := w64 (by omega) (by omega)
      refine ab 1000 rfl ⟨rfl, by rw [hw6]; omega, by rw [hw6]; omega, trivial⟩ ?_
      refine S_ret ⟨_, _, rfl, trivial, _, rfl, ?_⟩
      show Frz true [(0, some (Box.cells (setRange (texts done ++ List.replicate (s.count c + 1 - i) (AV.str [])) (offN 0 (mulN ((i : Nat) : Int).toNat 1)) [.str r]) ⟨false, none⟩))] (.ms 0 0 0 (IntKind.i64.wrap ((i : Int) + 1)).toNat 1 false) _
      rw [offN_eq, mulN_eq, Int.toNat_natCast, Nat.zero_add, Nat.mul_one, put _ (by omega), hw6, Int.toNat_natCast, ← h4]
      have hz : s.count c + 1 - (i + 1) = 0 := by omega
      rw [hz, List.replicate_zero, List.append_nil]
      exact .ms1 rfl (texts_one _) (by simp [texts, h1]) (texts_any _)

theorem Split_ok (s : List UInt8) (c : UInt8) (hs : s.length ≤ 1099511627776) : Calc cx 20 [.str s, .str [c]] (.sl true false 1 (texts (splitB c s))) :=
  pure_intro (fun a w => Tryd.call20 a w) Tryd.func20 rfl Tryd.ntmps20 rfl (.sl (fun _ => rfl) (texts_any _)) fun B => by
    refine ab 1000 rfl trivial ?_
    refine S_pure rfl rfl rfl (genSplit_ok s c hs) (.cons (.refl .str) (.cons (.refl .str) (.cons (.refl .int) (.cons (.refl .int) (.nil _))))) ?_
    refine ab 1000 rfl trivial ?_
    exact S_retc (.sl (fun _ => rfl) (texts_any _)) rfl trivial rfl

end Go.Proofs.YtjpmngjoohoddaaDoor
