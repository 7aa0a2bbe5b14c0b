/-
  Texts of our own, in one file.
-/
import Derived.Test.YtjkeekbfgnmngaaGreatDoorGrpB
import Derived.WideShapes
section
set_option linter.unusedVariables false
set_option linter.unusedSimpArgs false
set_option maxRecDepth 20000
namespace Go.Proofs.YtjkeekbfgnmngaaGreatDoor
open Go Go.Ab
def splitB (c : UInt8) : List UInt8 → List (List UInt8)
  | [] => [[]]
  | x :: r => if x = c then [] :: splitB c r else match splitB c r with
    | [] => [[x]]
    | p :: ps => (x :: p) :: ps
theorem splitB_ne (c : UInt8) (l : List UInt8) : splitB c l ≠ [] := by
  cases l with
  | nil => simp [splitB]
  | cons x r =>
    rw [splitB]
    split
    · simp
    · split <;> simp
theorem split_none {c : UInt8} {l : List UInt8} (h : l.count c = 0) : splitB c l = [l] := by
  induction l with
  | nil => rfl
  | cons x r ih =>
    rw [List.count_cons] at h
    have hx : x ≠ c := by rintro rfl; simp at h
    rw [splitB, if_neg hx, ih (by omega)]
theorem split_at {c : UInt8} {l : List UInt8} (h : 0 < l.count c) : ∃ m : Nat, Lib.indexByte l c = m ∧ m < l.length ∧ splitB c l = l.take m :: splitB c (l.drop (m + 1)) ∧ l.count c = 1 + (l.drop (m + 1)).count c := by
  induction l with
  | nil => simp at h
  | cons x r ih =>
    by_cases hx : x = c
    · subst hx
      exact ⟨0, by simp [Lib.indexByte], by simp, by simp [splitB], by rw [List.count_cons]; simp [Nat.add_comm]⟩
    · have h' : 0 < r.count c := by rw [List.count_cons, if_neg (by simpa using hx)] at h; omega
      obtain ⟨m, h1, h2, h3, h4⟩ := ih h'
      refine ⟨m + 1, ?_, by simp; omega, ?_, ?_⟩
      · rw [Lib.indexByte, if_neg (by simpa using hx), if_neg (by rw [h1]; simp), h1]; rfl
      · rw [splitB, if_neg hx, h3]; rfl
      · rw [List.count_cons, if_neg (by simpa using hx), h4]; simp
theorem split_len (c : UInt8) (l : List UInt8) : (splitB c l).length = l.count c + 1 := by
  induction l with
  | nil => rfl
  | cons x r ih =>
    rw [splitB, List.count_cons]
    split
    · rename_i h; subst h; simp [ih]
    · rename_i h
      rw [if_neg (by simpa using h)]
      split
      · rename_i h2; exact absurd h2 (splitB_ne _ _)
      · rename_i h2; rw [h2] at ih; simpa using ih
theorem split_part {c : UInt8} {l : List UInt8} : ∀ p ∈ splitB c l, p.length ≤ l.length := by
  induction l with
  | nil => intro p hp; simp [splitB] at hp; subst hp; simp
  | cons x r ih =>
    intro p hp
    rw [splitB] at hp
    split at hp
    · rcases List.mem_cons.1 hp with rfl | hp
      · simp
      · have := ih p hp; simp; omega
    · split at hp
      · simp at hp; subst hp; simp
      · rename_i q qs hq
        rw [hq] at ih
        rcases List.mem_cons.1 hp with rfl | hp
        · have := ih q (List.mem_cons_self ..); simp; omega
        · have := ih p (List.mem_cons_of_mem _ hp); simp; omega
theorem set_at {α : Type} (a : List α) (x y : α) (b : List α) : (a ++ y :: b).set a.length x = a ++ x :: b := by
  induction a with
  | nil => rfl
  | cons z a ih => simp [ih]
theorem toU8_self (c : UInt8) : (c.toNat : Int).toNat.toUInt8 = c := by
  rw [Int.toNat_natCast]; simp
theorem cst' (s : List UInt8) (c : Int) (r : Rl) (w : World) (vs : Array Value) (h : VRels r w vs [.str s, .int .u8 c]) :
    ∃ v, (callFunc 168 vs).run cx.P w = .ok (.value v) w ∧ VRel r w v (.int .i64 (Lib.countByte s c.toNat.toUInt8 : Nat)) := by
  obtain ⟨hs, hv⟩ := h
  obtain ⟨x, y, rfl⟩ : ∃ x y, vs = #[x, y] := by
    rcases vs with ⟨l⟩
    match l, hs with
    | [x, y], _ => exact ⟨x, y, rfl⟩
  have h0 := hv 0 (by simp)
  have h1 := hv 1 (by simp)
  simp only [List.getElem_cons_zero, List.getElem_cons_succ] at h0 h1
  have h0 : VRel r w x (.str s) := h0
  have h1 : VRel r w y (.int .u8 c) := h1
  cases h0 with
  | str h =>
    subst h
    cases h1
    refine ⟨_, ?_, .int⟩
    show (callFunc 168 _).run Tryz.prog w = _
    rw [run_callFunc_extern Tryz.func168 rfl rfl rfl (e := Extern.BytealgCount.count) rfl, Lib.run_countString]
    rfl
theorem sIndex_ok (s : List UInt8) (c : UInt8) : Calc cx 152 [.str s, .str [c]] (.int .i64 (Lib.indexByte s c)) :=
  pure_intro (fun a w => Tryz.call152 a w) Tryz.func152 rfl Tryz.ntmps152 rfl .int fun B => by
    refine ab 1000 rfl trivial ?_
    refine S_guard rfl rfl rfl rfl (fun h => by cases h) (fun _ => ?_)
    refine ab 1000 rfl trivial ?_
    by_cases he : s = [c]
    · subst he
      refine S_cond (b := true) (by show AV.bool (([c] : List UInt8) == [c]) = _; simp) (fun _ => ?_) (fun h => by cases h)
      refine ab 1000 rfl trivial ?_
      refine S_retc .int rfl trivial ?_
      show AV.int .i64 0 = _
      simp [Lib.indexByte]
    refine S_cond (b := false) (by show AV.bool (([c] : List UInt8) == s) = _; rw [beq_eq_false_iff_ne.2 (fun h => he h.symm)]) (fun h => by cases h) (fun _ => ?_)
    refine ab 1000 rfl trivial ?_
    refine S_cond (b := true) rfl (fun _ => ?_) (fun h => by cases h)
    refine ab 1000 rfl ⟨Int.zero_lt_one, Int.le_refl _, trivial⟩ ?_
    refine S_pure rfl rfl rfl (indexByteS_ok s (c.toNat : Int)) (.cons (.refl .str) (.cons (.refl .int) (.nil _))) ?_
    rw [toU8_self]
    refine ab 1000 rfl trivial ?_
    exact S_retc .int rfl trivial rfl
theorem index_ok (s : List UInt8) (c : UInt8) : Calc cx 148 [.str s, .str [c]] (.int .i64 (Lib.indexByte s c)) :=
  pure_intro (fun a w => Tryz.call148 a w) Tryz.func148 rfl Tryz.ntmps148 rfl .int fun B => by
    refine ab 1000 rfl trivial ?_
    refine S_pure rfl rfl rfl (sIndex_ok s c) (.cons (.refl .str) (.cons (.refl .str) (.nil _))) ?_
    refine ab 1000 rfl trivial ?_
    exact S_retc .int rfl trivial rfl
theorem count_ok (s : List UInt8) (c : UInt8) : Calc cx 147 [.str s, .str [c]] (.int .i64 (s.count c : Nat)) :=
  pure_intro (fun a w => Tryz.call147 a w) Tryz.func147 rfl Tryz.ntmps147 rfl .int fun B => by
    refine ab 1000 rfl trivial ?_
    refine S_cond (b := false) rfl (fun h => by cases h) (fun _ => ?_)
    refine ab 1000 rfl trivial ?_
    refine S_cond (b := true) rfl (fun _ => ?_) (fun h => by cases h)
    refine ab 1000 rfl ⟨Int.zero_lt_one, Int.le_refl _, trivial⟩ ?_
    refine S_ext (cst' s (c.toNat : Int)) rfl rfl rfl ?_
    rw [toU8_self]
    refine ab 1000 rfl trivial ?_
    exact S_retc .int rfl trivial rfl
theorem genSplit_ok (s : List UInt8) (c : UInt8) (hs : s.length ≤ 1099511627776) : Calc cx 104 [.str s, .str [c], .int .i64 0, .int .i64 (-1)] (.sl true false 1 (texts (splitB c s))) :=
  pure_intro (fun a w => Tryz.call104 a w) Tryz.func104 rfl Tryz.ntmps104 rfl (.sl (fun _ => rfl) (texts_any _)) fun B => by
    have hcl : s.count c ≤ s.length := List.count_le_length
    refine ab 1000 rfl trivial ?_
    refine S_cond (b := false) rfl (fun h => by cases h) (fun _ => ?_)
    refine ab 1000 rfl trivial ?_
    refine S_cond (b := false) rfl (fun h => by cases h) (fun _ => ?_)
    refine ab 1000 rfl trivial ?_
    refine S_cond (b := true) rfl (fun _ => ?_) (fun h => by cases h)
    refine ab 1000 rfl trivial ?_
    refine S_pure rfl rfl rfl (count_ok s c) (.cons (.refl .str) (.cons (.refl .str) (.nil _))) ?_
    have hw1 : IntKind.i64.wrap ((s.count c : Nat) + 1 : Int) = ((s.count c + 1 : Nat) : Int) := w64 (by omega) (by omega)
    have hw2 : IntKind.i64.wrap ((s.length : Nat) + 1 : Int) = ((s.length + 1 : Nat) : Int) := w64 (by omega) (by omega)
    have hmin : min (IntKind.i64.wrap ((s.count c : Nat) + 1 : Int)) (IntKind.i64.wrap ((s.length : Nat) + 1 : Int)) = ((s.count c + 1 : Nat) : Int) := by rw [hw1, hw2]; omega
    refine ab 1000 rfl ⟨?_, ?_, ?_, ?_, trivial⟩ ?_
    · rw [hmin]; omega
    · show (16 : Nat) * _ ≤ (281474976710656 : Int)
      rw [hmin]; omega
    · omega
    · rw [hmin]; omega
    have hw3 : IntKind.i64.wrap (((s.count c + 1 : Nat) : Int) - 1) = ((s.count c : Nat) : Int) := w64 (by omega) (by omega)
    refine S_while (α := Nat × List (List UInt8) × List UInt8) (fun (i, done, r) => [(0, .str r), (1, .str [c]), (2, .int .i64 0), (3, .int .i64 (s.count c : Nat)), (9, .ms 0 0 0 (s.count c + 1) 1 false), (10, .int .i64 (i : Nat))])
      (fun (i, done, r) => [(0, some (.cells (texts done ++ List.replicate (s.count c + 1 - i) (.str [])) ⟨false, none⟩))])
      (fun (i, done, r) => done.length = i ∧ i + r.count c = s.count c ∧ r.length ≤ s.length ∧ done ++ splitB c r = splitB c s) (fun (i, done, r) => s.count c - i) (0, [], s)
      ⟨rfl, by omega, Nat.le_refl _, rfl⟩ (.cons rfl (.cons rfl (.cons rfl (.cons ?_ (.cons ?_ (.cons rfl (.nil _))))))) ?_ ?_
    · show AV.int .i64 (IntKind.i64.wrap (min (IntKind.i64.wrap ((s.count c : Nat) + 1 : Int)) (IntKind.i64.wrap ((s.length : Nat) + 1 : Int)) - 1)) = _
      rw [hmin, hw3]
    · show AV.ms 0 0 0 (min (IntKind.i64.wrap ((s.count c : Nat) + 1 : Int)) (IntKind.i64.wrap ((s.length : Nat) + 1 : Int))).toNat 1 false = _
      rw [hmin, Int.toNat_natCast]
    · show [(0, some (Box.cells (List.replicate (min (IntKind.i64.wrap ((s.count c : Nat) + 1 : Int)) (IntKind.i64.wrap ((s.length : Nat) + 1 : Int))).toNat (AV.str [])) ⟨false, none⟩))] = _
      rw [hmin, Int.toNat_natCast]; rfl
    rintro ⟨i, done, r⟩ ⟨h1, h2, h3, h4⟩
    have hdl : (texts done).length = i := by simp [texts, h1]
    have fin : ∀ k, k < s.count c + 1 → List.replicate (s.count c + 1 - k) (AV.str []) = .str [] :: List.replicate (s.count c + 1 - (k + 1)) (.str []) := fun k hk => by
      rw [show s.count c + 1 - k = (s.count c + 1 - (k + 1)) + 1 by omega, List.replicate_succ]
    have put : ∀ (x : List UInt8), i < s.count c + 1 → setRange (texts done ++ List.replicate (s.count c + 1 - i) (AV.str [])) i [.str x] = texts (done ++ [x]) ++ List.replicate (s.count c + 1 - (i + 1)) (.str []) := fun x hk => by
      rw [fin i hk]
      have := set_at (texts done) (AV.str x) (.str []) (List.replicate (s.count c + 1 - (i + 1)) (.str []))
      rw [hdl] at this
      show List.set _ i _ = _
      rw [this]; simp [texts]
    refine ab 1000 rfl trivial ?_
    refine S_dec rfl (fun hlt => ?_) (fun hlt => ?_)
    · have hlt : i < s.count c := by omega
      obtain ⟨m, m1, m2, m3, m4⟩ := split_at (c := c) (l := r) (by omega)
      refine ab 1000 rfl trivial ?_
      refine S_pure rfl rfl rfl (index_ok r c) (.cons (.refl .str) (.cons (.refl .str) (.nil _))) ?_
      rw [m1]
      refine ab 1000 rfl trivial ?_
      refine S_dec rfl (fun h => absurd h (by omega)) (fun _ => ?_)
      have hw4 : IntKind.i64.wrap ((m : Int) + 0) = (m : Int) := w64 (by omega) (by omega)
      have hw5 : IntKind.i64.wrap ((m : Int) + 1) = ((m + 1 : Nat) : Int) := w64 (by omega) (by omega)
      refine ab 1000 rfl ⟨by rw [hw4]; omega, by rw [hw4]; omega, trivial⟩ ?_
      refine S_index .top rfl rfl rfl ⟨rfl, by omega, by omega, trivial⟩ ?_
      refine S_store rfl rfl rfl ⟨rfl, rfl, rfl, ?_, trivial⟩ ?_
      · show offN 0 (mulN (i : Int).toNat 1) + 1 ≤ (texts done ++ List.replicate (s.count c + 1 - i) (AV.str [])).length
        rw [offN_eq, mulN_eq, Int.toNat_natCast, List.length_append, hdl, List.length_replicate]; omega
      refine ab 1000 rfl ⟨by show IntKind.i64.wrap ((m : Int) + 1) ≤ _; rw [hw5]; omega, by show 0 ≤ IntKind.i64.wrap ((m : Int) + 1); rw [hw5]; omega, trivial⟩ ?_
      refine S_round (i + 1, done ++ [r.take m], r.drop (m + 1)) (by show s.count c - (i + 1) < s.count c - i; omega) ⟨by simp [h1], by omega, by rw [List.length_drop]; omega, by rw [← h4, m3]; simp⟩
        (.cons ?_ (.cons rfl (.cons rfl (.cons rfl (.cons rfl (.cons (ai64 (by omega) (by omega)) (.nil _))))))) ?_
      · show AV.str (r.drop (IntKind.i64.wrap ((m : Int) + 1)).toNat) = _
        rw [hw5, Int.toNat_natCast]
      · show [(0, some (Box.cells (setRange (texts done ++ List.replicate (s.count c + 1 - i) (AV.str [])) (offN 0 (mulN (i : Int).toNat 1)) [.str (r.take (IntKind.i64.wrap ((m : Int) + 0)).toNat)]) ⟨false, none⟩))] = _
        rw [offN_eq, mulN_eq, Int.toNat_natCast, hw4, Int.toNat_natCast, Nat.zero_add, Nat.mul_one, put _ (by omega)]
    · have hlt : i = s.count c := by omega
      have h0 : r.count c = 0 := by omega
      rw [split_none h0] at h4
      refine ab 1000 rfl trivial ?_
      refine S_index .top rfl rfl rfl ⟨rfl, by omega, by omega, trivial⟩ ?_
      refine S_store rfl rfl rfl ⟨rfl, rfl, rfl, ?_, trivial⟩ ?_
      · show offN 0 (mulN (i : Int).toNat 1) + 1 ≤ (texts done ++ List.replicate (s.count c + 1 - i) (AV.str [])).length
        rw [offN_eq, mulN_eq, Int.toNat_natCast, List.length_append, hdl, List.length_replicate]; omega
      have hw6 : IntKind.i64.wrap ((i : Int) + 1) = ((i + 1 : Nat) : Int) := w64 (by omega) (by omega)
      refine ab 1000 rfl ⟨rfl, by rw [hw6]; omega, by rw [hw6]; omega, trivial⟩ ?_
      refine S_ret ⟨_, _, rfl, trivial, _, rfl, ?_⟩
      show Frz true [(0, some (Box.cells (setRange (texts done ++ List.replicate (s.count c + 1 - i) (AV.str [])) (offN 0 (mulN (i : Int).toNat 1)) [.str r]) ⟨false, none⟩))] (.ms 0 0 0 (IntKind.i64.wrap ((i : Int) + 1)).toNat 1 false) _
      rw [offN_eq, mulN_eq, Int.toNat_natCast, Nat.zero_add, Nat.mul_one, put _ (by omega), hw6, Int.toNat_natCast, ← h4]
      have hz : s.count c + 1 - (i + 1) = 0 := by omega
      rw [hz, List.replicate_zero, List.append_nil]
      exact .ms1 rfl (texts_one _) (by simp [texts, h1]) (texts_any _)
theorem Split_ok (s : List UInt8) (c : UInt8) (hs : s.length ≤ 1099511627776) : Calc cx 73 [.str s, .str [c]] (.sl true false 1 (texts (splitB c s))) :=
  pure_intro (fun a w => Tryz.call73 a w) Tryz.func73 rfl Tryz.ntmps73 rfl (.sl (fun _ => rfl) (texts_any _)) fun B => by
    refine ab 1000 rfl trivial ?_
    refine S_pure rfl rfl rfl (genSplit_ok s c hs) (.cons (.refl .str) (.cons (.refl .str) (.cons (.refl .int) (.cons (.refl .int) (.nil _))))) ?_
    refine ab 1000 rfl trivial ?_
    exact S_retc (.sl (fun _ => rfl) (texts_any _)) rfl trivial rfl
end Go.Proofs.YtjkeekbfgnmngaaGreatDoor
end
section
set_option linter.unusedVariables false
set_option linter.unusedSimpArgs false
set_option maxRecDepth 20000
namespace Go.Proofs.YtjkeekbfgnmngaaGreatDoor
open Go Go.Ab
def nameP (c : Nat) : Prop := (97 ≤ c ∧ c ≤ 122) ∨ (48 ≤ c ∧ c ≤ 57) ∨ c = 95 ∨ c = 45 ∨ c = 46
instance (c : Nat) : Decidable (nameP c) := by unfold nameP; infer_instance
def nameB (c : UInt8) : Bool := decide (nameP c.toNat)
def isName (s : List UInt8) : Bool := s.all nameB && (decide (1 ≤ s.length) && (decide (s.length ≤ 20) && (s != [46] && s != [46, 46])))
theorem takeN {p : UInt8 → Bool} {s : List UInt8} {i : Nat} (h : i < s.length) (ha : (s.take i).all p = true) (hp : p s[i] = true) : (s.take (i + 1)).all p = true := by
  rw [List.take_succ_eq_append_getElem h, List.all_append, ha]
  simp [hp]
theorem notName {s : List UInt8} {i : Nat} (h : i < s.length) (hp : ¬ nameP s[i].toNat) : isName s = false := by
  have : s.all nameB = false := by
    rw [List.all_eq_false]
    exact ⟨s[i], List.getElem_mem h, by simp [nameB, hp]⟩
  rw [isName, this]; rfl
theorem mark_iff {r : Int} : 0 ≤ markAt r ↔ r = 95 ∨ r = 45 ∨ r = 46 := by
  unfold markAt
  split
  · exact ⟨fun _ => .inl (by assumption), fun _ => by decide⟩
  · split
    · exact ⟨fun _ => .inr (.inl (by assumption)), fun _ => by decide⟩
    · split
      · exact ⟨fun _ => .inr (.inr (by assumption)), fun _ => by decide⟩
      · exact ⟨fun h => absurd h (by decide), fun h => by omega⟩
theorem isName_ok (s : List UInt8) (hs : s.length ≤ 9223372036854775807) : Calc cx 74 [.str s] (.bool (isName s)) :=
  pure_intro (fun a w => Tryz.call74 a w) Tryz.func74 rfl Tryz.ntmps74 rfl .bool fun B => by
    refine ab 1000 rfl trivial ?_
    refine S_while (α := Nat) (fun i => [(0, .str s), (6, .ptr 0 0 0)]) (fun i => [(0, some (.siter s i))]) (fun i => i ≤ s.length ∧ (s.take i).all nameB = true) (fun i => s.length - i) 0
      ⟨Nat.zero_le _, rfl⟩ (.cons rfl (.cons rfl (.nil _))) rfl ?_
    rintro i ⟨hi, hN⟩
    refine ab 1000 rfl trivial ?_
    refine S_next rfl rfl rfl rfl rfl (fun hil => ?_) (fun hge => ?_)
    · refine ab 1000 rfl trivial ?_
      refine S_cond rfl (fun _ => ?_) (fun h => by cases h)
      refine ab 1000 rfl trivial ?_
      obtain ⟨r, wd, hrw, hhex, hwd⟩ : ∃ (r wd : Nat), decL s i = (r, wd) ∧ (nameP s[i].toNat ↔ (97 ≤ r ∧ r ≤ 122) ∨ (48 ≤ r ∧ r ≤ 57) ∨ 0 ≤ markAt r) ∧ (nameP s[i].toNat → wd = 1) := by
        by_cases hc : s[i].toNat < 128
        · exact ⟨_, _, decL_lt hil hc, by rw [mark_iff]; unfold nameP; omega, fun _ => rfl⟩
        · have h1 := decL_ge hil (by omega)
          have h2 : ¬ nameP s[i].toNat := by unfold nameP; omega
          obtain ⟨q1, q2, hq⟩ : ∃ a b, decL s i = (a, b) := ⟨_, _, rfl⟩
          rw [hq] at h1
          have h1 : 128 ≤ q1 := h1
          exact ⟨q1, q2, hq, ⟨fun h => absurd h h2, fun h => by rw [mark_iff] at h; omega⟩, fun h => absurd h h2⟩
      rw [hrw]
      refine S_split 3 (fun fr σ => Weak fr [(0, .str s), (6, .ptr 0 0 0), (4, .int .i32 (r : Nat)), (15, .bool (decide (¬ (97 ≤ r ∧ r ≤ 122))))] ∧ σ = [(0, some (.siter s (i + wd)))]) ?_ ?_
      · refine S_guard rfl rfl rfl rfl (fun h => ?_) (fun h => ?_)
        · have h : (r : Int) < 97 := of_decide_eq_true h
          refine ab 1000 rfl trivial ?_
          exact S_inv ⟨.cons rfl (.cons rfl (.cons rfl (.cons (by show AV.bool true = _; rw [decide_eq_true (by omega)]) (.nil _)))), rfl⟩
        · have h : ¬ (r : Int) < 97 := of_decide_eq_false h
          refine ab 1000 rfl trivial ?_
          exact S_inv ⟨.cons rfl (.cons rfl (.cons rfl (.cons (by show AV.bool (decide ((122 : Int) < r)) = _; exact congrArg AV.bool (decide_eq_decide.2 (by omega))) (.nil _)))), rfl⟩
      rintro fr σ ⟨hw, rfl⟩
      refine S_opsW hw ?_
      refine ab 1000 rfl trivial ?_
      refine S_split 7 (fun fr σ => Weak fr [(0, .str s), (6, .ptr 0 0 0), (4, .int .i32 (r : Nat)), (23, .bool (decide (¬ (97 ≤ r ∧ r ≤ 122) ∧ ¬ (48 ≤ r ∧ r ≤ 57))))] ∧ σ = [(0, some (.siter s (i + wd)))]) ?_ ?_
      · refine S_guard rfl rfl rfl rfl (fun h => ?_) (fun h => ?_)
        · have h : ¬ (97 ≤ r ∧ r ≤ 122) := of_decide_eq_true h
          refine ab 1000 rfl trivial ?_
          refine S_guard rfl rfl rfl rfl (fun h2 => ?_) (fun h2 => ?_)
          · have h2 : (r : Int) < 48 := of_decide_eq_true h2
            refine ab 1000 rfl trivial ?_
            exact S_inv ⟨.cons rfl (.cons rfl (.cons rfl (.cons (by show AV.bool true = _; rw [decide_eq_true (by omega)]) (.nil _)))), rfl⟩
          · have h2 : ¬ (r : Int) < 48 := of_decide_eq_false h2
            refine ab 1000 rfl trivial ?_
            exact S_inv ⟨.cons rfl (.cons rfl (.cons rfl (.cons (by show AV.bool (decide ((57 : Int) < r)) = _; exact congrArg AV.bool (decide_eq_decide.2 (by omega))) (.nil _)))), rfl⟩
        · have h : ¬ ¬ (97 ≤ r ∧ r ≤ 122) := of_decide_eq_false h
          refine ab 1000 rfl trivial ?_
          exact S_inv ⟨.cons rfl (.cons rfl (.cons rfl (.cons (by show AV.bool false = _; rw [decide_eq_false (by omega)]) (.nil _)))), rfl⟩
      rintro fr σ ⟨hw, rfl⟩
      refine S_opsW hw ?_
      refine ab 1000 rfl trivial ?_
      have no : ¬ nameP s[i].toNat → AV.bool false = .bool (isName s) := fun h => by rw [notName hil h]
      have yes : nameP s[i].toNat → nameB s[i] = true := fun h => decide_eq_true h
      refine S_guard rfl rfl rfl rfl (fun h => ?_) (fun h => ?_)
      · have h : ¬ (97 ≤ r ∧ r ≤ 122) ∧ ¬ (48 ≤ r ∧ r ≤ 57) := of_decide_eq_true h
        refine ab 1000 rfl trivial ?_
        refine S_pure rfl rfl rfl (containsRune_ok r) (.cons (.refl .str) (.cons (.refl .int) (.nil _))) ?_
        refine ab 1000 rfl trivial ?_
        refine S_cond rfl (fun h3 => ?_) (fun h3 => ?_)
        · have h3 : (!decide (0 ≤ markAt r)) = true := h3
          have h4 : ¬ 0 ≤ markAt r := by simpa using h3
          refine ab 1000 rfl trivial ?_
          exact S_retc .bool rfl trivial (no (fun hn => by have := hhex.1 hn; omega))
        · have h3 : (!decide (0 ≤ markAt r)) = false := h3
          have h4 : 0 ≤ markAt r := by simpa using h3
          have hn := hhex.2 (.inr (.inr h4))
          have := hwd hn
          subst this
          refine ab 1000 rfl trivial ?_
          exact S_round (i + 1) (by show s.length - (i + 1) < s.length - i; omega) ⟨hil, takeN hil hN (yes hn)⟩ (.cons rfl (.cons rfl (.nil _))) rfl
      · have h : ¬ (¬ (97 ≤ r ∧ r ≤ 122) ∧ ¬ (48 ≤ r ∧ r ≤ 57)) := of_decide_eq_false h
        have hn := hhex.2 (by omega)
        have := hwd hn
        subst this
        refine ab 1000 rfl trivial ?_
        refine S_cond rfl (fun h => by cases h) (fun _ => ?_)
        refine ab 1000 rfl trivial ?_
        exact S_round (i + 1) (by show s.length - (i + 1) < s.length - i; omega) ⟨hil, takeN hil hN (yes hn)⟩ (.cons rfl (.cons rfl (.nil _))) rfl
    · have hil : i = s.length := by omega
      refine ab 1000 rfl trivial ?_
      refine S_cond rfl (fun h => by cases h) (fun _ => ?_)
      refine ab 1000 rfl trivial ?_
      rw [hil, List.take_length] at hN
      refine S_guard rfl rfl rfl rfl (fun h => ?_) (fun h => ?_)
      · have h : (1 : Int) ≤ (s.length : Nat) := of_decide_eq_true h
        refine ab 1000 rfl trivial ?_
        refine S_guard rfl rfl rfl rfl (fun h2 => ?_) (fun h2 => ?_)
        · have h2 : (s.length : Int) ≤ 20 := of_decide_eq_true h2
          refine ab 1000 rfl trivial ?_
          refine S_guard rfl rfl rfl rfl (fun h3 => ?_) (fun h3 => ?_)
          · refine ab 1000 rfl trivial ?_
            refine S_retc .bool rfl trivial ?_
            show AV.bool (!(s == [46, 46])) = _
            have h3 : (!(s == [46])) = true := h3
            rw [isName, hN, decide_eq_true (p := 1 ≤ s.length) (by omega), decide_eq_true (p := s.length ≤ 20) (by omega), bne, h3]; rfl
          · refine ab 1000 rfl trivial ?_
            refine S_retc .bool rfl trivial ?_
            have h3 : (!(s == [46])) = false := h3
            rw [isName, hN, decide_eq_true (p := 1 ≤ s.length) (by omega), decide_eq_true (p := s.length ≤ 20) (by omega), bne, h3]; rfl
        · have h2 : ¬ (s.length : Int) ≤ 20 := of_decide_eq_false h2
          refine ab 1000 rfl trivial ?_
          refine S_guard rfl rfl rfl rfl (fun h => by cases h) (fun _ => ?_)
          refine ab 1000 rfl trivial ?_
          refine S_retc .bool rfl trivial ?_
          rw [isName, hN, decide_eq_false (p := s.length ≤ 20) (by omega)]; simp; rfl
      · have h : ¬ (1 : Int) ≤ (s.length : Nat) := of_decide_eq_false h
        refine ab 1000 rfl trivial ?_
        refine S_guard rfl rfl rfl rfl (fun h => by cases h) (fun _ => ?_)
        refine ab 1000 rfl trivial ?_
        refine S_guard rfl rfl rfl rfl (fun h => by cases h) (fun _ => ?_)
        refine ab 1000 rfl trivial ?_
        refine S_retc .bool rfl trivial ?_
        rw [isName, hN, decide_eq_false (p := 1 ≤ s.length) (by omega)]; rfl
end Go.Proofs.YtjkeekbfgnmngaaGreatDoor
end
section
set_option linter.unusedVariables false
set_option linter.unusedSimpArgs false
set_option maxRecDepth 20000
namespace Go.Proofs.YtjkeekbfgnmngaaGreatDoor
open Go Go.Ab
def isPathB (s : List UInt8) : Bool := (splitB 47 s).all isName && decide (s.length ≤ 100)
theorem all_take {α : Type} {p : α → Bool} {l : List α} {i : Nat} (h : i < l.length) (ha : (l.take i).all p = true) (hp : p l[i] = true) : (l.take (i + 1)).all p = true := by
  rw [List.take_succ_eq_append_getElem h, List.all_append, ha]; simp [hp]
theorem all_not {α : Type} {p : α → Bool} {l : List α} {i : Nat} (h : i < l.length) (hp : p l[i] = false) : l.all p = false := by
  rw [List.all_eq_false]; exact ⟨_, List.getElem_mem h, by simp [hp]⟩
theorem isPath_ok (s : List UInt8) (hs : s.length ≤ 1099511627776) : Calc cx 33 [.str s] (.bool (isPathB s)) :=
  pure_intro (fun a w => Tryz.call33 a w) Tryz.func33 rfl Tryz.ntmps33 rfl .bool fun B => by
    obtain ⟨l, hl⟩ : ∃ l, l = splitB 47 s := ⟨_, rfl⟩
    have hlen : l.length ≤ s.length + 1 := by rw [hl, split_len]; have : s.count 47 ≤ s.length := List.count_le_length; omega
    have htl : (texts l).length = l.length := by simp [texts]
    have hSp := Split_ok s 47 hs
    rw [← hl] at hSp
    refine ab 1000 rfl trivial ?_
    refine S_pure rfl rfl rfl hSp (.cons (.refl .str) (.cons (.refl .str) (.nil _))) ?_
    refine ab 1000 rfl trivial ?_
    refine S_while (α := Nat) (fun i => [(0, .str s), (6, .sl true false 1 (texts l)), (7, .int .i64 ((texts l).length : Nat)), (8, .int .i64 (i : Nat))]) (fun _ => []) (fun i => i ≤ l.length ∧ (l.take i).all isName = true) (fun i => l.length - i) 0
      ⟨Nat.zero_le _, rfl⟩ (.cons rfl (.cons rfl (.cons rfl (.cons rfl (.nil _))))) rfl ?_
    rintro i ⟨hi, hN⟩
    refine ab 1000 rfl trivial ?_
    refine S_dec rfl (fun hil => ?_) (fun hil => ?_)
    · have hil : i < l.length := by have : (i : Int) < ((texts l).length : Nat) := hil; omega
      refine ab 1000 rfl trivial ?_
      refine S_index (.str l[i]) rfl rfl rfl ⟨rfl, by omega, by rw [Int.toNat_natCast]; simp [texts, List.getElem?_eq_getElem hil], trivial⟩ ?_
      refine ab 1000 rfl trivial ?_
      have hp : l[i].length ≤ s.length := split_part (c := 47) _ (by rw [← hl]; exact List.getElem_mem hil)
      refine S_pure rfl rfl rfl (isName_ok l[i] (by omega)) (.cons (.refl .str) (.nil _)) ?_
      refine ab 1000 rfl trivial ?_
      refine S_cond rfl (fun h => ?_) (fun h => ?_)
      · have h : isName l[i] = false := by simpa using (show (!isName l[i]) = true from h)
        refine ab 1000 rfl trivial ?_
        refine S_retc .bool rfl trivial ?_
        rw [isPathB, ← hl, all_not hil h]; rfl
      · have h : isName l[i] = true := by simpa using (show (!isName l[i]) = false from h)
        refine ab 1000 rfl trivial ?_
        exact S_round (i + 1) (by show l.length - (i + 1) < l.length - i; omega) ⟨hil, all_take hil hN h⟩ (.cons rfl (.cons rfl (.cons rfl (.cons (ai64 rfl (by omega)) (.nil _))))) rfl
    · have hil : i = l.length := by have : ¬ (i : Int) < ((texts l).length : Nat) := hil; omega
      rw [hil, List.take_length] at hN
      refine ab 1000 rfl trivial ?_
      refine S_retc .bool rfl trivial ?_
      rw [isPathB, ← hl, hN, Bool.true_and]
      show AV.bool (decide ((s.length : Int) ≤ 100)) = _
      exact congrArg AV.bool (decide_eq_decide.2 (by omega))
def glue (x : List UInt8) : List (List UInt8) → List (List UInt8)
  | [] => [x]
  | p :: ps => (x ++ p) :: ps
theorem glue_cons {c x : UInt8} {r : List UInt8} (last : List UInt8) (h : x ≠ c) : glue last (splitB c (x :: r)) = glue (last ++ [x]) (splitB c r) := by
  rw [splitB, if_neg h]
  cases hq : splitB c r with
  | nil => simp [glue]
  | cons p ps => simp [glue]
theorem glue_nil (l : List (List UInt8)) (h : l ≠ []) : glue [] l = l := by
  cases l with
  | nil => exact absurd rfl h
  | cons p ps => rfl
theorem Parts_ok (s : List UInt8) (hs : s.length ≤ 1099511627776) : Calc cx 88 [.str s] (.sl true false 1 (texts (splitB 47 s))) :=
  pure_intro (fun a w => Tryz.call88 a w) Tryz.func88 rfl Tryz.ntmps88 rfl (.sl (fun _ => rfl) (texts_any _)) fun B => by
    refine go (M := [5]) 1000 rfl trivial ?_
    refine S_unfull (t := 3) rfl ⟨_, _, .inl rfl⟩ ?_
    refine S_while (α := Nat × List (List UInt8) × List UInt8 × Nat) (fun (i, pre, last, u) => [(0, .str s), (3, .ms 0 u 0 (pre.length + 1) 1 false), (4, .int .i64 (i : Nat))])
      (fun (i, pre, last, u) => [(u, some (.cells (texts (pre ++ [last])) ⟨false, none⟩))])
      (fun (i, pre, last, u) => i ≤ s.length ∧ pre.length ≤ i ∧ last.length ≤ i ∧ pre ++ glue last (splitB 47 (s.drop i)) = splitB 47 s) (fun (i, pre, last, u) => s.length - i) (0, [], [], 0)
      ⟨Nat.zero_le _, Nat.le_refl _, Nat.le_refl _, by simp [glue_nil _ (splitB_ne 47 s)]⟩ (.cons rfl (.cons rfl (.cons rfl (.nil _)))) rfl ?_
    rintro ⟨i, pre, last, u⟩ ⟨h1, h2, h3, h4⟩
    have h1 : i ≤ s.length := h1
    have h2 : pre.length ≤ i := h2
    have h3 : last.length ≤ i := h3
    have hpl : (texts (pre ++ [last])).length = pre.length + 1 := by simp [texts]
    refine ab 1000 rfl trivial ?_
    refine S_dec rfl (fun hil => ?_) (fun hil => ?_)
    · have hil : i < s.length := by omega
      have hd : s.drop i = s[i] :: s.drop (i + 1) := List.drop_eq_getElem_cons hil
      have hgd : s.getD i 0 = s[i] := by simp [List.getD, hil]
      refine ab 1000 rfl ⟨by omega, by omega, trivial⟩ ?_
      refine S_beq rfl (fun hc => ?_) (fun hc => ?_)
      · have hc : s[i] = 47 := by
          have h' : (((s.getD (i : Int).toNat 0).toNat : Nat) : Int) = 47 := hc
          rw [Int.toNat_natCast, hgd] at h'
          exact UInt8.toNat_inj.1 (by have : s[i].toNat = 47 := by omega
                                      rw [this]; rfl)
        refine ab 1000 rfl ⟨?_, ?_, ?_, rfl, rfl, allOne_mem (cs := [.str []]) rfl, allOne_mem (cs := [.str []]) rfl, rfl, trivial⟩ ?_
        · show pre.length + 1 + 1 ≤ 9223372036854775807; omega
        · show (pre.length + 1 + 1) * 16 ≤ 140737488355328; omega
        · show 0 + (pre.length + 1) * 1 = (texts (pre ++ [last])).length; omega
        refine S_round (i + 1, pre ++ [last], [], u + 1) (by show s.length - (i + 1) < s.length - i; omega) ⟨hil, by simp; omega, Nat.zero_le _, ?_⟩ (.cons rfl (.cons ?_ (.cons (ai64 rfl (by omega)) (.nil _)))) ?_
        · rw [← h4, hd, hc]
          show (pre ++ [last]) ++ glue [] (splitB 47 (s.drop (i + 1))) = pre ++ glue last (splitB 47 (47 :: s.drop (i + 1)))
          rw [glue_nil _ (splitB_ne _ _), splitB, if_pos rfl]
          simp [glue]
        · show AV.ms 0 (u + 1) 0 (pre.length + 1 + 1) 1 false = .ms 0 (u + 1) 0 ((pre ++ [last]).length + 1) 1 false
          simp
        · show [(u + 1, some (Box.cells (texts (pre ++ [last]) ++ [.str []]) ⟨false, none⟩))] = [(u + 1, some (Box.cells (texts ((pre ++ [last]) ++ [[]])) ⟨false, none⟩))]
          simp [texts]
      · have hc : s[i] ≠ 47 := by
          intro e
          have h' : (((s.getD (i : Int).toNat 0).toNat : Nat) : Int) ≠ 47 := hc
          rw [Int.toNat_natCast, hgd, e] at h'
          exact h' rfl
        have hw1 : IntKind.i64.wrap (((pre.length + 1 : Nat) : Int) - 1) = (pre.length : Int) := w64 (by omega) (by omega)
        refine ab 1000 rfl trivial ?_
        have hw2 : IntKind.i64.wrap ((i : Int) + 1) = ((i + 1 : Nat) : Int) := w64 (by omega) (by omega)
        have hcut : cutL (some (i : Int)) (some (IntKind.i64.wrap ((i : Int) + 1))) s = [s[i]] := by
          rw [hw2]
          show (s.take ((i + 1 : Nat) : Int).toNat).drop (i : Int).toNat = _
          rw [Int.toNat_natCast, Int.toNat_natCast, List.take_succ_eq_append_getElem hil, List.drop_left' (by simp; omega)]
        have hld : ((texts (pre ++ [last])).drop (offN 0 (mulN (IntKind.i64.wrap (((pre.length + 1 : Nat) : Int) - 1)).toNat 1)))[0]? = some (.str last) := by
          rw [offN_eq, mulN_eq, hw1, Int.toNat_natCast]
          simp [texts]
        refine S_draw 12 [] [.top, .str last] rfl rfl rfl rfl ⟨rfl, rfl, rfl, rfl, rfl, by rw [hw1]; omega, by rw [hw1]; omega, rfl, hld, rfl, rfl, rfl, rfl, rfl, by omega, by rw [hw2]; omega, by rw [hw2]; omega, rfl, by rw [hcut]; simp; omega, trivial⟩ ?_
        refine ab 1000 rfl trivial ?_
        refine S_index .top rfl rfl rfl ⟨rfl, by rw [hw1]; omega, by rw [hw1]; omega, trivial⟩ ?_
        refine S_store rfl rfl rfl ⟨rfl, rfl, rfl, ?_, trivial⟩ ?_
        · show offN 0 (mulN (IntKind.i64.wrap (((pre.length + 1 : Nat) : Int) - 1)).toNat 1) + 1 ≤ (texts (pre ++ [last])).length
          rw [offN_eq, mulN_eq, hw1, Int.toNat_natCast]; omega
        refine ab 1000 rfl trivial ?_
        refine S_round (i + 1, pre, last ++ [s[i]], u) (by show s.length - (i + 1) < s.length - i; omega) ⟨hil, by omega, by simp; omega, by rw [← h4, hd, glue_cons last hc]⟩ (.cons rfl (.cons rfl (.cons (ai64 rfl (by omega)) (.nil _)))) ?_
        show [(u, some (Box.cells (setRange (texts (pre ++ [last])) (offN 0 (mulN (IntKind.i64.wrap (((pre.length + 1 : Nat) : Int) - 1)).toNat 1)) [.str (last ++ cutL (some (i : Int)) (some (IntKind.i64.wrap ((i : Int) + 1))) s)]) ⟨false, none⟩))] = [(u, some (Box.cells (texts (pre ++ [last ++ [s[i]]])) ⟨false, none⟩))]
        rw [hcut, offN_eq, mulN_eq, hw1, Int.toNat_natCast, Nat.zero_add, Nat.mul_one]
        have := set_at (texts pre) (AV.str (last ++ [s[i]])) (.str last) []
        rw [show (texts pre).length = pre.length by simp [texts]] at this
        show [(u, some (Box.cells (List.set (texts (pre ++ [last])) pre.length (.str (last ++ [s[i]]))) _))] = _
        rw [show texts (pre ++ [last]) = texts pre ++ [.str last] by simp [texts], this]
        simp [texts]
    · have hil : i = s.length := by omega
      rw [hil, List.drop_length] at h4
      refine ab 1000 rfl trivial ?_
      refine S_ret ⟨_, _, rfl, trivial, _, rfl, ?_⟩
      rw [← h4]
      simp only [splitB, glue, List.append_nil]
      exact .ms1 rfl (texts_one _) (by simp [texts]) (texts_any _)
end Go.Proofs.YtjkeekbfgnmngaaGreatDoor
end
section
set_option linter.unusedVariables false
set_option linter.unusedSimpArgs false
set_option maxRecDepth 20000
namespace Go.Proofs.YtjkeekbfgnmngaaGreatDoor
open Go Go.Ab
def hexB (c : UInt8) : Bool := (48 ≤ c.toNat && c.toNat ≤ 57) || (97 ≤ c.toNat && c.toNat ≤ 102)
def isDig (s : List UInt8) : Bool := s.all hexB && s.length == 64
theorem take_all {p : UInt8 → Bool} {s : List UInt8} {i : Nat} (h : i < s.length) (ha : (s.take i).all p = true) (hp : p s[i] = true) : (s.take (i + 1)).all p = true := by
  rw [List.take_succ_eq_append_getElem h, List.all_append, ha]
  simp [hp]
theorem all_false {p : UInt8 → Bool} {s : List UInt8} {i : Nat} (h : i < s.length) (hp : p s[i] = false) : s.all p = false := by
  rw [List.all_eq_false]
  exact ⟨s[i], List.getElem_mem h, by simp [hp]⟩
theorem HexDigit_ok (n : Nat) (hn : n < 16) : Calc cx 120 [.int .i64 n] (.str [("0123456789abcdef".toUTF8.data.toList).getD n 0]) :=
  pure_intro (fun a w => Tryz.call120 a w) Tryz.func120 rfl Tryz.ntmps120 rfl .str fun B => by
    have hw : IntKind.i64.wrap ((n : Int) + 1) = ((n + 1 : Nat) : Int) := w64 rfl (by omega)
    refine ab 1000 rfl ⟨?_, ?_, ?_, trivial⟩ ?_
    · rw [hw]; show ((n + 1 : Nat) : Int) ≤ 16; omega
    · rw [hw]; omega
    · omega
    refine S_retc .str rfl trivial ?_
    show AV.str (((_ : List UInt8).take (IntKind.i64.wrap ((n : Int) + 1)).toNat).drop ((n : Int).toNat)) = _
    rw [hw, Int.toNat_natCast, Int.toNat_natCast]
    have : ∀ m : Fin 16, ((("0123456789abcdef".toUTF8.data.toList).take (m.1 + 1)).drop m.1) = [("0123456789abcdef".toUTF8.data.toList).getD m.1 0] := by decide +kernel
    exact congrArg _ (this ⟨n, hn⟩)
theorem digestIs_ok (s : List UInt8) (hs : s.length ≤ 9223372036854775807) : Calc cx 36 [.str s] (.bool (isDig s)) :=
  pure_intro (fun a w => Tryz.call36 a w) Tryz.func36 rfl Tryz.ntmps36 rfl .bool fun B => by
    refine ab 1000 rfl trivial ?_
    refine S_while (α := Nat) (fun i => [(0, .str s), (6, .ptr 0 0 0)]) (fun i => [(0, some (.siter s i))]) (fun i => i ≤ s.length ∧ (s.take i).all hexB = true) (fun i => s.length - i) 0
      ⟨Nat.zero_le _, rfl⟩ (.cons rfl (.cons rfl (.nil _))) rfl ?_
    rintro i ⟨hi, hN⟩
    refine ab 1000 rfl trivial ?_
    refine S_next rfl rfl rfl rfl rfl (fun hil => ?_) (fun hge => ?_)
    · refine ab 1000 rfl trivial ?_
      refine S_cond rfl (fun _ => ?_) (fun h => by cases h)
      refine ab 1000 rfl trivial ?_
      have hno : ∀ (h : hexB s[i] = false), isDig s = false := fun h => by rw [isDig, all_false hil h]; rfl
      obtain ⟨r, wd, hrw, hhex, hwd⟩ : ∃ r wd, decL s i = (r, wd) ∧ (hexB s[i] = true ↔ (48 ≤ r ∧ r ≤ 57) ∨ (97 ≤ r ∧ r ≤ 102)) ∧ (hexB s[i] = true → wd = 1) := by
        by_cases hc : s[i].toNat < 128
        · exact ⟨_, _, decL_lt hil hc, by simp [hexB], fun _ => rfl⟩
        · have h1 := decL_ge hil (by omega)
          have h2 : ¬ hexB s[i] = true := by simp [hexB]; omega
          obtain ⟨q1, q2, hq⟩ : ∃ a b, decL s i = (a, b) := ⟨_, _, rfl⟩
          rw [hq] at h1
          have h1 : 128 ≤ q1 := h1
          exact ⟨q1, q2, hq, ⟨fun h => absurd h h2, fun h => by omega⟩, fun h => absurd h h2⟩
      rw [hrw]
      have no' : ¬ ((48 ≤ r ∧ r ≤ 57) ∨ (97 ≤ r ∧ r ≤ 102)) → isDig s = false := fun h => hno (by
        cases hb : hexB s[i] with
        | false => rfl
        | true => exact absurd (hhex.1 hb) h)
      refine S_guard rfl rfl rfl rfl (fun h1 => ?_) (fun h1 => ?_)
      · have h1 : r < 48 := by have := of_decide_eq_true h1; omega
        refine ab 1000 rfl trivial ?_
        refine S_guard rfl rfl rfl rfl (fun _ => ?_) (fun h => by cases h)
        refine ab 1000 rfl trivial ?_
        refine S_guard rfl rfl rfl rfl (fun _ => ?_) (fun h => ?_)
        · refine ab 1000 rfl trivial ?_
          refine S_cond rfl (fun _ => ?_) (fun h => by cases h)
          refine ab 1000 rfl trivial ?_
          refine S_retc .bool rfl trivial ?_
          rw [no' (by omega)]; rfl
        · have := of_decide_eq_false h; omega
      · have h1 : 48 ≤ r := by have := of_decide_eq_false h1; omega
        refine ab 1000 rfl trivial ?_
        refine S_guard rfl rfl rfl rfl (fun h2 => ?_) (fun h2 => ?_)
        · have h2 : 57 < r := by have := of_decide_eq_true h2; omega
          refine ab 1000 rfl trivial ?_
          refine S_guard rfl rfl rfl rfl (fun h3 => ?_) (fun h3 => ?_)
          · have h3 : r < 97 := by have := of_decide_eq_true h3; omega
            refine ab 1000 rfl trivial ?_
            refine S_cond rfl (fun _ => ?_) (fun h => by cases h)
            refine ab 1000 rfl trivial ?_
            refine S_retc .bool rfl trivial ?_
            rw [no' (by omega)]; rfl
          · have h3 : 97 ≤ r := by have := of_decide_eq_false h3; omega
            refine ab 1000 rfl trivial ?_
            refine S_dec rfl (fun h4 => ?_) (fun h4 => ?_)
            · refine ab 1000 rfl trivial ?_
              refine S_retc .bool rfl trivial ?_
              rw [no' (by omega)]; rfl
            · have hb := hhex.2 (.inr ⟨h3, by omega⟩)
              have := hwd hb
              subst this
              refine ab 1000 rfl trivial ?_
              exact S_round (i + 1) (by show s.length - (i + 1) < s.length - i; omega) ⟨hil, take_all hil hN hb⟩ (.cons rfl (.cons rfl (.nil _))) rfl
        · have h2 : r ≤ 57 := by have := of_decide_eq_false h2; omega
          have hb := hhex.2 (.inl ⟨h1, h2⟩)
          have := hwd hb
          subst this
          refine ab 1000 rfl trivial ?_
          refine S_cond rfl (fun h => by cases h) (fun _ => ?_)
          refine ab 1000 rfl trivial ?_
          exact S_round (i + 1) (by show s.length - (i + 1) < s.length - i; omega) ⟨hil, take_all hil hN hb⟩ (.cons rfl (.cons rfl (.nil _))) rfl
    · have hil : i = s.length := by omega
      refine ab 1000 rfl trivial ?_
      refine S_cond rfl (fun h => by cases h) (fun _ => ?_)
      refine ab 1000 rfl trivial ?_
      refine S_retc .bool rfl trivial ?_
      rw [hil, List.take_length] at hN
      rw [isDig, hN]
      show AV.bool ((s.length : Int) == 64) = _
      by_cases h : s.length = 64
      · simp [h]
      · have h1 : (s.length : Int) ≠ 64 := by omega
        rw [beq_eq_false_iff_ne.2 h, beq_eq_false_iff_ne.2 h1]; rfl
end Go.Proofs.YtjkeekbfgnmngaaGreatDoor
end
section
set_option linter.unusedVariables false
set_option linter.unusedSimpArgs false
set_option maxRecDepth 20000
namespace Go.Proofs.YtjkeekbfgnmngaaGreatDoor
open Go Go.Ab
def hexOf (c : Nat) : Int := if 48 ≤ c ∧ c ≤ 57 then c - 48 else if 97 ≤ c ∧ c ≤ 102 then c - 87 else -1
theorem hexD (m : Nat) (h : m < 16) : (("0123456789abcdef".toUTF8.data.toList).getD m 0).toNat = if m < 10 then m + 48 else m + 87 := by
  have : ∀ m : Fin 16, (("0123456789abcdef".toUTF8.data.toList).getD m.1 0).toNat = if m.1 < 10 then m.1 + 48 else m.1 + 87 := by decide +kernel
  exact this ⟨m, h⟩
theorem HexOf_ok (c : Nat) (hc : c < 256) : Calc cx 121 [.int .u8 c] (.int .i64 (hexOf c)) :=
  pure_intro (fun a w => Tryz.call121 a w) Tryz.func121 rfl Tryz.ntmps121 rfl .int fun B => by
    refine ab 1000 rfl trivial ?_
    refine S_while (α := Nat) (fun i => [(0, .int .u8 c), (3, .int .i64 i)]) (fun i => []) (fun i => i ≤ 16 ∧ ∀ m, m < i → ¬ (if m < 10 then m + 48 else m + 87) = c) (fun i => 16 - i) 0
      ⟨Nat.zero_le _, fun m h => by omega⟩ (.cons rfl (.cons rfl (.nil _))) rfl ?_
    rintro i ⟨hi, hN⟩
    refine ab 1000 rfl trivial ?_
    refine S_dec rfl (fun h => ?_) (fun h => ?_)
    · have hil : i < 16 := by omega
      refine ab 1000 rfl trivial ?_
      refine S_pure rfl rfl rfl (HexDigit_ok i hil) (.cons (.refl .int) (.nil _)) ?_
      have hD := hexD i hil
      generalize (("0123456789abcdef".toUTF8.data.toList).getD i 0) = b at *
      refine ab 1000 rfl ⟨by simp, by decide, trivial⟩ ?_
      refine S_beq rfl (fun hb => ?_) (fun hb => ?_)
      · have hb : b.toNat = c := by
          have h' : (b.toNat : Int) = c := hb
          omega
        refine ab 1000 rfl trivial ?_
        refine S_retc .int rfl trivial ?_
        show AV.int .i64 (i : Int) = _
        congr 1
        unfold hexOf
        rw [hD] at hb
        split at hb
        · rw [if_pos (by omega)]; omega
        · rw [if_neg (by omega), if_pos (by omega)]; omega
      · have hb : ¬ b.toNat = c := by
          intro e
          exact hb (show (b.toNat : Int) = c by omega)
        refine ab 1000 rfl trivial ?_
        refine S_round (i + 1) (by show 16 - (i + 1) < 16 - i; omega) ⟨hil, fun m hm => ?_⟩ (.cons rfl (.cons (ai64 rfl (by omega)) (.nil _))) rfl
        rcases Nat.lt_or_ge m i with h | h
        · exact hN m h
        · obtain rfl : m = i := by omega
          rw [← hD]; exact hb
    · have hil : i = 16 := by omega
      refine ab 1000 rfl trivial ?_
      refine S_retc .int rfl trivial ?_
      show AV.int .i64 (-1) = _
      congr 1
      unfold hexOf
      subst hil
      split
      · rename_i h
        have := hN (c - 48) (by omega)
        rw [if_pos (by omega)] at this; omega
      · split
        · rename_i h
          have := hN (c - 87) (by omega)
          rw [if_neg (by omega)] at this; omega
        · rfl
end Go.Proofs.YtjkeekbfgnmngaaGreatDoor
end
section
set_option linter.unusedVariables false
set_option linter.unusedSimpArgs false
set_option maxRecDepth 20000
namespace Go.Proofs.YtjkeekbfgnmngaaGreatDoor
open Go Go.Ab
structure NodeV where
  name : List UInt8
  kind : Int
  dig : List UInt8
def nodeAV (n : NodeV) : AV := .agg [.str n.name, .int .i64 n.kind, .str n.dig]
def nodes (l : List NodeV) : List AV := l.map nodeAV
theorem nodeAV_free {st : Bool} (n : NodeV) : Free st (nodeAV n) := .agg (by intro x hx; simp at hx; rcases hx with rfl | rfl | rfl; exact .str; exact .int; exact .str)
theorem nodes_any {st : Bool} (l : List NodeV) : ∀ x ∈ nodes l, Free st x := by
  intro x hx
  obtain ⟨y, _, rfl⟩ := List.mem_map.1 hx
  exact nodeAV_free y
theorem nodes_len (l : List NodeV) : (nodes l).length = l.length := by simp [nodes]
theorem nodes_get {l : List NodeV} {i : Nat} (h : i < l.length) : (nodes l)[i]? = some (nodeAV l[i]) := by simp [nodes, h]
def leS (a b : List UInt8) : Bool := Op.bytesLess a b || a == b
def riseP (l : List (List UInt8)) (j : Nat) : Bool := j == 0 || !leS (l.getD j []) (l.getD (j - 1) [])
def riseB (l : List (List UInt8)) : Bool := (List.range l.length).all (riseP l)
theorem rise_no {l : List (List UInt8)} {i : Nat} (h : i < l.length) (h1 : 1 ≤ i) (hp : leS (l.getD i []) (l.getD (i - 1) []) = true) : riseB l = false := by
  rw [riseB, List.all_eq_false]
  refine ⟨i, List.mem_range.2 h, ?_⟩
  rw [riseP, hp]
  simp; omega
theorem rise_step {l : List (List UInt8)} {i : Nat} (h : (List.range i).all (riseP l) = true) (hp : leS (l.getD i []) (l.getD (i - 1) []) = false) : (List.range (i + 1)).all (riseP l) = true := by
  rw [List.range_succ, List.all_append, h]
  simp only [List.all_cons, List.all_nil, riseP, hp, Bool.not_false, Bool.or_true, Bool.and_true]
end Go.Proofs.YtjkeekbfgnmngaaGreatDoor
end
section
set_option linter.unusedVariables false
set_option linter.unusedSimpArgs false
namespace Go.Ab
open Go
def Rl.fix (r : Rl) (b : Nat) : Rl := { r with I := fun k => r.I k ∨ k = b }
theorem Inv.fix {cx : Cx} {r : Rl} {σ : Heap} {w : World} {b : Nat} (hi : Inv cx r σ w) (hl : ¬ Live r σ b) (hb : b < w.heap.size) : Inv cx (r.fix b) σ w := by
  have g : Grow r w (r.fix b) w := ⟨fun _ h => h, fun _ h => .inl h, fun _ _ _ h => h, fun _ _ => rfl, fun _ c _ f h => ⟨c, f, h, rfl⟩⟩
  refine ⟨fun id ver x h => ?_, hi.lt, hi.inj, fun k hk hI => ?_, fun k hI => ?_, fun k h => .inl (hi.SI k h), hi.glob.mono g hi.SI⟩
  · rcases hi.box id ver x h with ⟨k, o, h1, h2⟩ | h1
    · exact .inl ⟨k, o, h1, h2.mono g rfl⟩
    · exact .inr h1
  · rcases hI with h | rfl
    · exact hi.imm k hk h
    · exact hl hk
  · rcases hI with h | rfl
    · exact hi.Ilt k h
    · exact hb
theorem Inv.freeze {cx : Cx} {r : Rl} {σ : Heap} {w : World} {id cur b o : Nat} {x : Box} (hi : Inv cx r σ w) (hσ : σ[id]? = some (cur, some x)) (hρ : r.ρ id cur = some (b, o)) :
    Inv cx (r.fix b) (σ.set id (cur, none)) w ∧ Ext r σ w (r.fix b) (σ.set id (cur, none)) w := by
  obtain ⟨q1, q2⟩ := hi.kill (w' := w) hσ (fun _ _ => rfl) rfl (fun b c t f h => ⟨c, f, h, rfl⟩) rfl rfl rfl
  have hlive : Live r σ b := ⟨id, cur, x, o, hσ, hρ⟩
  have hid : id < σ.length := by
    rcases Nat.lt_or_ge id σ.length with h | h
    · exact h
    · rw [List.getElem?_eq_none h] at hσ; cases hσ
  have hnl : ¬ Live r (σ.set id (cur, none)) b := by
    rintro ⟨j, v, y, o', h1, h2⟩
    rw [List.getElem?_set] at h1
    by_cases hj : id = j
    · subst hj; rw [if_pos rfl] at h1; simp [hid] at h1
    · rw [if_neg hj] at h1
      exact hj (hi.inj _ _ _ _ _ _ _ _ _ hσ h1 hρ h2)
  refine ⟨q1.fix hnl (hi.lt _ _ _ _ hρ).2, ⟨q2.S, fun k h => .inl h, q2.Sf, fun k h => ?_, q2.ρ, q2.hs, q2.σl, q2.same, fun k h => ?_, q2.size, q2.os, q2.output, q2.tape, q2.blk⟩⟩
  · rcases h with h | rfl
    · exact .inl h
    · exact .inr (.inl hlive)
  · exact q2.liv k h
section
variable {cx : Cx} {n : Nat} {B : Bs} {k : List AI} {Q : Post} {fr : Fr} {σ : Heap}
theorem S_freeze {todo : List AI} {t id cur off len sz : Nat} {full : Bool} {cs : List AV} {g : Tag} (xs : List AV) (h : fr.get t = .ms id cur off len sz full) (hb : boxAt σ id = some (cur, cs, g)) (hle : off + len * sz ≤ cs.length)
    (hx : (cs.drop off).take (len * sz) = xs.flatMap AV.cells) (hsz : ∀ x ∈ xs, x.cells.length = sz) (hl : xs.length = len) (hf : ∀ x ∈ xs, Free false x)
    (hT : ∃ c k, todo = .code c :: k ∨ ∃ all l K, todo = .ops all l K :: k) (hk : S cx n B todo Q ((t, .sl false false sz xs) :: fr) (σ.set id (cur, none))) : S cx n B todo Q fr σ := by
  have key : ∀ r w a, Inv cx r σ w → FRel r w n fr a → ∃ r', Inv cx r' (σ.set id (cur, none)) w ∧ Ext r σ w r' (σ.set id (cur, none)) w ∧ FRel r' w n ((t, .sl false false sz xs) :: fr) a := by
    intro r w a hi hf0
    have hv := hf0.get t
    rw [h] at hv
    have bx := boxAt_some hb
    have out : ∀ {r' : Rl}, Grow r w r' w → VRel r' w (a.tmps.getD t undef) (.sl false false sz xs) → FRel r' w n ((t, .sl false false sz xs) :: fr) a := by
      intro r' gr hvv
      refine ⟨hf0.size, fun s => ?_, fun vs hm => ?_⟩
      · rw [Fr.get_cons]
        split
        · rename_i hs; subst hs; exact hvv
        · exact (hf0.get s).mono gr
      · rw [Fr.get_cons] at hm
        split at hm
        · cases hm
        · exact (hf0.defs vs hm).mono gr
    generalize a.tmps.getD t undef = z at hv out
    cases hv with
    | ms0 =>
      obtain rfl := List.eq_nil_of_length_eq_zero hl
      obtain ⟨q1, q2⟩ := hi.kill (w' := w) bx (fun _ _ => rfl) rfl (fun b c t f h => ⟨c, f, h, rfl⟩) rfl rfl rfl
      exact ⟨r, q1, q2, out (q2.grow hi) (.sl0 (fun h' => by cases h'))⟩
    | ms hρ hcap hn hff =>
      obtain ⟨q1, q2⟩ := hi.freeze bx hρ
      have hbr := hi.cells hb rfl hρ
      have hc := (hbr.cells'.drop off).take (len * sz)
      rw [hx] at hc
      refine ⟨_, q1, q2, out (q2.grow hi) (Cells.sl hl.symm hn (fun h => by cases h) (.inr rfl) (fun h => by cases h) hsz (fun i hi' => ?_))⟩
      obtain ⟨u, p1, p2⟩ := hc i hi'
      exact ⟨u, p1, p2.mono (q2.grow hi)⟩
  obtain ⟨c, k, hT⟩ := hT
  rcases hT with rfl | ⟨all, l, K, rfl⟩
  · intro r a w hi hf hd hx
    obtain ⟨r', q1, q2, q3⟩ := key r w a hi hf
    exact hk r' a w q1 q3 hd (hx.trans q2)
  · intro r a w hi hf hd hx
    obtain ⟨r', q1, q2, q3⟩ := key r w a hi hf
    exact hk r' a w q1 q3 hd (hx.trans q2)
theorem S_freeze1 {todo : List AI} {t id cur len : Nat} {full : Bool} {cs : List AV} {g : Tag} (h : fr.get t = .ms id cur 0 len 1 full) (hb : boxAt σ id = some (cur, cs, g)) (hl : cs.length = len) (h1 : ∀ x ∈ cs, x.one = true) (hf : ∀ x ∈ cs, Free false x)
    (hT : ∃ c k, todo = .code c :: k ∨ ∃ all l K, todo = .ops all l K :: k) (hk : S cx n B todo Q ((t, .sl false false 1 cs) :: fr) (σ.set id (cur, none))) : S cx n B todo Q fr σ :=
  S_freeze cs h hb (by omega) (by rw [List.drop_zero, List.take_of_length_le (by omega), ones_flat h1]) (fun x hx => by rw [one_cells (h1 x hx)]; rfl) hl hf hT hk
end
end Go.Ab
end
section
set_option linter.unusedVariables false
set_option linter.unusedSimpArgs false
namespace Go.Ab
open Go
inductive Low (k : Nat) : AV → Prop
  | top : Low k .top
  | bool {b} : Low k (.bool b)
  | int {t n} : Low k (.int t n)
  | str {s} : Low k (.str s)
  | nilp : Low k .nilp
  | nils : Low k .nils
  | nilm : Low k .nilm
  | nilf : Low k .nilf
  | nili : Low k .nili
  | mark {vs} : Low k (.mark vs)
  | ptr {id ver off} (h : id < k) : Low k (.ptr id ver off)
  | eptr {id ver off} (h : id < k) : Low k (.eptr id ver off)
  | ms {id ver off len sz full} (h : id < k) : Low k (.ms id ver off len sz full)
  | map {id ver} (h : id < k) : Low k (.map id ver)
  | rp {b cs} (hx : ∀ x ∈ cs, Low k x) : Low k (.rp b cs)
  | sl {b fl sz xs} (hx : ∀ x ∈ xs, Low k x) : Low k (.sl b fl sz xs)
  | iface {t v} (h : Low k v) : Low k (.iface t v)
  | agg {cs} (h : ∀ x ∈ cs, Low k x) : Low k (.agg cs)
  | tup {cs} (h : ∀ x ∈ cs, Low k x) : Low k (.tup cs)
  | func {fn a b} (h : ∀ x ∈ a, Low k x) (h' : ∀ x ∈ b, Low k x) : Low k (.func fn a b)
theorem Low.free {k : Nat} {st : Bool} {a : AV} (h : Free st a) : Low k a := by
  induction h with
  | top => exact .top
  | bool => exact .bool
  | int => exact .int
  | str => exact .str
  | nilp => exact .nilp
  | nils => exact .nils
  | nilm => exact .nilm
  | nilf => exact .nilf
  | nili => exact .nili
  | rp _ _ ih => exact .rp ih
  | sl _ _ ih => exact .sl ih
  | iface _ ih => exact .iface ih
  | agg _ ih => exact .agg ih
  | tup _ ih => exact .tup ih
  | func _ _ ih1 ih2 => exact .func ih1 ih2
theorem Low.cells {k : Nat} {a : AV} (h : Low k a) : ∀ x ∈ a.cells, Low k x := by
  cases a with
  | agg cs => cases h; assumption
  | _ => intro x hx; simp only [AV.cells, List.mem_singleton] at hx; subst hx; exact h
theorem VRel.low {k : Nat} {r r' : Rl} {w : World} {v : Value} {a : AV} (h : VRel r w v a) (hl : Low k a) (hS : ∀ b, r.S b → r'.S b) (hI : ∀ b, r.I b → r'.I b) (hρ : ∀ id ver p, id < k → r.ρ id ver = some p → r'.ρ id ver = some p) : VRel r' w v a := by
  induction h with
  | top => exact .top
  | mark => exact .mark
  | bool => exact .bool
  | int => exact .int
  | str h => exact .str h
  | nilp => exact .nilp
  | ptr h => cases hl with | ptr hk => exact .ptr (hρ _ _ _ hk h)
  | eptr h => cases hl with | eptr hk => exact .eptr (hρ _ _ _ hk h)
  | rp hI' hS' f hc _ ih => cases hl with | rp hx => exact .rp (hI _ hI') (fun h => hS _ (hS' h)) f hc (fun i hi => ih i hi (hx _ (List.getElem_mem hi)))
  | nils => exact .nils
  | sl0 h => exact .sl0 h
  | sl hn hc0 hf' hI' hS' hsz f hc _ ih =>
    cases hl with
    | sl hx => exact .sl hn hc0 hf' (hI _ hI') (fun h => hS _ (hS' h)) hsz f hc (fun e he j hj => ih e he j hj ((hx _ (List.getElem_mem he)).cells _ (List.getElem_mem hj)))
  | ms0 => exact .ms0
  | ms h hcap hn hf' => cases hl with | ms hk => exact .ms (hρ _ _ _ hk h) hcap hn hf'
  | nilm => exact .nilm
  | map h => cases hl with | map hk => exact .map (hρ _ _ _ hk h)
  | func h1 _ h2 _ ih1 ih2 =>
    cases hl with
    | func ha hb => exact .func h1 (fun i hi => ih1 i hi (ha _ (List.getElem_mem hi))) h2 (fun i hi => ih2 i hi (hb _ (List.getElem_mem hi)))
  | nilf => exact .nilf
  | iface _ ih => cases hl with | iface h => exact .iface (ih h)
  | nili => exact .nili
  | agg hn _ ih => cases hl with | agg h => exact .agg hn (fun i hi => ih i hi (h _ (List.getElem_mem hi)))
  | tup hn _ ih => cases hl with | tup h => exact .tup hn (fun i hi => ih i hi (h _ (List.getElem_mem hi)))
inductive LowBox (k : Nat) : Box → Prop
  | cells {cs g} (h : ∀ x ∈ cs, Low k x) : LowBox k (.cells cs g)
  | map {kvs st} (h : ∀ p ∈ kvs, Low k p.1 ∧ Low k p.2) : LowBox k (.map kvs st)
  | miter {id ver since seen last} (h : id < k) : LowBox k (.miter id ver since seen last)
  | siter {s pos} : LowBox k (.siter s pos)
theorem BoxRel.low {P : Program} {k : Nat} {r r' : Rl} {w : World} {b o : Nat} {x : Box} (h : BoxRel P r w b o x) (hl : LowBox k x) (hS : ∀ b, r.S b → r'.S b) (hI : ∀ b, r.I b → r'.I b) (hρ : ∀ id ver p, id < k → r.ρ id ver = some p → r'.ρ id ver = some p) : BoxRel P r' w b o x := by
  cases hl with
  | cells hx =>
    obtain ⟨c, t, lo, hi, h1, h2, h3⟩ := h
    refine ⟨c, t, lo, hi, h1, fun i hi => ?_, h3⟩
    obtain ⟨v, hv, hr⟩ := h2 i hi
    exact ⟨v, hv, hr.low (hx _ (List.getElem_mem hi)) hS hI hρ⟩
  | map hx =>
    obtain ⟨h0, es, clock, h1, h2, h3, h4⟩ := h
    refine ⟨h0, es, clock, h1, h2, fun i hi => ?_, h4⟩
    obtain ⟨e, he, hk, hv⟩ := h3 i hi
    have := hx _ (List.getElem_mem hi)
    exact ⟨e, he, hk.low this.1 hS hI hρ, hv.low this.2 hS hI hρ⟩
  | siter => exact h
  | miter hk =>
    obtain ⟨h0, mb, h1, h2⟩ := h
    exact ⟨h0, mb, hρ _ _ _ hk h1, h2⟩
inductive FzT (k : Nat) (σ : Heap) : AV → AV → Prop
  | low {a} (h : Low k a) : FzT k σ a a
  | nils {b fl sz} : FzT k σ .nils (.sl b fl sz [])
  | ms {id ver off len sz full cs g xs ys} (hk : k ≤ id) (hb : boxAt σ id = some (ver, cs, g)) (hle : off + len * sz ≤ cs.length) (hx : (cs.drop off).take (len * sz) = ys) (hsz : ∀ x ∈ xs, x.cells.length = sz) (hl : xs.length = len)
      (hxy : ys.length = (xs.flatMap AV.cells).length) (hf : ∀ i (h : i < ys.length) (h' : i < (xs.flatMap AV.cells).length), FzT k σ ys[i] (xs.flatMap AV.cells)[i]) : FzT k σ (.ms id ver off len sz full) (.sl true false sz xs)
  | agg {az bs} (hl : az.length = bs.length) (h : ∀ i (h : i < az.length) (h' : i < bs.length), FzT k σ az[i] bs[i]) : FzT k σ (.agg az) (.agg bs)
  | tup {az bs} (hl : az.length = bs.length) (h : ∀ i (h : i < az.length) (h' : i < bs.length), FzT k σ az[i] bs[i]) : FzT k σ (.tup az) (.tup bs)
theorem FzT.ms1 {k : Nat} {σ : Heap} {id ver len : Nat} {full : Bool} {xs : List AV} {g : Tag} (hk : k ≤ id) (hb : boxAt σ id = some (ver, xs, g)) (ho : ∀ x ∈ xs, x.one = true) (hl : xs.length = len) (hf : ∀ x ∈ xs, Low k x) :
    FzT k σ (.ms id ver 0 len 1 full) (.sl true false 1 xs) := by
  have e := ones_flat ho
  refine .ms (ys := xs) hk hb (by omega) (by rw [List.drop_zero, List.take_of_length_le (by omega)]) (fun x hx => by rw [one_cells (ho x hx)]; rfl) hl (by rw [e]) (fun i h h' => ?_)
  have : (xs.flatMap AV.cells)[i] = xs[i] := by simp only [e]
  rw [this]
  exact .low (hf _ (List.getElem_mem h))
theorem FzT.rel {k : Nat} {cx : Cx} {r r' : Rl} {σ : Heap} {w : World} (hi : Inv cx r σ w) (hS : ∀ b, r.S b → r'.S b) (hI : ∀ b, r.I b → r'.I b) (hρ : ∀ id ver p, id < k → r.ρ id ver = some p → r'.ρ id ver = some p)
    (hL : ∀ (id ver : Nat) x b o, k ≤ id → σ[id]? = some (ver, some x) → r.ρ id ver = some (b, o) → r'.I b ∧ r'.S b) {a a' : AV} (hz : FzT k σ a a') : ∀ {v : Value}, VRel r w v a → VRel r' w v a' := by
  induction hz with
  | low h => intro v hv; exact hv.low h hS hI hρ
  | nils => intro v hv; cases hv; exact .sl0 (fun _ => rfl)
  | ms hk hb hle hx hsz hl hxy hf ih =>
    intro v hv
    cases hv with
    | ms0 =>
      obtain rfl := List.eq_nil_of_length_eq_zero hl
      exact .sl0 (fun h => by cases h)
    | ms hρ' hcap hn hff =>
      have hbr := hi.cells hb rfl hρ'
      obtain ⟨k1, k2⟩ := hL _ _ _ _ _ hk (boxAt_some hb) hρ'
      rename_i off0 len0 sz0 _ cs0 _ xs0 ys0 b0 o1 cap0
      have hc := (hbr.cells'.drop off0).take (len0 * sz0)
      rw [hx] at hc
      refine Cells.sl hl.symm hn (fun h => by cases h) k1 (fun _ => k2) hsz (fun i hi' => ?_)
      obtain ⟨u, q1, q2⟩ := hc i (by omega)
      exact ⟨u, q1, ih i (by omega) hi' q2⟩
  | agg hl h ih =>
    intro v hv
    cases hv with
    | agg hn h2 => exact .agg (by omega) (fun i hi => ih i (by omega) hi (h2 i (by omega)))
  | tup hl h ih =>
    intro v hv
    cases hv with
    | tup hn h2 => exact .tup (by omega) (fun i hi => ih i (by omega) hi (h2 i (by omega)))
def LowH (k : Nat) (σ : Heap) : Prop := ∀ (id ver : Nat) x, id < k → σ[id]? = some (ver, some x) → LowBox k x
theorem LowH.of {k : Nat} {σ : Heap} (h : ∀ e ∈ σ.take k, ∀ x, e.2 = some x → LowBox k x) : LowH k σ := fun id ver x hk hid =>
  h (ver, some x) (by
    rw [List.mem_iff_getElem?]
    exact ⟨id, by rw [List.getElem?_take, if_pos hk]; exact hid⟩) x rfl
def TR (k0 : Nat) (R : Out → Heap → Prop) (o : Out) (σ : Heap) : Prop :=
  ∃ k, k0 ≤ k ∧ LowH k σ ∧ match o with
    | .ret v => ∃ res, FzT k σ v res ∧ R (.ret res) (σ.take k)
    | .panic v => Low k v ∧ R (.panic v) (σ.take k)
theorem trunc {cx : Cx} {r r' : Rl} {σ σ' : Heap} {w w' : World} {k : Nat} (hi : Inv cx r σ w) (hi' : Inv cx r' σ' w') (hx : Ext r σ w r' σ' w') (hk : σ.length ≤ k) (hl : LowH k σ') :
    ∃ r'', Inv cx r'' (σ'.take k) w' ∧ Ext r σ w r'' (σ'.take k) w' ∧ (∀ v a, Low k a → VRel r' w' v a → VRel r'' w' v a) ∧ ∀ v a a', FzT k σ' a a' → VRel r' w' v a → VRel r'' w' v a' := by
  let F : Nat → Prop := fun b => ∃ (id ver : Nat) (x : Box) (o : Nat), k ≤ id ∧ σ'[id]? = some (ver, some x) ∧ r'.ρ id ver = some (b, o)
  let r2 : Rl := { S := fun b => r'.S b ∨ F b, I := fun b => r'.I b ∨ F b, ρ := fun id ver => if id < k then r'.ρ id ver else none }
  have hS : ∀ b, r'.S b → r2.S b := fun b h => Or.inl h
  have hI : ∀ b, r'.I b → r2.I b := fun b h => Or.inl h
  have hρ : ∀ id ver p, id < k → r'.ρ id ver = some p → r2.ρ id ver = some p := fun id ver p h1 h2 => by simp only [r2, if_pos h1]; exact h2
  have hρ2 : ∀ {id ver p}, r2.ρ id ver = some p → id < k ∧ r'.ρ id ver = some p := by
    intro id ver p h
    simp only [r2] at h
    split at h
    · exact ⟨by assumption, h⟩
    · cases h
  have hget : ∀ {id : Nat} {e : Nat × Option Box}, (σ'.take k)[id]? = some e → id < k ∧ σ'[id]? = some e := by
    intro id e h
    rw [List.getElem?_take] at h
    split at h
    · exact ⟨by assumption, h⟩
    · cases h
  have hnew : ∀ b, F b → w.heap.size ≤ b := by
    rintro b ⟨id, ver, x, o, h1, h2, h3⟩
    rcases hx.blk id ver b o h3 with ⟨v1, o1, h4⟩ | h4
    · obtain ⟨⟨cur, y, h5, _⟩, _⟩ := hi.lt _ _ _ _ h4
      rw [List.getElem?_eq_none (by omega)] at h5; cases h5
    · exact h4
  have hF : ∀ b, F b → b < w'.heap.size := by
    rintro b ⟨id, ver, x, o, h1, h2, h3⟩
    exact (hi'.lt _ _ _ _ h3).2
  have hlive : ∀ b, Live r2 (σ'.take k) b → Live r' σ' b ∧ ¬ F b := by
    rintro b ⟨id, ver, x, o, h1, h2⟩
    obtain ⟨h3, h4⟩ := hget h1
    obtain ⟨_, h5⟩ := hρ2 h2
    refine ⟨⟨id, ver, x, o, h4, h5⟩, ?_⟩
    rintro ⟨id', ver', x', o', q1, q2, q3⟩
    have := hi'.inj _ _ _ _ _ _ _ _ _ h4 q2 h5 q3
    omega
  refine ⟨r2, ⟨fun id ver x h => ?_, fun id ver b o h => ?_, fun id id' ver ver' x x' b o o' h1 h2 h3 h4 => hi'.inj id id' ver ver' x x' b o o' (hget h1).2 (hget h2).2 (hρ2 h3).2 (hρ2 h4).2, fun b h hb => ?_, fun b hb => ?_, fun b hb => ?_, ?_⟩,
    ⟨fun b h => .inl (hx.S b h), fun b h => .inl (hx.I b h), fun b hb => ?_, fun b hb => ?_, fun id ver p h => ?_, hx.hs, ?_, hx.same, fun b h => hx.liv b (hlive b h).1, hx.size, hx.os, hx.output, hx.tape, fun id ver b o h => hx.blk id ver b o (hρ2 h).2⟩, fun v a h hv => hv.low h hS hI hρ, fun v a a' h hv => ?_⟩
  · obtain ⟨h1, h2⟩ := hget h
    rcases hi'.box id ver x h2 with ⟨b, o, h3, h4⟩ | ⟨h3, h4⟩
    · exact .inl ⟨b, o, hρ _ _ _ h1 h3, h4.low (hl id ver x h1 h2) hS hI hρ⟩
    · exact .inr ⟨by simp only [r2, if_pos h1]; exact h3, h4⟩
  · obtain ⟨h1, h2⟩ := hρ2 h
    obtain ⟨⟨cur, x, h3, h4⟩, h5⟩ := hi'.lt id ver b o h2
    exact ⟨⟨cur, x, by rw [List.getElem?_take, if_pos h1]; exact h3, h4⟩, h5⟩
  · obtain ⟨h1, h2⟩ := hlive b h
    rcases hb with hb | hb
    · exact hi'.imm b h1 hb
    · exact h2 hb
  · rcases hb with hb | hb
    · exact hi'.Ilt b hb
    · exact hF b hb
  · rcases hb with hb | hb
    · exact .inl (hi'.SI b hb)
    · exact .inr hb
  · exact hi'.glob.free (r' := r2) hS (fun b hb => hb.elim (fun h => .inl (hi'.SI b h)) .inr)
  · rcases hb with hb | hb
    · exact hx.Sf b hb
    · exact .inr (hnew b hb)
  · rcases hb with hb | hb
    · exact hx.If b hb
    · exact .inr (.inr (hnew b hb))
  · obtain ⟨⟨cur, x, h1, _⟩, _⟩ := hi.lt id ver p.1 p.2 h
    refine hρ _ _ _ ?_ (hx.ρ _ _ _ h)
    rcases Nat.lt_or_ge id σ.length with h' | h'
    · omega
    · rw [List.getElem?_eq_none h'] at h1; cases h1
  · have := hx.σl
    rw [List.length_take]; omega
  · exact h.rel hi' hS hI hρ (fun id ver x b o h1 h2 h3 => ⟨.inr ⟨id, ver, x, o, h1, h2, h3⟩, .inr ⟨id, ver, x, o, h1, h2, h3⟩⟩) hv
theorem callOk_trunc {cx : Cx} {f : FuncId} {args : List AV} {σ : Heap} {R : Out → Heap → Prop} (h : CallOk cx f args σ (TR σ.length R)) : CallOk cx f args σ R := by
  refine ⟨h.1, fun r w vs hi hv => ?_⟩
  refine (h.2 r w vs hi hv).mono fun e w' ⟨o, σ', r', ⟨k, hk, hl, hR⟩, hor, hi', hx'⟩ => ?_
  obtain ⟨r2, q1, q2, q3, q4⟩ := trunc hi hi' hx' hk hl
  cases o with
  | ret v =>
    obtain ⟨res, hz, hR⟩ := hR
    cases e with
    | returned u => exact ⟨.ret res, _, r2, hR, q4 _ _ _ hz hor, q1, q2⟩
    | panicked chain => exact hor.elim
    | outgrown => exact hor.elim
  | panic v =>
    obtain ⟨hz, hR⟩ := hR
    cases e with
    | returned u => exact hor.elim
    | panicked chain =>
      obtain ⟨u, hu1, hu2⟩ := hor
      exact ⟨.panic v, _, r2, hR, ⟨u, hu1, q3 _ _ hz hu2⟩, q1, q2⟩
    | outgrown => exact hor.elim
theorem callOk_introT {cx : Cx} {f : FuncId} {fn : Func} {c : Code} {n : Nat} {args : List AV} {σ : Heap} {R : Out → Heap → Prop} (he : Enters cx.P f) (hf : cx.P.funcs[f]? = some fn) (hb : fn.body = some c) (hn : fn.ntmps = n) (ha : Nat.ble args.length n = true)
    (h : ∀ B, S cx n B [.code c] (retQ cx fn (TR σ.length R)) (enterFr 0 args) σ) : CallOk cx f args σ R :=
  callOk_trunc (callOk_intro he hf hb hn ha h)
end Go.Ab
end
section
set_option linter.unusedVariables false
set_option linter.unusedSimpArgs false
namespace Go.Ab
open Go
def StepX (cx : Cx) (n : Nat) (all : Array Oper) (σ σ' : Heap) (K : List Nat) (fr : Fr) (o : Oper) (v : AV) : Prop :=
  dstOk n o.dst = true ∧ ((guardA all o K fr = some false ∧ v = .tup [] ∧ σ' = σ) ∨ (guardA all o K fr = some true ∧ ∀ r a w, Inv cx r σ w → FRel r w n fr a → ∀ Q, o.wp cx.P a w (fun a' w' => ∃ r' v', a' = a.put o.dst v' ∧ VRel r' w' v' v ∧ Inv cx r' σ' w' ∧ Ext r σ w r' σ' w') Q))
theorem StepD.x {cx : Cx} {n : Nat} {all : Array Oper} {σ : Heap} {K : List Nat} {fr : Fr} {o : Oper} {v : AV} (h : StepD cx n all σ K fr o v) : StepX cx n all σ σ K fr o v := by
  refine ⟨h.1, ?_⟩
  rcases h.2 with ⟨h1, h2⟩ | h1
  · exact .inl ⟨h1, h2, rfl⟩
  · exact .inr h1
def hpC (σ σ' : Heap) (jc : Nat) (listed : Array Bool) : Heap := bif listed.getD jc false then σ' else σ
theorem hpC_in {σ σ' : Heap} {jc : Nat} {listed : Array Bool} (h : Listed listed jc) : hpC σ σ' jc listed = σ' := by
  have h : listed.getD jc false = true := h
  unfold hpC; rw [h]; rfl
theorem hpC_out {σ σ' : Heap} {jc : Nat} {listed : Array Bool} (h : listed.getD jc false = false) : hpC σ σ' jc listed = σ := by
  unfold hpC; rw [h]; rfl
theorem hpC_set {σ σ' : Heap} {i : Nat} {listed : Array Bool} (h : i < listed.size) : hpC σ σ' i (listed.setIfInBounds i true) = σ' :=
  hpC_in ((listed_set h).2 (.inl rfl))
theorem hpC_same {σ σ' : Heap} {i jc : Nat} {listed : Array Bool} (h : i < listed.size) (hn : i ≠ jc) : hpC σ σ' jc (listed.setIfInBounds i true) = hpC σ σ' jc listed := by
  unfold hpC
  have : (listed.setIfInBounds i true).getD jc false = listed.getD jc false := by
    simp only [Array.getD_eq_getD_getElem?, Array.getElem?_setIfInBounds, if_neg hn]
  rw [this]
section
variable {cx : Cx} {n : Nat} {B : Bs} {k : List AI} {Q : Post} {fr : Fr} {σ : Heap}
theorem wpAny_frontC {σ' : Heap} {jc : Nat} {ops : Array Oper} {m : Nat} {vals : List AV} {K : List Nat} {Q' : Exit → Act → World → Prop} (hjc : jc < m) (hmN : m ≤ ops.size) (hlen : vals.length = m)
    (hread : ∀ j o t, j < m → ops.toList[j]? = some o → t ∈ slotsOf ops.toList o → readOk ops.toList m j t = true)
    (huniq : ∀ i j d, i < m → j < m → dstOf ops.toList i = some d → dstOf ops.toList j = some d → i = j)
    (hch : ∀ j, m < j → j < ops.size → edge ops.toList j (j - 1) = true) (hlo : ∀ j i, edge ops.toList j i = true → i < j)
    (hcl : m < ops.size → ∀ i, i < m → ∃ k, i < k ∧ k ≤ m ∧ edge ops.toList k i = true)
    (hstep : ∀ (j : Nat) o v, j < m → ops.toList[j]? = some o → vals[j]? = some v → (j ≠ jc → ∀ b : Bool, StepX cx n ops (bif b then σ' else σ) (bif b then σ' else σ) K (restr ops.toList o (ovl (ops.toList.take j) (vals.take j) fr)) o v) ∧ (j = jc → StepX cx n ops σ σ' K (restr ops.toList o (ovl (ops.toList.take j) (vals.take j) fr)) o v))
    (hend : ∀ r a w, Inv cx r σ' w → FRel r w n (ovl (ops.toList.take m) vals fr) a → Dfs B a → Ext B.r B.σ B.w r σ' w → wpList cx.P ops Q' (ops.toList.drop m) a w) :
    ∀ (f : Nat) (listed : Array Bool) (r : Rl) (a : Act) (w : World), listed.size = ops.size → unl listed = f → Down ops.toList listed → (∀ j, m ≤ j → ¬ Listed listed j) →
      FL r w n fr ops.toList m vals listed a → Inv cx r (hpC σ σ' jc listed) w → Dfs B a → Ext B.r B.σ B.w r (hpC σ σ' jc listed) w → wpAny cx.P .any ops Q' f listed a w := by
  have ovlN : ∀ i, i ≤ m → ∀ vs, (ovl (ops.toList.take i) (vals.take i) fr).get n = .mark vs → fr.get n = .mark vs := by
    intro i him vs hm
    rcases ovl_get (ops.toList.take i) (vals.take i) fr n (by simp [hlen]; omega) with ⟨i', o', v', k1, k2, k3, k4⟩ | ⟨k1, k2⟩
    · exfalso
      have hi'i : i' < i := by
        rcases Nat.lt_or_ge i' i with h' | h'
        · exact h'
        · rw [List.getElem?_eq_none (by simp; omega)] at k1; cases k1
      rw [List.getElem?_take_of_lt hi'i] at k1 k3
      have hds : dstOk n o'.dst = true := by
        by_cases hij : i' = jc
        · exact ((hstep i' o' v' (by omega) k1 k3).2 hij).1
        · exact ((hstep i' o' v' (by omega) k1 k3).1 hij false).1
      rw [k2] at hds
      have := blt_lt hds
      omega
    · rw [← k2]; exact hm
  have fin : ∀ (f : Nat) (listed : Array Bool) (r : Rl) (a : Act) (w : World), listed.size = ops.size → unl listed = f → (∀ j, j < m → Listed listed j) → (∀ j, m ≤ j → ¬ Listed listed j) →
      FL r w n fr ops.toList m vals listed a → Inv cx r (hpC σ σ' jc listed) w → Dfs B a → Ext B.r B.σ B.w r (hpC σ σ' jc listed) w → wpAny cx.P .any ops Q' f listed a w := by
    intro f listed r a w hs hf hall hno hfl hi hd hx
    rw [hpC_in (hall jc hjc)] at hi hx
    have hcount : unl listed + m = ops.size := by
      have hl : listed.toList = List.replicate m true ++ List.replicate (ops.size - m) false := by
        apply List.ext_getElem
        · simp; omega
        · intro j h1 h2
          have hj : j < listed.size := by simpa using h1
          have h3 : listed.getD j false = listed.toList[j] := by simp [Array.getD_eq_getD_getElem?, hj]
          by_cases hjm : j < m
          · rw [List.getElem_append_left (by simpa using hjm), List.getElem_replicate, ← h3]; exact hall j hjm
          · rw [List.getElem_append_right (by simp; omega), List.getElem_replicate, ← h3]
            have := hno j (by omega)
            unfold Listed at this
            simpa using this
      unfold unl
      rw [hl, List.countP_append, List.countP_replicate, List.countP_replicate]
      simp; omega
    refine wpAny_tail hch hlo f m listed a w (by omega) (Nat.le_refl m) hs (fun i hi' => ⟨fun h => ?_, fun h => hall i h⟩) (hend r a w hi ⟨hfl.size, fun t => ?_, fun vs hm => ?_⟩ hd hx)
    case refine_3 =>
      refine hfl.defs vs (ovlN m (Nat.le_refl _) vs ?_)
      rw [show vals.take m = vals from List.take_of_length_le (by omega)]
      exact hm
    · rcases Nat.lt_or_ge i m with h' | h'
      · exact h'
      · exact absurd h (hno i h')
    · rcases ovl_get (ops.toList.take m) vals fr t (by simp [hlen]; omega) with ⟨i, o, v, h1, h2, h3, h4⟩ | ⟨h1, h2⟩
      · rw [h4]
        have him : i < m := by
          rcases Nat.lt_or_ge i m with h' | h'
          · exact h'
          · rw [List.getElem?_eq_none (by simp; omega)] at h1; cases h1
        rw [List.getElem?_take_of_lt him] at h1
        exact hfl.done i t v him (hall i him) (by simp [dstOf, h1, h2]) h3
      · rw [h2]
        refine hfl.rest t (fun j hj _ hdj => ?_)
        obtain ⟨o, ho, hod⟩ := Option.bind_eq_some_iff.1 hdj
        exact h1 j o (by rw [List.getElem?_take_of_lt hj]; exact ho) hod
  intro f
  induction f with
  | zero =>
    intro listed r a w hs hf hdn hno hfl hi hd hx
    refine fin 0 listed r a w hs hf (fun j hj => ?_) hno hfl hi hd hx
    rcases hb : listed.getD j false with _ | _
    · have := unl_set (by omega) hb
      omega
    · exact hb
  | succ f ih =>
    intro listed r a w hs hf hdn hno hfl hi hd hx
    by_cases hall : ∀ j, j < m → Listed listed j
    · exact fin (f + 1) listed r a w hs hf hall hno hfl hi hd hx
    have hex : ∃ j, j < m ∧ ¬ Listed listed j := by
      apply Classical.byContradiction
      intro h
      exact hall (fun j hj => Classical.byContradiction fun hl => h ⟨j, hj, hl⟩)
    refine ⟨fun h0 => ?_, fun i hir => ?_⟩
    · obtain ⟨j, h1, h2, h3⟩ := exists_least m hex
      have hjr : j ∈ Region.ready .any ops listed := by
        refine mem_ready.2 ⟨?_, ops[j]'(by omega), Array.getElem?_eq_getElem _, fun e he hb => ?_⟩
        · rw [listed_true (by omega)]; simpa [Listed] using h2
        · have h4 : e.on < j := hlo j e.on (edge_iff.2 ⟨ops[j]'(by omega), Array.getElem?_eq_getElem _, e, he, hb, rfl⟩)
          exact Classical.byContradiction fun h5 => h3 e.on h4 h5
      rw [h0] at hjr; cases hjr
    · obtain ⟨h0, o, ho, hedges⟩ := mem_ready.1 hir
      have hilt := (Array.getElem?_eq_some_iff.1 ho).1
      rw [listed_true (by omega)] at h0
      have hed : ∀ j, edge ops.toList i j = true → Listed listed j := by
        intro j hj
        obtain ⟨o', ho', e, he, hb, hon⟩ := edge_iff.1 hj
        rw [ho] at ho'; cases ho'
        rw [← hon]; exact hedges e he hb
      have him : i < m := by
        rcases Nat.lt_or_ge i m with h' | h'
        · exact h'
        · exfalso
          rcases Nat.eq_or_lt_of_le h' with h'' | h''
          · subst h''
            refine hall (fun j hj => ?_)
            have key : ∀ d j, d + j = m → j < m → Listed listed j := by
              intro d
              induction d using Nat.strongRecOn with
              | _ d ihd =>
                intro j hdj hj
                obtain ⟨k, h1, h2, h3⟩ := hcl hilt j hj
                rcases Nat.eq_or_lt_of_le h2 with h4 | h4
                · subst h4; exact hed j h3
                · exact hdn k j (ihd (m - k) (by omega) k (by omega) h4) h3
            exact key (m - j) j (by omega) hj
          · exact hno (i - 1) (by omega) (hed _ (hch i h'' hilt))
      have hol : ops.toList[i]? = some o := by simpa using ho
      obtain ⟨v, hv⟩ : ∃ v, vals[i]? = some v := ⟨vals[i]'(by omega), List.getElem?_eq_getElem _⟩
      have hX : StepX cx n ops (hpC σ σ' jc listed) (hpC σ σ' jc (listed.setIfInBounds i true)) K (restr ops.toList o (ovl (ops.toList.take i) (vals.take i) fr)) o v := by
        by_cases hij : i = jc
        · subst hij
          rw [hpC_out h0, hpC_set (by omega)]
          exact (hstep i o v him hol hv).2 rfl
        · rw [hpC_same (by omega) hij]
          exact (hstep i o v him hol hv).1 hij (listed.getD jc false)
      obtain ⟨hdst, hst⟩ := hX
      have hnl : ¬ Listed listed i := by simp [Listed, h0]
      have hfr : FRel r w n (restr ops.toList o (ovl (ops.toList.take i) (vals.take i) fr)) a := by
        refine ⟨hfl.size, fun t => ?_, fun vs hm => ?_⟩
        case refine_2 =>
          unfold restr at hm
          rcases restr_get (slotsOf ops.toList o) (ovl (ops.toList.take i) (vals.take i) fr) n with h | ⟨h1, h2⟩
          · rw [h] at hm; cases hm
          · rw [h2] at hm
            exact hfl.defs vs (ovlN i (by omega) vs hm)
        unfold restr
        rcases restr_get (slotsOf ops.toList o) (ovl (ops.toList.take i) (vals.take i) fr) t with h | ⟨h1, h2⟩
        · rw [h]; exact .top
        · rw [h2]
          have hro := hread i o t him hol h1
          have hrd : ∀ i', i' < m → dstOf ops.toList i' = some t → (i' < i → edge ops.toList i i' = true) ∧ (i < i' → edge ops.toList i' i = true) := by
            intro i' hi' hd'
            have := allB_mem hro _ (List.mem_map.2 ⟨i', List.mem_range.2 hi', rfl⟩)
            rw [eqDst_iff.2 hd'] at this
            simp only at this
            constructor
            · intro hlt
              rw [lt_blt hlt] at this
              exact this
            · intro hlt
              rw [show Nat.blt i' i = false by cases hbb : Nat.blt i' i with | false => rfl | true => (have := blt_lt hbb; omega), show Nat.beq i' i = false by cases hbb : Nat.beq i' i with | false => rfl | true => (have := Nat.eq_of_beq_eq_true hbb; omega)] at this
              exact this
          rcases ovl_get (ops.toList.take i) (vals.take i) fr t (by simp [hlen]; omega) with ⟨i', o', v', k1, k2, k3, k4⟩ | ⟨k1, k2⟩
          · rw [k4]
            have hi'i : i' < i := by
              rcases Nat.lt_or_ge i' i with h' | h'
              · exact h'
              · rw [List.getElem?_eq_none (by simp; omega)] at k1; cases k1
            rw [List.getElem?_take_of_lt hi'i] at k1 k3
            have hd' : dstOf ops.toList i' = some t := by simp only [dstOf, k1, Option.bind_some, k2]
            exact hfl.done i' t v' (by omega) (hed _ ((hrd i' (by omega) hd').1 hi'i)) hd' k3
          · rw [k2]
            refine hfl.rest t (fun j hj hlj hdj => ?_)
            rcases Nat.lt_trichotomy j i with h' | h' | h'
            · obtain ⟨oj, hoj, hod⟩ := Option.bind_eq_some_iff.1 hdj
              exact k1 j oj (by rw [List.getElem?_take_of_lt h']; exact hoj) hod
            · subst h'; exact hnl hlj
            · exact hnl (hdn j i hlj ((hrd j hj hdj).2 h'))
      have next : ∀ (r' : Rl) (w' : World) (v' : Value), VRel r' w' v' v → Inv cx r' (hpC σ σ' jc (listed.setIfInBounds i true)) w' → Ext r (hpC σ σ' jc listed) w r' (hpC σ σ' jc (listed.setIfInBounds i true)) w' → wpAny cx.P .any ops Q' f (listed.setIfInBounds i true) (a.put o.dst v') w' := by
        intro r' w' v' hv' hi' hx'
        have hun := unl_set (by omega) h0
        refine ih _ r' _ w' (by simpa using hs) (by omega) (fun j l hj he => ?_) (fun j hj hl => ?_) ⟨?_, fun j d u hj hl hdj hu => ?_, fun t ht => ?_, fun vs hm => by rw [Act.put_defers]; exact (hfl.defs vs hm).mono (hx'.grow hi)⟩ hi' (hd.put _ _) (hx.trans hx')
        · rw [listed_set (by omega)] at hj ⊢
          rcases hj with rfl | hj
          · exact .inr (hed l he)
          · exact .inr (hdn j l hj he)
        · rw [listed_set (by omega)] at hl
          rcases hl with rfl | hl
          · omega
          · exact hno j hj hl
        · cases hod : o.dst <;> simp [Act.put, hfl.size]
        · have hg := hx'.grow hi
          rw [listed_set (by omega)] at hl
          by_cases hji : j = i
          · subst hji
            rw [hv] at hu; cases hu
            have hod : o.dst = some d := by simpa [dstOf, hol] using hdj
            rw [hod]
            rw [hod] at hdst
            simp only [Act.put]
            rw [getD_setIfInBounds (by rw [hfl.size]; exact blt_lt hdst), if_pos rfl]
            exact hv'
          · have hl' := hl.resolve_left hji
            have hold := (hfl.done j d u hj hl' hdj hu).mono hg
            cases hod : o.dst with
            | none => exact hold
            | some d' =>
              have hne : d' ≠ d := fun e => hji (huniq j i d hj him hdj (by subst e; simp [dstOf, hol, hod]))
              rw [hod] at hdst
              simp only [Act.put]
              rw [getD_setIfInBounds (by rw [hfl.size]; exact blt_lt hdst), if_neg hne]
              exact hold
        · have hg := hx'.grow hi
          have hold := (hfl.rest t (fun j hj hl => ht j hj ((listed_set (by omega)).2 (.inr hl)))).mono hg
          have hti := ht i him ((listed_set (by omega)).2 (.inl rfl))
          cases hod : o.dst with
          | none => exact hold
          | some d' =>
            have hne : d' ≠ t := fun e => hti (by subst e; simp [dstOf, hol, hod])
            rw [hod] at hdst
            simp only [Act.put]
            rw [getD_setIfInBounds (by rw [hfl.size]; exact blt_lt hdst), if_neg hne]
            exact hold
      unfold wpOp
      simp only [ho]
      rcases hst with ⟨hg, rfl, hσ⟩ | ⟨hg, hgo⟩
      · rw [guardA_wanted (cx := cx) hfr hg]
        simp only [Bool.false_eq_true, if_false]
        exact next r w undef (.tup rfl (fun i h => absurd h (by simp))) (by rw [hσ]; exact hi) (by rw [hσ]; exact Ext.refl _ _ _)
      · rw [guardA_wanted (cx := cx) hfr hg]
        simp only [if_true]
        refine .inl (Oper.wp_mono (fun a' w' h => ?_) (hgo r a w hi hfr Q'))
        obtain ⟨r', v', rfl, h2, h3, h4⟩ := h
        exact next r' w' v' h2 h3 h4
def noA : List Nat → Bool
  | [] => false
  | n :: _ => Nat.beq n 1000001
def aOpK (cx : Cx) (K : List Nat) (dst : Option Nat) (o : Op) (fr : Fr) (σ : Heap) : Option (List Prop × AV × Heap) := match noA K with
  | true => none
  | false => aOp cx [] dst o fr σ
theorem aOpK_some {cx : Cx} {K : List Nat} {dst : Option Nat} {o : Op} {fr : Fr} {σ : Heap} {y : List Prop × AV × Heap} (h : aOpK cx K dst o fr σ = some y) : aOp cx [] dst o fr σ = some y := by
  unfold aOpK at h
  split at h
  · cases h
  · exact h
def runC (cx : Cx) (K : List Nat) (n : Nat) (all : Array Oper) (ops : List Oper) (σ σ' : Heap) (jc : Nat) : List Oper → Nat → Fr → List AV → Option (List Prop × List AV × Fr)
  | [], _, fr, rs => some ([], [], fr)
  | o :: r, i, fr, rs => match Nat.beq i jc with
    | true => match rs with
      | v :: rs => match dstOk n o.dst with
        | true => match guardA all o K (restr ops o fr) with
          | some true => match callA cx (restr ops o fr) o.op with
            | some (f, args) => match runC cx K n all ops σ σ' jc r (i + 1) (setA o.dst v fr) rs with
              | some (D, vs, fr') => some ((∃ args', CallOk cx f args' σ (fun out σ1 => out = .ret v ∧ σ1 = σ') ∧ args = args') :: D, v :: vs, fr')
              | none => none
            | none => match aOpK cx K o.dst o.op (restr ops o fr) σ with
              | some (C', v', σ1) => match runC cx K n all ops σ σ' jc r (i + 1) (setA o.dst v fr) rs with
                | some (D, vs, fr') => some (C' ++ ((v' = v) :: (σ1 = σ') :: D), v :: vs, fr')
                | none => none
              | none => match runC cx K n all ops σ σ' jc r (i + 1) (setA o.dst v fr) rs with
                | some (D, vs, fr') => some ((OpSpec cx n (restr ops o fr) σ o v σ') :: D, v :: vs, fr')
                | none => none
          | _ => none
        | false => none
      | [] => none
    | false => match oneD cx K n all σ o (restr ops o fr) rs with
      | some (C, v, rs') => match oneD cx K n all σ' o (restr ops o fr) rs with
        | some (C', v', _) => forceV v fun v => match runC cx K n all ops σ σ' jc r (i + 1) (setA o.dst v fr) rs' with
          | some (D, vs, fr') => some (C ++ (C' ++ ((v' = v) :: D)), v :: vs, fr')
          | none => none
        | none => none
      | none => none
theorem callC_step {σ' : Heap} {K : List Nat} {all : Array Oper} {o : Oper} {f : FuncId} {args : List AV} {v : AV} (hd : dstOk n o.dst = true) (hg : guardA all o K fr = some true) (hc : callA cx fr o.op = some (f, args))
    (h : CallOk cx f args σ (fun out σ1 => out = .ret v ∧ σ1 = σ')) : StepX cx n all σ σ' K fr o v := by
  refine ⟨hd, .inr ⟨hg, fun r a w hi hf Q => ?_⟩⟩
  obtain ⟨vs, h1, h2⟩ := callA_run hi hf hc h.1
  unfold Oper.wp
  rw [h1, Oper.upon_enter]
  refine (h.2 r w vs hi h2).mono fun e w' ⟨out, σ1, r', ⟨ho, hσ⟩, hor, hi', hx'⟩ => ?_
  subst ho; subst hσ
  cases e with
  | returned u => exact ⟨r', u, rfl, hor, hi', hx'⟩
  | panicked chain => exact hor.elim
  | outgrown => exact hor.elim
theorem opC_step {σ' : Heap} {K : List Nat} {all : Array Oper} {o : Oper} {C : List Prop} {v : AV} (hd : dstOk n o.dst = true) (hg : guardA all o K fr = some true) (ha : aOp cx [] o.dst o.op fr σ = some (C, v, σ')) (hC : AllP C) : StepX cx n all σ σ' K fr o v := by
  refine ⟨hd, .inr ⟨hg, fun r a w hi hf Q => ?_⟩⟩
  obtain ⟨r', w', v', hrun, hv, hi', hx'⟩ := aOp_run hi hf ha hC
  unfold Oper.wp
  rcases hrun with hrun | ⟨hrun, hu⟩
  · rw [hrun]; exact ⟨r', v', rfl, hv, hi', hx'⟩
  · rw [hrun]; subst hu; exact ⟨r', _, rfl, hv, hi', hx'⟩
theorem specC_step {σ' : Heap} {K : List Nat} {all : Array Oper} {o : Oper} {v : AV} (hd : dstOk n o.dst = true) (hg : guardA all o K fr = some true) (h : OpSpec cx n fr σ o v σ') : StepX cx n all σ σ' K fr o v := by
  refine ⟨hd, .inr ⟨hg, fun r a w hi hf Q => ?_⟩⟩
  obtain ⟨r', w', v', hrun, hv, hi', hx'⟩ := h r a w hi hf
  unfold Oper.wp
  rcases hrun with hrun | ⟨hrun, hu⟩
  · rw [hrun]; exact ⟨r', v', rfl, hv, hi', hx'⟩
  · rw [hrun]; subst hu; exact ⟨r', _, rfl, hv, hi', hx'⟩
theorem runC_spec {σ' : Heap} {jc : Nat} {K : List Nat} {all : Array Oper} {ops : List Oper} : ∀ {l : List Oper} {i : Nat} {fr fr' : Fr} {rs vals : List AV} {C : List Prop}, runC cx K n all ops σ σ' jc l i fr rs = some (C, vals, fr') → AllP C →
    vals.length = l.length ∧ fr' = ovl l vals fr ∧ ∀ (j : Nat) (o : Oper) (v : AV), l[j]? = some o → vals[j]? = some v →
      (i + j ≠ jc → ∀ b : Bool, StepX cx n all (bif b then σ' else σ) (bif b then σ' else σ) K (restr ops o (ovl (l.take j) (vals.take j) fr)) o v) ∧ (i + j = jc → StepX cx n all σ σ' K (restr ops o (ovl (l.take j) (vals.take j) fr)) o v)
  | [], i, fr, fr', rs, vals, C, h, hC => by
    simp only [runC, Option.some.injEq, Prod.mk.injEq] at h
    obtain ⟨rfl, rfl, rfl⟩ := h
    exact ⟨rfl, rfl, fun j o v h => by simp at h⟩
  | o :: l, i, fr, fr', rs, vals, C, h, hC => by
    simp only [runC] at h
    split at h
    · rename_i hb
      have hij : i = jc := Nat.eq_of_beq_eq_true hb
      split at h
      case h_2 => cases h
      rename_i v rs'
      split at h
      case h_2 => cases h
      rename_i hds
      split at h
      case h_2 => cases h
      rename_i hg
      split at h
      case h_2 =>
        split at h
        case h_2 =>
          split at h
          case h_2 => cases h
          rename_i D vs fr1 h2
          simp only [Option.some.injEq, Prod.mk.injEq] at h
          obtain ⟨rfl, rfl, rfl⟩ := h
          obtain ⟨hsp, hD⟩ := hC
          obtain ⟨k1, k2, k3⟩ := runC_spec h2 hD
          refine ⟨by simp [k1], by rw [k2]; rfl, fun j oj vj hj hvj => ?_⟩
          cases j with
          | zero =>
            simp only [List.getElem?_cons_zero, Option.some.injEq] at hj hvj
            subst hj; subst hvj
            exact ⟨fun h => absurd hij h, fun _ => specC_step hds hg hsp⟩
          | succ j =>
            simp only [List.getElem?_cons_succ] at hj hvj
            have := k3 j oj vj hj hvj
            rw [show i + 1 + j = i + (j + 1) by omega] at this
            exact this
        rename_i C' v' σ1 ha
        have ha := aOpK_some ha
        split at h
        case h_2 => cases h
        rename_i D vs fr1 h2
        simp only [Option.some.injEq, Prod.mk.injEq] at h
        obtain ⟨rfl, rfl, rfl⟩ := h
        obtain ⟨hC', hv, hσ, hD⟩ := AllP_append hC
        subst hv; subst hσ
        obtain ⟨k1, k2, k3⟩ := runC_spec h2 hD
        refine ⟨by simp [k1], by rw [k2]; rfl, fun j oj vj hj hvj => ?_⟩
        cases j with
        | zero =>
          simp only [List.getElem?_cons_zero, Option.some.injEq] at hj hvj
          subst hj; subst hvj
          exact ⟨fun h => absurd hij h, fun _ => opC_step hds hg ha hC'⟩
        | succ j =>
          simp only [List.getElem?_cons_succ] at hj hvj
          have := k3 j oj vj hj hvj
          rw [show i + 1 + j = i + (j + 1) by omega] at this
          exact this
      rename_i f args hc
      split at h
      case h_2 => cases h
      rename_i D vs fr1 h2
      simp only [Option.some.injEq, Prod.mk.injEq] at h
      obtain ⟨rfl, rfl, rfl⟩ := h
      obtain ⟨⟨args', hcall, rfl⟩, hD⟩ := hC
      obtain ⟨k1, k2, k3⟩ := runC_spec h2 hD
      refine ⟨by simp [k1], by rw [k2]; rfl, fun j oj vj hj hvj => ?_⟩
      cases j with
      | zero =>
        simp only [List.getElem?_cons_zero, Option.some.injEq] at hj hvj
        subst hj; subst hvj
        exact ⟨fun h => absurd hij h, fun _ => callC_step hds hg hc hcall⟩
      | succ j =>
        simp only [List.getElem?_cons_succ] at hj hvj
        have := k3 j oj vj hj hvj
        rw [show i + 1 + j = i + (j + 1) by omega] at this
        exact this
    · rename_i hb
      have hij : i ≠ jc := fun e => by rw [e, Nat.beq_refl] at hb; cases hb
      split at h
      case h_2 => cases h
      rename_i C1 v rs' h1
      split at h
      case h_2 => cases h
      rename_i C1' v' _ h1'
      rw [forceV_eq] at h
      split at h
      case h_2 => cases h
      rename_i D vs fr1 h2
      simp only [Option.some.injEq, Prod.mk.injEq] at h
      obtain ⟨rfl, rfl, rfl⟩ := h
      obtain ⟨hC1, hD1⟩ := AllP_append hC
      obtain ⟨hC1', hD2⟩ := AllP_append hD1
      obtain ⟨hv, hD⟩ := hD2
      subst hv
      obtain ⟨k1, k2, k3⟩ := runC_spec h2 hD
      refine ⟨by simp [k1], by rw [k2]; rfl, fun j oj vj hj hvj => ?_⟩
      cases j with
      | zero =>
        simp only [List.getElem?_cons_zero, Option.some.injEq] at hj hvj
        subst hj; subst hvj
        refine ⟨fun _ b => ?_, fun h => absurd h hij⟩
        cases b with
        | true => exact (oneD_spec h1' hC1').x
        | false => exact (oneD_spec h1 hC1).x
      | succ j =>
        simp only [List.getElem?_cons_succ] at hj hvj
        have := k3 j oj vj hj hvj
        rw [show i + 1 + j = i + (j + 1) by omega] at this
        exact this
theorem S_drawC {id : Nat} (σ' : Heap) (jc : Nat) {ops : Array Oper} {vals : List AV} {C : List Prop} {fr' : Fr} (m : Nat) (K : List Nat) (rs : List AV) (hP : cx.P.follows .mixedOrders = true) (hchk : drawOk ops.toList m = true) (hmN : Nat.ble m ops.size = true) (hjc : Nat.blt jc m = true)
    (hrun : runC cx K n ops ops.toList σ σ' jc (ops.toList.take m) 0 fr rs = some (C, vals, fr')) (hC : AllP C)
    (hk : S cx n B (.ops ops (ops.toList.drop m) [] :: k) Q fr' σ') : S cx n B (.code (.region id ops true) :: k) Q fr σ := by
  intro r a w hi hf hd hx
  obtain ⟨c1, c2, c3, c4, c5⟩ := drawOk_spec hchk
  obtain ⟨k1, k2, k3⟩ := runC_spec hrun hC
  have hmN' := Nat.le_of_ble_eq_true hmN
  have hlen : vals.length = m := by rw [k1]; simp; omega
  obtain ⟨hi1, hx1⟩ := hi.heap_eq (w' := { w with drawn := w.drawn + 1 }) rfl rfl rfl rfl
  have hf1 := hf.mono (hx1.grow hi)
  have nl : ∀ {j : Nat}, ¬ Listed (Array.replicate ops.size false) j := by
    intro j hj
    unfold Listed at hj
    rw [Array.getD_eq_getD_getElem?, Array.getElem?_replicate] at hj
    split at hj <;> simp at hj
  have h0 : hpC σ σ' jc (Array.replicate ops.size false) = σ := hpC_out (by
    cases hb : (Array.replicate ops.size false).getD jc false with
    | false => rfl
    | true => exact absurd hb nl)
  refine wp_region_any hP ?_
  refine wpAny_frontC (σ' := σ') (jc := jc) (cx := cx) (n := n) (B := B) (fr := fr) (σ := σ) (m := m) (vals := vals) (K := K) (blt_lt hjc) hmN' hlen c1 c2 c3 c4 c5 (fun j o v hj ho hv => ?_) (fun r a w hi hf hd hx => ?_) ops.size _ r a _ (by simp) ?_ (fun j i hj => ?_) (fun j _ => ?_) ⟨hf1.size, fun j d v _ hj => ?_, fun t _ => hf1.get t, hf1.defs⟩ (by rw [h0]; exact hi1) hd (by rw [h0]; exact hx.trans hx1)
  · have h := k3 j o v (by rw [List.getElem?_take_of_lt hj]; exact ho) hv
    rw [List.take_take, Nat.min_eq_left (by omega), Nat.zero_add] at h
    exact h
  · rw [k2] at hk
    exact hk r a w hi hf hd hx
  · unfold unl; simp [List.countP_replicate]
  · exact absurd hj nl
  · exact nl
  · exact absurd hj nl
def normC (x : Option (List Prop × List AV × Fr)) : Option (List Prop × List AV × Fr) := match x with
  | some (C, v, f) => forceL C fun C => some (C, v, f)
  | none => none
theorem normC_eq (x : Option (List Prop × List AV × Fr)) : normC x = x := by
  unfold normC
  split
  · rw [forceL_eq]
  · rfl
theorem S_drawCN {id : Nat} (σ' : Heap) (jc : Nat) {ops : Array Oper} {vals : List AV} {C : List Prop} {fr' : Fr} (m : Nat) (K : List Nat) (rs : List AV) (hP : cx.P.follows .mixedOrders = true) (hchk : drawOk ops.toList m = true) (hmN : Nat.ble m ops.size = true) (hjc : Nat.blt jc m = true)
    (hrun : normC (runC cx K n ops ops.toList σ σ' jc (ops.toList.take m) 0 fr rs) = some (C, vals, fr')) (hC : AllP C)
    (hk : S cx n B (.ops ops (ops.toList.drop m) [] :: k) Q fr' σ') : S cx n B (.code (.region id ops true) :: k) Q fr σ :=
  S_drawC σ' jc m K rs hP hchk hmN hjc (by rw [← normC_eq (runC cx K n ops ops.toList σ σ' jc (ops.toList.take m) 0 fr rs)]; exact hrun) hC hk
end
end Go.Ab
end
section
set_option linter.unusedVariables false
set_option linter.unusedSimpArgs false
namespace Go.Ab
open Go
theorem AllP_cons {p : Prop} {r : List Prop} (h : p) (hr : AllP r) : AllP (p :: r) := ⟨h, hr⟩
theorem aC {p : Prop} (h : p := by first | exact trivial | assumption | omega | rfl | exact decide_eq_true (by omega) | exact decide_eq_false (by omega) | (rw [IntWalk.i64_in _ ⟨by omega, by omega⟩]; omega) | exact allOne_mem rfl | exact Nat.le_of_ble_eq_true rfl | (simp only [List.length_cons, List.length_nil]; omega)) : p := h
theorem fl {p : Prop} (h : p := by (simp only [List.length_append, List.length_cons, List.length_nil, List.flatten_append, List.flatten_cons, List.flatten_nil, List.append_nil] at * <;> omega)) : p := h
inductive Ht where
  | k (x : AV)
  | v (x : AV)
  | c (x : AV) (σ : Heap)
  | b (t : Bool)
  | f (x : AV) (g : Heap → Heap)
  | d (jc m : Nat) (K : List Nat) (g : Heap → Heap) (rs : List AV)
  | o (x : AV) (g : Heap → Heap)
  | s
def stopH : List Ht → Bool
  | .s :: _ => true
  | _ => false
def chgOp : Op → Bool
  | .alloc _ => true
  | .box .. => true
  | .store .. => true
  | .makeSlice .. => true
  | .range .. => true
  | .makeMap .. => true
  | .mapUpdate .. => true
  | .mapEntry .. => true
  | .entryStore .. => true
  | .next .. => true
  | .call { callee := .builtin b, .. } => match b with
    | .append | .copy | .delete | .clear => true
    | _ => false
  | _ => false
def outH : List Ht → Option (AV × (Heap → Heap) × List Ht)
  | .o x g :: hs => some (x, g, hs)
  | _ => none
def isGuard (ops : List Oper) (i : Nat) : Bool := match ops with
  | [] => false
  | o :: r => match o.guard with
    | some (j, _) => Nat.beq i j || isGuard r i
    | none => isGuard r i
def guardKs (ops : List Oper) : List Oper → List Nat
  | [] => []
  | o :: r => match o.guard with
    | some (j, _) => match dstOf ops j with
      | some d => d :: guardKs ops r
      | none => guardKs ops r
    | none => guardKs ops r
def rsOf : List Ht → List AV
  | .v r :: _ => [r]
  | _ => []
def tailIf (hs : List Ht) (rs' : List AV) : List Ht := match rs' with
  | [] => match hs with
    | .v _ :: hs => hs
    | hs => hs
  | _ :: _ => hs
section
variable {cx : Cx} {n : Nat} {B : Bs} {k : List AI} {Q : Post} {fr : Fr} {σ : Heap}
def plainOp : Op → Bool
  | .call _ => false
  | .indexAddr .. => false
  | _ => true
def oneH (cx : Cx) (K : List Nat) (n : Nat) (all : Array Oper) (σ : Heap) (o : Oper) (fr : Fr) (hs : List Ht) : Option (List Prop × AV × List Ht) :=
  match chgOp o.op with
  | true => none
  | false => match plainOp o.op with
    | true => match dstOk n o.dst with
      | true => match guardA all o K fr with
        | some true => match aPure cx o.op fr σ with
          | some (C, v) => some (C, v, hs)
          | none => match oneD cx K n all σ o fr (rsOf hs) with
            | some (C, v, rs') => some (C, v, tailIf hs rs')
            | none => none
        | some false => some ([], .tup [], hs)
        | none => none
      | false => none
    | false => match hs with
      | .k x :: hs => match dstOk n o.dst with
        | true => match guardA all o K fr with
          | some true => match callA cx fr o.op with
            | some (f, args) => some ([CallOk cx f args σ (fun e s => e = .ret x ∧ s = σ)], x, hs)
            | none => none
          | some false => some ([], .tup [], .k x :: hs)
          | none => none
        | false => none
      | hs => match oneD cx K n all σ o fr (rsOf hs) with
        | some (C, v, rs') => some (C, v, tailIf hs rs')
        | none => none
theorem oneH_spec {K : List Nat} {all : Array Oper} {o : Oper} {fr : Fr} {hs hs' : List Ht} {C : List Prop} {v : AV} (h : oneH cx K n all σ o fr hs = some (C, v, hs')) (hC : AllP C) : StepD cx n all σ K fr o v := by
  unfold oneH at h
  have key : ∀ {x : Option (List Prop × AV × List Ht)}, (x = match oneD cx K n all σ o fr (rsOf hs) with | some (C, v, rs') => some (C, v, tailIf hs rs') | none => none) → x = some (C, v, hs') → StepD cx n all σ K fr o v := by
    intro x hx h1
    rw [h1] at hx
    split at hx
    · rename_i C' v' rs' hd
      simp only [Option.some.injEq, Prod.mk.injEq] at hx
      obtain ⟨rfl, rfl, rfl⟩ := hx
      exact oneD_spec hd hC
    · cases hx
  split at h
  · cases h
  split at h
  · split at h
    · rename_i hdst
      split at h
      · rename_i hg
        split at h
        · rename_i C' v' hp
          simp only [Option.some.injEq, Prod.mk.injEq] at h
          obtain ⟨rfl, rfl, rfl⟩ := h
          refine ⟨hdst, .inr ⟨hg, fun r a w hi hf Q => ?_⟩⟩
          obtain ⟨u, h1, h2⟩ := aPure_run hi hf hp hC
          unfold Oper.wp
          rw [h1]
          exact ⟨r, u, rfl, h2, hi, Ext.refl r σ w⟩
        · exact key rfl h
      · rename_i hg
        simp only [Option.some.injEq, Prod.mk.injEq] at h
        obtain ⟨rfl, rfl, rfl⟩ := h
        exact ⟨hdst, .inl ⟨hg, rfl⟩⟩
      · cases h
    · cases h
  · split at h
    · rename_i x hs1
      split at h
      · rename_i hdst
        split at h
        · rename_i hg
          split at h
          · rename_i f args hc
            simp only [Option.some.injEq, Prod.mk.injEq] at h
            obtain ⟨rfl, rfl, rfl⟩ := h
            refine ⟨hdst, .inr ⟨hg, fun r a w hi hf Q => ?_⟩⟩
            obtain ⟨vs, h1, h2⟩ := callA_run hi hf hc hC.1.1
            unfold Oper.wp
            rw [h1, Oper.upon_enter]
            refine (hC.1.2 r w vs hi h2).mono fun e w' ⟨out, σ', r1, ⟨ho, hσ'⟩, hor, hi1, hx1⟩ => ?_
            subst ho; subst hσ'
            cases e with
            | returned u => exact ⟨r1, u, rfl, hor, hi1, hx1⟩
            | panicked chain => exact hor.elim
            | outgrown => exact hor.elim
          · cases h
        · rename_i hg
          simp only [Option.some.injEq, Prod.mk.injEq] at h
          obtain ⟨rfl, rfl, rfl⟩ := h
          exact ⟨hdst, .inl ⟨hg, rfl⟩⟩
        · cases h
      · cases h
    · exact key rfl h
structure Hd where
  C : List Prop
  vals : List AV
  fr : Fr
  m : Nat
  hs : List Ht
def runH (cx : Cx) (K : List Nat) (n : Nat) (all : Array Oper) (ops : List Oper) (σ : Heap) : List Oper → Nat → Fr → List Ht → Hd
  | [], i, fr, hs => ⟨[], [], fr, i, hs⟩
  | o :: r, i, fr, hs => match oneH cx K n all σ o (restr ops o fr) hs with
    | none => ⟨[], [], fr, i, hs⟩
    | some (C, v, hs') => match isGuard ops i with
      | false => forceV v fun v => match runH cx K n all ops σ r (i + 1) (setA o.dst v fr) hs' with
        | ⟨D, vs, fr', m, hs''⟩ => ⟨C ++ D, v :: vs, fr', m, hs''⟩
      | true => match v with
        | .bool b => match hs' with
          | .b t :: hs' => match runH cx K n all ops σ r (i + 1) (setA o.dst (.bool t) fr) hs' with
            | ⟨D, vs, fr', m, hs''⟩ => ⟨C ++ ((b = t) :: D), .bool t :: vs, fr', m, hs''⟩
          | _ => ⟨[], [], fr, i, hs⟩
        | .tup us => match runH cx K n all ops σ r (i + 1) (setA o.dst (.tup us) fr) hs' with
          | ⟨D, vs, fr', m, hs''⟩ => ⟨C ++ D, .tup us :: vs, fr', m, hs''⟩
        | _ => ⟨[], [], fr, i, hs⟩
def runHK {α : Type} (cx : Cx) (K : List Nat) (n : Nat) (all : Array Oper) (ops : List Oper) (σ : Heap) : List Oper → Nat → Fr → List Ht → (List Prop → List AV → Fr → Nat → List Ht → α) → α
  | [], i, fr, hs, c => c [] [] fr i hs
  | o :: r, i, fr, hs, c => match oneH cx K n all σ o (restr ops o fr) hs with
    | none => c [] [] fr i hs
    | some (C, v, hs') => match isGuard ops i with
      | false => forceV v fun v => runHK cx K n all ops σ r (i + 1) (setA o.dst v fr) hs' fun D vs fr' m hs'' => c (C ++ D) (v :: vs) fr' m hs''
      | true => match v with
        | .bool b => match hs' with
          | .b t :: hs' => runHK cx K n all ops σ r (i + 1) (setA o.dst (.bool t) fr) hs' fun D vs fr' m hs'' => c (C ++ ((b = t) :: D)) (.bool t :: vs) fr' m hs''
          | _ => c [] [] fr i hs
        | .tup us => runHK cx K n all ops σ r (i + 1) (setA o.dst (.tup us) fr) hs' fun D vs fr' m hs'' => c (C ++ D) (.tup us :: vs) fr' m hs''
        | _ => c [] [] fr i hs
theorem runHK_eq {α : Type} {K : List Nat} {all : Array Oper} {ops : List Oper} : ∀ (l : List Oper) (i : Nat) (fr : Fr) (hs : List Ht) (c : List Prop → List AV → Fr → Nat → List Ht → α),
    runHK cx K n all ops σ l i fr hs c = c (runH cx K n all ops σ l i fr hs).C (runH cx K n all ops σ l i fr hs).vals (runH cx K n all ops σ l i fr hs).fr (runH cx K n all ops σ l i fr hs).m (runH cx K n all ops σ l i fr hs).hs
  | [], i, fr, hs, c => rfl
  | o :: l, i, fr, hs, c => by
    unfold runHK runH
    split
    · rfl
    · split
      · simp only [forceV_eq]
        rw [runHK_eq l]
      · split
        · split
          · rw [runHK_eq l]
          · rfl
        · rw [runHK_eq l]
        · rfl
def HdOk (cx : Cx) (K : List Nat) (n : Nat) (all : Array Oper) (ops : List Oper) (σ : Heap) (l : List Oper) (i : Nat) (fr : Fr) (H : Hd) : Prop :=
  i ≤ H.m ∧ H.m - i ≤ l.length ∧ H.vals.length = H.m - i ∧ H.fr = ovl (l.take (H.m - i)) H.vals fr ∧
    ∀ (j : Nat) (o : Oper) (v : AV), j < H.m - i → l[j]? = some o → H.vals[j]? = some v → StepD cx n all σ K (restr ops o (ovl (l.take j) (H.vals.take j) fr)) o v
theorem HdOk.stop {K : List Nat} {all : Array Oper} {ops l : List Oper} {i : Nat} {fr : Fr} {hs : List Ht} : HdOk cx K n all ops σ l i fr ⟨[], [], fr, i, hs⟩ := by
  refine ⟨Nat.le_refl _, ?_, ?_, ?_, fun j o v h => ?_⟩
  · show i - i ≤ _; omega
  · show 0 = i - i; omega
  · show fr = ovl (l.take (i - i)) [] fr
    rw [Nat.sub_self]; rfl
  · exfalso; have h : j < i - i := h; omega
theorem HdOk.cons {K : List Nat} {all : Array Oper} {ops l : List Oper} {o : Oper} {i : Nat} {fr fr1 : Fr} {v : AV} {D E : List Prop} {vs : List AV} {m : Nat} {hs : List Ht}
    (h1 : StepD cx n all σ K (restr ops o fr) o v) (h : HdOk cx K n all ops σ l (i + 1) (setA o.dst v fr) ⟨D, vs, fr1, m, hs⟩) : HdOk cx K n all ops σ (o :: l) i fr ⟨E, v :: vs, fr1, m, hs⟩ := by
  obtain ⟨k1, k2, k3, k4, k5⟩ := h
  have k1 : i + 1 ≤ m := k1
  have k2 : m - (i + 1) ≤ l.length := k2
  have k3 : vs.length = m - (i + 1) := k3
  have k4 : fr1 = ovl (l.take (m - (i + 1))) vs (setA o.dst v fr) := k4
  have e : m - i = (m - (i + 1)) + 1 := by omega
  refine ⟨?_, ?_, ?_, ?_, fun j oj vj hj ho hv => ?_⟩
  · show i ≤ m; omega
  · show m - i ≤ l.length + 1; omega
  · show vs.length + 1 = m - i; omega
  · show fr1 = ovl ((o :: l).take (m - i)) (v :: vs) fr
    rw [e, List.take_succ_cons, k4]; rfl
  · have hj : j < m - i := hj
    cases j with
    | zero =>
      have ho : some o = some oj := ho
      have hv : some v = some vj := hv
      cases ho; cases hv
      exact h1
    | succ j => exact k5 j oj vj (by show j < m - (i + 1); omega) ho hv
theorem runH_spec {K : List Nat} {all : Array Oper} {ops : List Oper} : ∀ (l : List Oper) (i : Nat) (fr : Fr) (hs : List Ht), AllP (runH cx K n all ops σ l i fr hs).C → HdOk cx K n all ops σ l i fr (runH cx K n all ops σ l i fr hs)
  | [], i, fr, hs, _ => HdOk.stop
  | o :: l, i, fr, hs, hC => by
    unfold runH at hC ⊢
    split at hC
    · exact HdOk.stop
    · rename_i C v hs' h1
      split at hC
      · simp only [forceV_eq] at hC ⊢
        have ih := runH_spec (K := K) (all := all) (ops := ops) l (i + 1) (setA o.dst v fr) hs'
        generalize runH cx K n all ops σ l (i + 1) (setA o.dst v fr) hs' = H at hC ih ⊢
        obtain ⟨D, vs, fr', m, hs''⟩ := H
        obtain ⟨hC1, hC2⟩ := AllP_append hC
        exact HdOk.cons (oneH_spec h1 hC1) (ih hC2)
      · split at hC
        · rename_i b
          split at hC
          · rename_i t hs1
            have ih := runH_spec (K := K) (all := all) (ops := ops) l (i + 1) (setA o.dst (.bool t) fr) hs1
            generalize runH cx K n all ops σ l (i + 1) (setA o.dst (.bool t) fr) hs1 = H at hC ih ⊢
            obtain ⟨D, vs, fr', m, hs''⟩ := H
            obtain ⟨hC1, hb, hC2⟩ := AllP_append hC
            subst hb
            exact HdOk.cons (oneH_spec h1 hC1) (ih hC2)
          · exact HdOk.stop
        · rename_i us
          have ih := runH_spec (K := K) (all := all) (ops := ops) l (i + 1) (setA o.dst (.tup us) fr) hs'
          generalize runH cx K n all ops σ l (i + 1) (setA o.dst (.tup us) fr) hs' = H at hC ih ⊢
          obtain ⟨D, vs, fr', m, hs''⟩ := H
          obtain ⟨hC1, hC2⟩ := AllP_append hC
          exact HdOk.cons (oneH_spec h1 hC1) (ih hC2)
        · exact HdOk.stop
theorem S_drawH {id : Nat} {ops : Array Oper} (K : List Nat) (H : Hd) (hs : List Ht) (hP : cx.P.follows .mixedOrders = true) (hrun : runH cx K n ops ops.toList σ ops.toList 0 fr hs = H) (hchk : drawOk ops.toList H.m = true) (hC : AllP H.C)
    (hk : S cx n B (.ops ops (ops.toList.drop H.m) [] :: k) Q H.fr σ) : S cx n B (.code (.region id ops true) :: k) Q fr σ := by
  intro r a w hi hf hd hx
  subst hrun
  have hspec := runH_spec (K := K) (all := ops) (ops := ops.toList) (n := n) (cx := cx) (σ := σ) ops.toList 0 fr hs hC
  generalize runH cx K n ops ops.toList σ ops.toList 0 fr hs = H at hspec hchk hC hk
  obtain ⟨C, vals, fr', m, hs'⟩ := H
  obtain ⟨_, k2, k3, k4, k5⟩ := hspec
  simp only [Nat.sub_zero] at k2 k3 k4 k5 hchk hk
  obtain ⟨c1, c2, c3, c4, c5⟩ := drawOk_spec hchk
  obtain ⟨hi1, hx1⟩ := hi.heap_eq (w' := { w with drawn := w.drawn + 1 }) rfl rfl rfl rfl
  have hf1 := hf.mono (hx1.grow hi)
  have nl : ∀ {j : Nat}, ¬ Listed (Array.replicate ops.size false) j := by
    intro j hj
    unfold Listed at hj
    rw [Array.getD_eq_getD_getElem?, Array.getElem?_replicate] at hj
    split at hj <;> simp at hj
  refine wp_region_any hP ?_
  refine wpAny_front (cx := cx) (n := n) (B := B) (fr := fr) (σ := σ) (m := m) (vals := vals) (K := K) (by simpa using k2) k3 c1 c2 c3 c4 c5 (fun j o v hj ho hv => ?_) (fun r a w hi hf hd hx => ?_) ops.size _ r a _ (by simp) ?_ (fun j i hj => ?_) (fun j _ => ?_) ⟨hf1.size, fun j d v _ hj => ?_, fun t _ => hf1.get t, hf1.defs⟩ hi1 hd (hx.trans hx1)
  · exact k5 j o v hj ho hv
  · rw [k4] at hk
    exact hk r a w hi hf hd hx
  · unfold unl; simp [List.countP_replicate]
  · exact absurd hj nl
  · exact nl
  · exact absurd hj nl
def newOp (o : Op) : Bool := match o with
  | .buildSlice .. => true
  | .convert .. => true
  | o => chgOp o
def noF : List Nat → Bool
  | [] => false
  | n :: _ => Nat.beq n 1000000
def opqM : List Nat → Bool
  | _ :: n :: _ => Nat.beq n 1000000
  | _ => false
def heapOp : Op → Bool
  | .load .. => true
  | .store .. => true
  | .alloc .. => true
  | .box .. => true
  | .makeSlice .. => true
  | .call { callee := .builtin b, .. } => match b with
    | .append | .copy => true
    | _ => false
  | _ => false
def stopM (M : List Nat) (o : Op) : Bool := match opqM M with
  | true => heapOp o || stopOp o
  | false => stopOp o
def forceM {α : Type} (M : List Nat) (σ : Heap) (c : Heap → α) : α := match noF M with
  | true => c σ
  | false => forceL σ c
theorem forceM_eq {α : Type} (M : List Nat) (σ : Heap) (c : Heap → α) : forceM M σ c = c σ := by unfold forceM; split <;> simp [forceL_eq]
def forceIfM {α : Type} (M : List Nat) (b : Bool) (σ : Heap) (c : Heap → α) : α := match b with
  | true => forceM M σ c
  | false => c σ
theorem forceIfM_eq {α : Type} (M : List Nat) (b : Bool) (σ : Heap) (c : Heap → α) : forceIfM M b σ c = c σ := by cases b <;> simp [forceIfM, forceM_eq]
structure Rp where
  C : List Prop
  todo : List AI
  fr : Fr
  σ : Heap
  hs : List Ht
def revL {α β : Type} : List α → List α → (List α → β) → β
  | [], a, c => c a
  | x :: r, a, c => revL r (x :: a) c
theorem revL_eq {α β : Type} : ∀ (l a : List α) (c : List α → β), revL l a c = c (l.reverse ++ a)
  | [], a, c => rfl
  | x :: r, a, c => by rw [revL, revL_eq r]; simp
def halt (C : List Prop) (k : List AI) (fr : Fr) (σ : Heap) (hs : List Ht) : Rp := revL C [] fun C => ⟨C, k, fr, σ, hs⟩
theorem halt_eq (C : List Prop) (k : List AI) (fr : Fr) (σ : Heap) (hs : List Ht) : halt C k fr σ hs = ⟨C.reverse, k, fr, σ, hs⟩ := by rw [halt, revL_eq, List.append_nil]
def gdSlot (all : Array Oper) (o : Oper) (fr : Fr) : Option (Nat × Bool) :=
  match o.guard with
  | some (j, _) => match all[j]? with
    | some oj => match oj.dst with
      | some d => match fr.get d with
        | .bool b => some (d, b)
        | _ => none
      | none => none
    | none => none
  | none => none
def runP (cx : Cx) (M : List Nat) (n : Nat) : Nat → List Prop → List Ht → List AI → Fr → Heap → Rp
  | 0, C, hs, k, fr, σ => halt C k fr σ hs
  | f + 1, C, hs, k, fr, σ =>
    match k with
    | [] => halt C [] fr σ hs
    | .code c :: k => match c with
      | .skip => runP cx M n f C hs k fr σ
      | .label _ => runP cx M n f C hs k fr σ
      | .seq a b => runP cx M n f C hs (.code a :: .code b :: k) fr σ
      | .block id c => runP cx M n f C hs (.code c :: .blk id :: k) fr σ
      | .region id ops draw => match draw with
        | false => runP cx M n f C hs (.ops ops ops.toList [] :: k) fr σ
        | true => match hs with
          | .d jc m K g rs :: hs' => match Nat.ble m ops.size with
            | true => match Nat.blt jc m with
              | true => match drawOk ops.toList m with
                | true => forceM M (g σ) fun σ1 => match normC (runC cx K n ops ops.toList σ σ1 jc (ops.toList.take m) 0 fr rs) with
                  | some (D, vals, fr') => forceL fr' fun fr' => pushAll D ((cx.P.follows .mixedOrders = true) :: C) fun C => runP cx M n f C hs' (.ops ops (ops.toList.drop m) [] :: k) fr' σ1
                  | none => halt C (.code (.region id ops true) :: k) fr σ hs
                | false => halt C (.code (.region id ops true) :: k) fr σ hs
              | false => halt C (.code (.region id ops true) :: k) fr σ hs
            | false => halt C (.code (.region id ops true) :: k) fr σ hs
          | hs => match opqM M with
           | true => halt C (.code (.region id ops true) :: k) fr σ hs
           | false => runHK cx (guardKs ops.toList ops.toList) n ops ops.toList σ ops.toList 0 fr hs fun D vals fr' m hs' => match drawOk ops.toList m with
            | true => pushAll D ((cx.P.follows .mixedOrders = true) :: C) fun C => runP cx M n f C hs' (.ops ops (ops.toList.drop m) [] :: k) fr' σ
            | false => halt C (.code (.region id ops true) :: k) fr σ hs
      | .exit id => match popTo id k with
        | some k' => runP cx M n f C hs k' fr σ
        | none => halt C (.code (.exit id) :: k) fr σ hs
      | .cond c x y => match hs with
        | .b t :: hs' => match ev cx fr c with
          | .bool b => match t with
            | true => runP cx M n f ((b = true) :: C) hs' (.code x :: k) fr σ
            | false => runP cx M n f ((b = false) :: C) hs' (.code y :: k) fr σ
          | _ => halt C (.code (.cond c x y) :: k) fr σ hs
        | _ => halt C (.code (.cond c x y) :: k) fr σ hs
      | c => halt C (.code c :: k) fr σ hs
    | .blk _ :: k => runP cx M n f C hs k fr σ
    | .inv I :: k => halt C (.inv I :: k) fr σ hs
    | .ops all l K :: k => match l with
      | [] => runP cx M n f C hs k fr σ
      | o :: r => match stopH hs with
       | true => halt C (.ops all (o :: r) K :: k) fr σ hs
       | false => match dstOk n o.dst with
        | false => halt C (.ops all (o :: r) K :: k) fr σ hs
        | true => match guardA all o K fr with
          | none => match hs with
            | .b t :: hs' => match gdSlot all o fr with
              | some (d, b) => runP cx M n f ((b = t) :: C) hs' (.ops all (o :: r) (d :: K) :: k) ((d, .bool t) :: fr) σ
              | none => halt C (.ops all (o :: r) K :: k) fr σ hs
            | _ => halt C (.ops all (o :: r) K :: k) fr σ hs
          | some false => setC o.dst (.tup []) fr fun fr => runP cx M n f C hs (.ops all r K :: k) fr σ
          | some true => match outH hs with
           | some (x, g, hs') => forceM M (g σ) fun σ' => runP cx M n f ((OpSpec cx n fr σ o x (g σ)) :: C) hs' (.ops all r K :: k) (setA o.dst x fr) σ'
           | none => match callA cx fr o.op with
            | some (g, args) => match hs with
              | .v x :: hs' => setC o.dst x fr fun fr => runP cx M n f ((∃ args', Calc cx g args' x ∧ Frzs σ args args') :: C) hs' (.ops all r K :: k) fr σ
              | .k x :: hs' => setC o.dst x fr fun fr => runP cx M n f (CallOk cx g args σ (fun e s => e = .ret x ∧ s = σ) :: C) hs' (.ops all r K :: k) fr σ
              | .f x g' :: hs' => setC o.dst x fr fun fr => forceM M (g' σ) fun σ' => runP cx M n f (CallOk cx g args σ (fun e s => e = .ret x ∧ s = g' σ) :: C) hs' (.ops all r K :: k) fr σ'
              | .c x σ' :: hs' => setC o.dst x fr fun fr => runP cx M n f (CallOk cx g args σ (fun e s => e = .ret x ∧ s = σ') :: C) hs' (.ops all r K :: k) fr σ'
              | _ => halt C (.ops all (o :: r) K :: k) fr σ hs
            | none => match stopM M o.op with
              | false => match aOp cx M o.dst o.op fr σ with
                | some (D, v, σ') => pushAll D C fun C => forceV v fun v => forceIfM M (newOp o.op) σ' fun σ' => setC o.dst v fr fun fr => runP cx M n f C hs (.ops all r K :: k) fr σ'
                | none => match storeA cx fr σ o.op with
                  | some (D, σ') => pushAll D C fun C => forceM M σ' fun σ' => setC o.dst (.tup []) fr fun fr => runP cx M n f C hs (.ops all r K :: k) fr σ'
                  | none => match hs with
                    | .v x :: hs' => match loadA cx fr σ o.op x with
                      | some D => pushAll D C fun C => setC o.dst x fr fun fr => runP cx M n f C hs' (.ops all r K :: k) fr σ
                      | none => runP cx M n f ((OpSpec cx n fr σ o x σ) :: C) hs' (.ops all r K :: k) (setA o.dst x fr) σ
                    | .f x g :: hs' => forceM M (g σ) fun σ' => runP cx M n f ((OpSpec cx n fr σ o x (g σ)) :: C) hs' (.ops all r K :: k) (setA o.dst x fr) σ'
                    | _ => halt C (.ops all (o :: r) K :: k) fr σ hs
              | true => match hs with
                | .v x :: hs' => match idxA cx fr σ o.op x with
                  | some (D, v) => pushAll D C fun C => forceV v fun v => setC o.dst v fr fun fr => runP cx M n f C hs' (.ops all r K :: k) fr σ
                  | none => runP cx M n f ((OpSpec cx n fr σ o x σ) :: C) hs' (.ops all r K :: k) (setA o.dst x fr) σ
                | .f x g :: hs' => forceM M (g σ) fun σ' => runP cx M n f ((OpSpec cx n fr σ o x (g σ)) :: C) hs' (.ops all r K :: k) (setA o.dst x fr) σ'
                | _ => halt C (.ops all (o :: r) K :: k) fr σ hs
theorem gdSlot_some {all : Array Oper} {o : Oper} {fr : Fr} {d : Nat} {b : Bool} (h : gdSlot all o fr = some (d, b)) : ∃ j want oj, o.guard = some (j, want) ∧ all[j]? = some oj ∧ oj.dst = some d ∧ fr.get d = .bool b := by
  unfold gdSlot at h
  split at h
  · rename_i j want hg
    split at h
    · rename_i oj hj
      split at h
      · rename_i d' hd
        split at h
        · rename_i b' hb
          simp only [Option.some.injEq, Prod.mk.injEq] at h
          obtain ⟨rfl, rfl⟩ := h
          exact ⟨j, want, oj, hg, hj, hd, hb⟩
        · cases h
      · cases h
    · cases h
  · cases h
def Goes (cx : Cx) (n : Nat) (B : Bs) (Q : Post) (C : List Prop) (k : List AI) (fr : Fr) (σ : Heap) (R : Rp) : Prop := AllP R.C → AllP C ∧ (S cx n B R.todo Q R.fr R.σ → S cx n B k Q fr σ)
theorem AllP_of_rev {C : List Prop} (h : AllP C.reverse) : AllP C := (AllP_rev (C := []) (by simpa using h)).1
theorem Goes.here {C : List Prop} {hs : List Ht} : Goes cx n B Q C k fr σ (halt C k fr σ hs) := by
  rw [halt_eq]
  exact fun h => ⟨AllP_of_rev h, id⟩
theorem Goes.one {C : List Prop} {D : List Prop} {k k' : List AI} {fr fr' : Fr} {σ σ' : Heap} {R : Rp} (h : Goes cx n B Q (D.reverse ++ C) k' fr' σ' R) (hs : AllP D → S cx n B k' Q fr' σ' → S cx n B k Q fr σ) : Goes cx n B Q C k fr σ R := fun hC => by
  obtain ⟨h1, h2⟩ := h hC
  obtain ⟨h3, h4⟩ := AllP_rev h1
  exact ⟨h4, fun q => hs h3 (h2 q)⟩
theorem runP_sound {M : List Nat} : ∀ (f : Nat) (C : List Prop) (hs : List Ht) (k : List AI) (fr : Fr) (σ : Heap), Goes cx n B Q C k fr σ (runP cx M n f C hs k fr σ) := by
  intro f
  induction f with
  | zero => intro C hs k fr σ; exact .here
  | succ f ih =>
    intro C hs k fr σ
    unfold runP
    split
    · exact .here
    · rename_i c k'
      split
      · exact (ih _ _ _ _ _).one (D := []) fun _ => S_skip
      · exact (ih _ _ _ _ _).one (D := []) fun _ => S_label
      · exact (ih _ _ _ _ _).one (D := []) fun _ => S_seq
      · exact (ih _ _ _ _ _).one (D := []) fun _ => S_block
      · rename_i id ops draw
        split
        · exact (ih _ _ _ _ _).one (D := []) fun _ => S_region
        split
        · rename_i jc m K g rs hs'
          split
          case h_2 => exact .here
          rename_i hmN
          split
          case h_2 => exact .here
          rename_i hjc
          split
          case h_2 => exact .here
          rename_i hchk
          rw [forceM_eq]
          split
          case h_2 => exact .here
          rename_i D vals fr' hrun
          rw [forceL_eq, pushAll_eq]
          refine Goes.one (D := (cx.P.follows .mixedOrders = true) :: D) (fr' := fr') (σ' := g σ) (k' := .ops ops (ops.toList.drop m) [] :: k') (by rw [List.reverse_cons, List.append_assoc]; exact ih _ _ _ _ _) fun hD hk => ?_
          exact S_drawCN (g σ) jc m K rs hD.1 hchk hmN hjc hrun hD.2 hk
        · split
          case h_1 => exact .here
          rw [runHK_eq]
          generalize hrun : runH cx (guardKs ops.toList ops.toList) n ops ops.toList σ ops.toList 0 fr hs = H
          obtain ⟨D, vals, fr', m, hs'⟩ := H
          simp only
          split
          · rename_i hchk
            rw [pushAll_eq]
            refine Goes.one (D := (cx.P.follows .mixedOrders = true) :: D) (fr' := fr') (σ' := σ) (k' := .ops ops (ops.toList.drop m) [] :: k') (by rw [List.reverse_cons, List.append_assoc]; exact ih _ _ _ _ _) fun hD hk => ?_
            exact S_drawH (guardKs ops.toList ops.toList) _ hs hD.1 hrun hchk hD.2 hk
          · exact .here
      · split
        · rename_i id k'' hp
          exact (ih _ _ _ _ _).one (D := []) fun _ => S_exit hp
        · exact .here
      · rename_i c x y
        split
        · rename_i t hs'
          split
          · rename_i b hb
            split
            · exact (ih _ _ _ _ _).one (D := [b = true]) fun hD hk => S_cond hb (fun _ => hk) (fun h => by rw [hD.1] at h; cases h)
            · exact (ih _ _ _ _ _).one (D := [b = false]) fun hD hk => S_cond hb (fun h => by rw [hD.1] at h; cases h) (fun _ => hk)
          · exact .here
        · exact .here
      · exact .here
    · exact (ih _ _ _ _ _).one (D := []) fun _ => S_blk
    · exact .here
    · rename_i all l K k'
      split
      · exact (ih _ _ _ _ _).one (D := []) fun _ => S_ops_nil
      · rename_i o r
        split
        · exact .here
        rename_i hst
        clear hst
        split
        · exact .here
        · rename_i hd
          split
          · rename_i hg
            split
            · rename_i t hs'
              split
              · rename_i d b hgd
                obtain ⟨j, want, oj, e1, e2, e3, e4⟩ := gdSlot_some hgd
                refine (ih _ _ _ _ _).one (D := [b = t]) fun hD hk => ?_
                obtain rfl : b = t := hD.1
                exact S_guard e1 e2 e3 e4 (fun h => by subst h; exact hk) (fun h => by subst h; exact hk)
              · exact .here
            · exact .here
          · rename_i hg
            rw [setC_eq]
            exact (ih _ _ _ _ _).one (D := []) fun _ => S_op_skip hg hd
          · rename_i hg
            split
            · rename_i x g hs' _
              rw [forceM_eq]
              exact (ih _ _ _ _ _).one (D := [OpSpec cx n fr σ o x (g σ)]) fun hD hk => S_do hg hd hD.1 hk
            rename_i hout
            clear hout
            split
            · rename_i g args hc
              split
              · rename_i x hs'
                rw [setC_eq]
                refine (ih _ _ _ _ _).one (D := [∃ args', Calc cx g args' x ∧ Frzs σ args args']) fun hD hk => ?_
                obtain ⟨⟨args', h1, h2⟩, _⟩ := hD
                exact S_pure hc hg hd h1 h2 hk
              · rename_i x hs'
                rw [setC_eq]
                refine (ih _ _ _ _ _).one (D := [CallOk cx g args σ (fun e s => e = .ret x ∧ s = σ)]) fun hD hk => ?_
                exact S_call hg hc hd hD.1 (fun v s h => by obtain ⟨h1, rfl⟩ := h; obtain rfl := Out.ret.inj h1; exact hk) (fun v s h => by cases h.1)
              · rename_i x g' hs'
                rw [setC_eq, forceM_eq]
                refine (ih _ _ _ _ _).one (D := [CallOk cx g args σ (fun e s => e = .ret x ∧ s = g' σ)]) fun hD hk => ?_
                exact S_call hg hc hd hD.1 (fun v s h => by obtain ⟨h1, rfl⟩ := h; obtain rfl := Out.ret.inj h1; exact hk) (fun v s h => by cases h.1)
              · rename_i x σ' hs'
                rw [setC_eq]
                refine (ih _ _ _ _ _).one (D := [CallOk cx g args σ (fun e s => e = .ret x ∧ s = σ')]) fun hD hk => ?_
                exact S_call hg hc hd hD.1 (fun v s h => by obtain ⟨h1, rfl⟩ := h; obtain rfl := Out.ret.inj h1; exact hk) (fun v s h => by cases h.1)
              · exact .here
            · split
              · split
                · rename_i D v σ' ha
                  rw [pushAll_eq]
                  simp only [forceV_eq, forceIfM_eq, setC_eq]
                  exact (ih _ _ _ _ _).one (D := D) fun hD hk => S_op hg ha hD hd hk
                · split
                  · rename_i D σ' ha
                    rw [pushAll_eq]
                    simp only [forceM_eq, setC_eq]
                    exact (ih _ _ _ _ _).one (D := D) fun hD hk => S_store ha hg hd hD hk
                  · split
                    · rename_i x hs'
                      split
                      · rename_i D ha
                        rw [pushAll_eq]
                        simp only [setC_eq]
                        exact (ih _ _ _ _ _).one (D := D) fun hD hk => S_load x ha hg hd hD hk
                      · exact (ih _ _ _ _ _).one (D := [OpSpec cx n fr σ o x σ]) fun hD hk => S_do hg hd hD.1 hk
                    · rename_i x g hs'
                      rw [forceM_eq]
                      exact (ih _ _ _ _ _).one (D := [OpSpec cx n fr σ o x (g σ)]) fun hD hk => S_do hg hd hD.1 hk
                    · exact .here
              · split
                · rename_i x hs'
                  split
                  · rename_i D v ha
                    rw [pushAll_eq]
                    simp only [forceV_eq, setC_eq]
                    exact (ih _ _ _ _ _).one (D := D) fun hD hk => S_index x ha hg hd hD hk
                  · exact (ih _ _ _ _ _).one (D := [OpSpec cx n fr σ o x σ]) fun hD hk => S_do hg hd hD.1 hk
                · rename_i x g hs'
                  rw [forceM_eq]
                  exact (ih _ _ _ _ _).one (D := [OpSpec cx n fr σ o x (g σ)]) fun hD hk => S_do hg hd hD.1 hk
                · exact .here
theorem pago (M : List Nat) {k k' : List AI} {fr fr' : Fr} {σ σ' : Heap} {C : List Prop} (hs : List Ht) {hs' : List Ht} (h : runP cx M n 2000 [] hs k fr σ = ⟨C, k', fr', σ', hs'⟩) (hC : AllP C)
    (hk : S cx n B k' Q fr' σ') : S cx n B k Q fr σ := by
  have hg := runP_sound (M := M) (cx := cx) (n := n) (B := B) (Q := Q) 2000 [] hs k fr σ
  rw [h] at hg
  exact (hg hC).2 hk
theorem pa {k k' : List AI} {fr fr' : Fr} {σ σ' : Heap} {C : List Prop} (hs : List Ht) {hs' : List Ht} (h : runP cx [] n 2000 [] hs k fr σ = ⟨C, k', fr', σ', hs'⟩) (hC : AllP C)
    (hk : S cx n B k' Q fr' σ') : S cx n B k Q fr σ := pago [] hs h hC hk
theorem pas {k k' : List AI} {fr fr' : Fr} {σ σ' : Heap} {C : List Prop} (hs : List Ht) {hs' : List Ht} (h : runP cx [1000000] n 2000 [] hs k fr σ = ⟨C, k', fr', σ', hs'⟩) (hC : AllP C)
    (hk : S cx n B k' Q fr' σ') : S cx n B k Q fr σ := pago [1000000] hs h hC hk
theorem pB {k k' : List AI} {fr fr' : Fr} {σ σ' : Heap} {C : List Prop} (hs : List Ht) {hs' : List Ht} (h : runP cx [] n 2000 [] hs k fr σ = ⟨C, k', fr', σ', hs'⟩) (hk : S cx n B k' Q fr' σ') (hC : AllP C := by (repeat' with_reducible apply AllP_cons) <;> exact aC) : S cx n B k Q fr σ := pago [] hs h hC hk
theorem pao {k k' : List AI} {fr fr' : Fr} {σ σ' : Heap} {C : List Prop} (hs : List Ht) {hs' : List Ht} (h : runP cx [1000000, 1000000] n 2000 [] hs k fr σ = ⟨C, k', fr', σ', hs'⟩) (hC : AllP C)
    (hk : S cx n B k' Q fr' σ') : S cx n B k Q fr σ := pago [1000000, 1000000] hs h hC hk
end
end Go.Ab
end
section
set_option linter.unusedVariables false
set_option linter.unusedSimpArgs false
set_option maxRecDepth 20000
namespace Go.Proofs.YtjkeekbfgnmngaaGreatDoor
open Go Go.Ab
theorem noescape (v : Value) (w : World) : (callFunc 156 #[v]).run cx.P w = .ok (.value v) w := by
  show (callFunc 156 #[v]).run Tryz.prog w = _
  rw [run_callFunc_extern Tryz.func156 rfl rfl rfl (e := Extern.AbiNoEscape.same) rfl]
  rfl
structure HoldsB (T : TypeId) (n : Nat) : Prop where
  pos : 0 < cx.P.cellsOf T
  le : cx.P.cellsOf T ≤ n
  lies : ∀ k, liesAt cx.P cx.P.depth T (k + 1) 0 84 1 = true
def bBox (T : TypeId) (a b : AV) (rest : List AV) : Box := .cells (a :: b :: rest) ⟨false, some T⟩
def byBox (bs : List UInt8) : Box := .cells (bs.map byteAV) ⟨false, some 5⟩
theorem copyCheck_ok {T : TypeId} {rest : List AV} (hT : HoldsB T (rest.length + 1 + 1)) (v : Nat) (a b : AV) (ha : a = .nilp ∨ a = .ptr 0 v 0) (y : Nat × Option Box) :
    CallOk cx 124 [.ptr 0 v 0] [(v, some (bBox T a b rest)), y] (fun o σ' => o = .ret (.tup []) ∧ σ' = [(v, some (bBox T (.ptr 0 v 0) b rest)), y]) :=
  callOk_intro (fun a w => Tryz.call124 a w) Tryz.func124 rfl Tryz.ntmps124 rfl fun B => by
    rcases ha with rfl | rfl
    · refine ab 1000 rfl ⟨rfl, trivial⟩ ?_
      refine S_cond rfl (fun _ => ?_) (fun h => ?_)
      · refine ab 1000 rfl trivial ?_
        refine S_toU rfl rfl rfl ⟨rfl, by simp, by decide, trivial⟩ ?_
        refine S_same noescape rfl rfl rfl ?_
        refine S_fromU rfl rfl rfl ⟨rfl, rfl, hT.pos, hT.le, hT.lies, trivial⟩ ?_
        refine ab 1000 rfl ⟨lble rfl, rfl, trivial⟩ ?_
        exact S_nil ⟨_, _, rfl, trivial, rfl, rfl⟩
      · cases h
    · refine ab 1000 rfl ⟨rfl, trivial⟩ ?_
      refine S_cond rfl (fun h => ?_) (fun _ => ?_)
      · cases h
      · refine ab 1000 rfl ⟨rfl, rfl, trivial⟩ ?_
        refine S_cond rfl (fun h => ?_) (fun _ => ?_)
        · cases h
        · refine ab 1000 rfl trivial ?_
          exact S_nil ⟨_, _, rfl, trivial, rfl, rfl⟩
theorem writeByte_ok {T : TypeId} {rest : List AV} (hT : HoldsB T (rest.length + 1 + 1)) (v u : Nat) (a : AV) (ha : a = .nilp ∨ a = .ptr 0 v 0) (bs : List UInt8) (c : UInt8) (hl : bs.length < 140737488355328) :
    CallOk cx 92 [.ptr 0 v 0, byteAV c] [(v, some (bBox T a (.ms 1 u 0 bs.length 1 false) rest)), (u, some (byBox bs))]
      (fun o σ' => o = .ret .nili ∧ σ' = [(v, some (bBox T (.ptr 0 v 0) (.ms 1 (u + 1) 0 (bs ++ [c]).length 1 false) rest)), (u + 1, some (byBox (bs ++ [c])))]) :=
  callOk_intro (fun a w => Tryz.call92 a w) Tryz.func92 rfl Tryz.ntmps92 rfl fun B => by
    refine ab 1000 rfl trivial ?_
    refine S_call rfl rfl rfl (copyCheck_ok hT v a _ ha _) ?_ (fun v σ' h => by cases h.1)
    rintro _ _ ⟨⟨⟩, rfl⟩
    refine ab 1000 rfl ⟨lble rfl, rfl, ?_, ?_, ?_, rfl, rfl, allOne_mem (cs := [byteAV c]) rfl, allOne_mem (cs := [byteAV c]) rfl, rfl, rfl, trivial⟩ ?_
    · show bs.length + 1 ≤ 9223372036854775807; omega
    · show (bs.length + 1) * 1 ≤ 140737488355328; omega
    · show 0 + bs.length * 1 = (bs.map byteAV).length; simp
    refine S_ret ⟨_, _, rfl, trivial, rfl, ?_⟩
    show [(v, some (Box.cells (_ :: .ms 1 (u + 1) 0 (bs.length + 1) 1 false :: rest) _)), (u + 1, some (.cells (bs.map byteAV ++ [byteAV c]) _))] = _
    simp [byBox, bBox]
    rfl
theorem string_ok {T : TypeId} {rest : List AV} (v u : Nat) (a : AV) (bs : List UInt8) (h0 : bs ≠ []) (hl : bs.length ≤ 140737488355328) :
    CallOk cx 90 [.ptr 0 v 0] [(v, some (bBox T a (.ms 1 u 0 bs.length 1 false) rest)), (u, some (byBox bs))]
      (fun o σ' => o = .ret (.str bs) ∧ σ' = [(v, some (bBox T a (.ms 1 u 0 bs.length 1 false) rest)), (u, none)]) :=
  callOk_intro (fun a w => Tryz.call90 a w) Tryz.func90 rfl Tryz.ntmps90 rfl fun B => by
    refine ab 1000 rfl trivial ?_
    have hpos : 0 < bs.length := List.length_pos_iff.2 h0
    refine S_draw 10 [] [] rfl rfl rfl rfl ⟨rfl, rfl, rfl, rfl, rfl, rfl, hpos, rfl, rfl, rfl, rfl, rfl, rfl, trivial⟩ ?_
    refine S_ustr bs rfl rfl rfl ⟨rfl, rfl, rfl, rfl, h0, by omega, List.take_of_length_le (by simp), trivial⟩ ?_
    refine ab 1000 rfl trivial ?_
    exact S_ret ⟨_, _, rfl, trivial, rfl, rfl⟩
end Go.Proofs.YtjkeekbfgnmngaaGreatDoor
end
section
set_option linter.unusedVariables false
set_option linter.unusedSimpArgs false
set_option maxRecDepth 20000
namespace Go.Proofs.YtjkeekbfgnmngaaGreatDoor
open Go Go.Ab
theorem writeString_ok {T : TypeId} {rest : List AV} (hT : HoldsB T (rest.length + 1 + 1)) (v u : Nat) (a : AV) (ha : a = .nilp ∨ a = .ptr 0 v 0) (bs cs : List UInt8) (hl : bs.length + cs.length ≤ 140737488355328) :
    CallOk cx 91 [.ptr 0 v 0, .str cs] [(v, some (bBox T a (.ms 1 u 0 bs.length 1 false) rest)), (u, some (byBox bs))]
      (fun o σ' => o = .ret (.tup [.int .i64 cs.length, .nili]) ∧ σ' = [(v, some (bBox T (.ptr 0 v 0) (.ms 1 (u + 1) 0 (bs ++ cs).length 1 false) rest)), (u + 1, some (byBox (bs ++ cs)))]) :=
  callOk_intro (fun a w => Tryz.call91 a w) Tryz.func91 rfl Tryz.ntmps91 rfl fun B => by
    refine ab 1000 rfl trivial ?_
    refine S_call rfl rfl rfl (copyCheck_ok hT v a _ ha _) ?_ (fun v σ' h => by cases h.1)
    rintro _ _ ⟨⟨⟩, rfl⟩
    refine ab 1000 rfl ⟨lble rfl, rfl, ?_, ?_, ?_, rfl, rfl, ?_, rfl, trivial⟩ ?_
    · show bs.length + cs.length ≤ 9223372036854775807; omega
    · show (bs.length + cs.length) * 1 ≤ 140737488355328; omega
    · show 0 + bs.length * 1 = (bs.map byteAV).length; simp
    · intro y hy; obtain ⟨x, _, rfl⟩ := List.mem_map.1 hy; rfl
    refine S_ret ⟨_, _, rfl, trivial, rfl, ?_⟩
    show [(v, some (Box.cells (_ :: .ms 1 (u + 1) 0 (bs.length + cs.length) 1 false :: rest) _)), (u + 1, some (.cells (bs.map byteAV ++ cs.map byteAV) _))] = _
    simp [byBox, bBox]
    rfl
end Go.Proofs.YtjkeekbfgnmngaaGreatDoor
end
section
set_option linter.unusedVariables false
set_option linter.unusedSimpArgs false
set_option maxRecDepth 20000
namespace Go.Proofs.YtjkeekbfgnmngaaGreatDoor
open Go Go.Ab
theorem holdsPacker : HoldsB 86 3 := ⟨lble rfl, lble rfl, fun k => by kernel_rfl⟩
def packN : Nat → Nat → List UInt8
  | 0, n => [UInt8.ofNat n]
  | k + 1, n => if n < 128 then [UInt8.ofNat n] else UInt8.ofNat (n % 128 + 128) :: packN k (n / 128)
theorem packN_ne (k n : Nat) : packN k n ≠ [] := by cases k <;> simp [packN]; split <;> simp
theorem packN_len : ∀ k n, (packN k n).length ≤ k + 1
  | 0, n => by simp [packN]
  | k + 1, n => by
    have := packN_len k (n / 128)
    unfold packN; split <;> simp; omega
theorem packN_more : ∀ k n, n < 128 ^ (k + 1) → packN (k + 1) n = packN k n
  | 0, n, h => by simp at h; simp [packN, h]
  | k + 1, n, h => by
    have e : ∀ k, packN (k + 1) n = if n < 128 then [UInt8.ofNat n] else UInt8.ofNat (n % 128 + 128) :: packN k (n / 128) := fun _ => rfl
    rw [e (k + 1), e k, packN_more k (n / 128) (by rw [Nat.div_lt_iff_lt_mul (by decide)]; rw [Nat.pow_succ] at h; omega)]
theorem packN_step {n : Nat} (h : 128 ≤ n) (hn : n < 9223372036854775808) : packN 9 n = UInt8.ofNat (n % 128 + 128) :: packN 9 (n / 128) := by
  rw [packN, if_neg (by omega), packN_more 8 (n / 128) (by simp; omega)]
theorem isNumber_ok (n : Int) : Calc cx 51 [.int .i64 n] (.bool (decide (0 ≤ n) && decide (n ≤ 9007199254740991))) :=
  pure_intro (fun a w => Tryz.call51 a w) Tryz.func51 rfl Tryz.ntmps51 rfl .bool fun B => by
    refine ab 1000 rfl trivial ?_
    refine S_guard rfl rfl rfl rfl (fun h => ?_) (fun h => ?_)
    · refine ab 1000 rfl trivial ?_
      refine S_ret ⟨_, _, rfl, trivial, _, rfl, ?_⟩
      rw [show decide (0 ≤ n) = true from h]
      exact .refl .bool
    · refine ab 1000 rfl trivial ?_
      refine S_ret ⟨_, _, rfl, trivial, _, rfl, ?_⟩
      rw [show decide (0 ≤ n) = false from h]
      exact .refl .bool
def pk (v u : Nat) (a : AV) (bs : List UInt8) : Heap := [(v, some (bBox 86 a (.ms 1 u 0 bs.length 1 false) [.int .i64 0])), (u, some (byBox bs))]
theorem number_ok (v u : Nat) (a : AV) (ha : a = .nilp ∨ a = .ptr 0 v 0) (bs : List UInt8) (m : Nat) (hm : m ≤ 9223372036854775807) (hl : bs.length + 10 ≤ 140737488355328) :
    CallOk cx 55 [.ptr 0 v 0, .int .i64 m] (pk v u a bs) (fun o σ' => o = .ret (.tup []) ∧ ∃ u', σ' = pk v u' (.ptr 0 v 0) (bs ++ packN 9 m)) :=
  callOk_intro (fun a w => Tryz.call55 a w) Tryz.func55 rfl Tryz.ntmps55 rfl fun B => by
    refine ab 1000 rfl trivial ?_
    refine S_while (α := Nat × AV × List UInt8 × Nat × Nat) (fun (u, a, bs, m, j) => [(0, .ptr 0 v 0), (1, .int .i64 m)]) (fun (u, a, bs, m, j) => pk v u a bs)
      (fun (u, a, cs, m', j) => ((a = .nilp ∨ a = .ptr 0 v 0) ∧ j ≤ 9 ∧ m' < 128 ^ (j + 1) ∧ cs.length + j = bs.length + 9 ∧ cs ++ packN j m' = bs ++ packN 9 m) ∧ m' ≤ 9223372036854775807) (fun (u, a, bs, m, j) => j) (u, a, bs, m, 9)
      ⟨⟨ha, by decide, by omega, rfl, rfl⟩, hm⟩ (.cons rfl (.cons rfl (.nil _))) rfl ?_
    rintro ⟨u, a, cs, m', j⟩ ⟨⟨ha, hj, hm', hlen, hN⟩, hmb⟩
    refine ab 1000 rfl trivial ?_
    refine S_dec rfl (fun h => ?_) (fun h => ?_)
    · have hm : m' > 127 := by omega
      have hj0 : ∃ i, j = i + 1 := by
        cases j with
        | zero => simp at hm'; omega
        | succ i => exact ⟨i, rfl⟩
      obtain ⟨i, rfl⟩ := hj0
      have h63 : m' < 9223372036854775808 := Nat.lt_succ_of_le hmb
      refine ab 1000 rfl trivial ?_
      refine S_calle rfl rfl rfl (args := [.ptr 0 v 0, byteAV (UInt8.ofNat (m' % 128 + 128))]) ?_ (writeByte_ok holdsPacker v u a ha cs (UInt8.ofNat (m' % 128 + 128)) (by omega)) ?_ (fun v σ' h => by cases h.1)
      · have h1 : bitsA .or .i64 (bitsA .and .i64 (m' : Int) 127) 128 = ((m' % 128 + 128 : Nat) : Int) := by
          rw [show (127 : Int) = ((127 : Nat) : Int) from rfl, and_i64 h63 (by decide), show (128 : Int) = ((128 : Nat) : Int) from rfl, Nat.and_two_pow_sub_one_eq_mod m' 7, or_i64 (by omega) (by decide)]
          have h2 : m' % 2 ^ 7 ||| 128 = m' % 128 + 128 := by
            have := Nat.two_pow_add_eq_or_of_lt (i := 7) (b := m' % 128) (by omega) 1
            rw [Nat.or_comm]
            show 2 ^ 7 * 1 ||| m' % 128 = _
            rw [← this]; omega
          rw [h2]
        show [AV.ptr 0 v 0, AV.int .u8 (IntKind.u8.wrap (bitsA .or .i64 (bitsA .and .i64 (m' : Int) 127) 128))] = _
        rw [h1, wu8 rfl (by omega)]
        rw [byteAV_of rfl (by omega)]
      rintro _ _ ⟨⟨⟩, rfl⟩
      refine ab 1000 rfl ⟨by decide, trivial⟩ ?_
      refine S_round (u + 1, .ptr 0 v 0, cs ++ [UInt8.ofNat (m' % 128 + 128)], m' / 128, i) (by show i < i + 1; omega) ⟨⟨.inr rfl, by omega, ?_, by simp; omega, ?_⟩, by show m' / 128 ≤ _; omega⟩ (.cons rfl (.cons ?_ (.nil _))) rfl
      · rw [Nat.div_lt_iff_lt_mul (by decide)]; rw [Nat.pow_succ] at hm'; omega
      · rw [← hN, packN, if_neg (by omega)]; simp
      · show AV.int .i64 ((m' : Int).fdiv (2 ^ 7)) = _
        rw [shr_nat]
    · have hm : m' ≤ 127 := by omega
      refine ab 1000 rfl trivial ?_
      refine S_calle rfl rfl rfl (args := [.ptr 0 v 0, byteAV (UInt8.ofNat m')]) ?_ (writeByte_ok holdsPacker v u a ha cs (UInt8.ofNat m') (by omega)) ?_ (fun v σ' h => by cases h.1)
      · show [AV.ptr 0 v 0, AV.int .u8 (IntKind.u8.wrap (m' : Int))] = _
        rw [wu8 rfl (by omega), byteAV_of rfl (by omega)]
      rintro _ _ ⟨⟨⟩, rfl⟩
      refine ab 1000 rfl trivial ?_
      refine S_nil ⟨_, _, rfl, trivial, rfl, u + 1, ?_⟩
      have hp : packN j m' = [UInt8.ofNat m'] := by cases j <;> simp [packN]; omega
      rw [← hN, hp]
      rfl
set_option maxRecDepth 4000 in
theorem done_ok (v u : Nat) (a : AV) (bs : List UInt8) (h0 : bs ≠ []) (hl : bs.length ≤ 140737488355328) :
    CallOk cx 52 [.ptr 0 v 0] (pk v u a bs) (fun o σ' => o = .ret (.tup [.str bs, .int .i64 0]) ∧ σ' = [(v, some (bBox 86 a (.ms 1 u 0 bs.length 1 false) [.int .i64 0])), (u, none)]) :=
  callOk_intro (fun a w => Tryz.call52 a w) Tryz.func52 rfl Tryz.ntmps52 rfl fun B => by
    refine ab 1000 rfl ⟨rfl, trivial⟩ ?_
    refine S_cond rfl (fun h => absurd h (by decide)) (fun _ => ?_)
    refine ab 1000 rfl trivial ?_
    refine S_call rfl rfl rfl (string_ok v u a bs h0 hl) ?_ (fun v σ' h => by cases h.1)
    rintro _ _ ⟨⟨⟩, rfl⟩
    refine ab 1000 rfl trivial ?_
    exact S_ret ⟨_, _, rfl, trivial, rfl, rfl⟩
theorem Number_ok (m : Nat) (hm : m ≤ 9007199254740991) : Calc cx 37 [.int .i64 m] (.tup [.str (packN 9 m), .int .i64 0]) :=
  pure_intro (fun a w => Tryz.call37 a w) Tryz.func37 rfl Tryz.ntmps37 rfl (.tup (by intro x hx; simp at hx; rcases hx with rfl | rfl; exact .str; exact .int)) fun B => by
    refine ab 1000 rfl trivial ?_
    refine S_pure rfl rfl rfl (isNumber_ok m) (.cons (.refl .int) (.nil _)) ?_
    refine ab 1000 rfl trivial ?_
    refine S_cond rfl (fun h => ?_) (fun _ => ?_)
    · simp at h; omega
    refine ab 1000 rfl trivial ?_
    refine S_ghost 1 ⟨false, some 5⟩ (id := 0) (j := 1) rfl rfl rfl (show (0 : Nat) ≠ 1 by decide) ⟨.skip, _, .inr ⟨_, _, _, rfl⟩⟩ ?_
    refine S_call rfl rfl rfl (number_ok 0 0 .nilp (.inl rfl) [] m (by omega) (by decide)) ?_ (fun v σ' h => by cases h.1)
    rintro _ _ ⟨⟨⟩, u', rfl⟩
    refine ab 1000 rfl trivial ?_
    refine S_call rfl rfl rfl (done_ok 0 u' _ (packN 9 m) ?_ ?_) ?_ (fun v σ' h => by cases h.1)
    · exact packN_ne 9 m
    · have := packN_len 9 m; omega
    rintro _ _ ⟨⟨⟩, rfl⟩
    refine ab 1000 rfl trivial ?_
    exact S_ret ⟨_, _, rfl, trivial, _, rfl, .refl (.tup (by intro x hx; simp at hx; rcases hx with rfl | rfl; exact .str; exact .int))⟩
end Go.Proofs.YtjkeekbfgnmngaaGreatDoor
end
section
set_option linter.unusedVariables false
set_option linter.unusedSimpArgs false
set_option maxRecDepth 20000
namespace Go.Proofs.YtjkeekbfgnmngaaGreatDoor
open Go Go.Ab
theorem PackNumber_ok : ∀ (m : Nat), m ≤ 9007199254740991 → Calc cx 122 [.int .i64 m] (.str (packN 9 m)) := by
  intro m
  induction m using Nat.strongRecOn with
  | _ m ih =>
    intro hm
    refine pure_intro (fun a w => Tryz.call122 a w) Tryz.func122 rfl Tryz.ntmps122 rfl .str fun B => ?_
    refine ab 1000 rfl trivial ?_
    refine S_dec rfl (fun h => ?_) (fun h => ?_)
    · refine ab 1000 rfl ⟨byte1 (x := .int .u8 (IntKind.u8.wrap (m : Int))) trivial, rfl, trivial⟩ ?_
      refine S_ret ⟨_, _, rfl, trivial, _, rfl, ?_⟩
      have e : packN 9 m = [UInt8.ofNat (IntKind.u8.wrap (m : Int)).toNat] := by
        rw [wu8 rfl (by omega)]
        simp [packN]; omega
      rw [e]
      exact .refl .str
    · refine ab 1000 rfl trivial ?_
      have hl := packN_len 9 (m / 128)
      refine S_draw 11 [] [.str (packN 9 (m / 128))] rfl rfl rfl rfl ⟨rfl, rfl, by decide, rfl, rfl, rfl, rfl, rfl, byte1 (x := .int .u8 (IntKind.u8.wrap (IntKind.i64.wrap ((m : Int).tmod 128 + 128)))) trivial, rfl, rfl, by decide, ⟨_, ih (m / 128) (by omega) (by omega), .cons ?_ (.nil _)⟩, rfl, ?_, rfl, trivial⟩ ?_
      · show Frz false [] (.int .i64 (IntKind.i64.wrap ((m / 128 : Nat) : Int))) _
        rw [w64 rfl (by omega)]; exact .refl .int
      · show ((1 + (packN 9 (m / 128)).length : Nat) : Int) ≤ 9223372036854775807
        omega
      · refine ab 1000 rfl trivial ?_
        refine S_ret ⟨_, _, rfl, trivial, _, rfl, ?_⟩
        have e : packN 9 m = [UInt8.ofNat (IntKind.u8.wrap (IntKind.i64.wrap (((m % 128 : Nat) : Int) + 128))).toNat] ++ packN 9 (m / 128) := by
          rw [show ((m % 128 : Nat) : Int) + 128 = ((m % 128 + 128 : Nat) : Int) from rfl, w64 (k := m % 128 + 128) rfl (by omega), wu8 rfl (by omega), packN_step (by omega) (by omega)]
          rfl
        rw [e]
        exact .refl .str
def readN : List UInt8 → Nat → Nat → Nat × Nat × Nat
  | [], _, _ => (0, 0, 1)
  | c :: r, i, n =>
    if i = 8 then (0, 0, 3)
    else
      let n' := n + c.toNat % 128 * 128 ^ i
      if 127 < c.toNat then readN r (i + 1) n'
      else if c.toNat = 0 ∧ 0 < i then (0, 0, 1)
      else if 9007199254740991 < n' then (0, 0, 3)
      else (n', i + 1, 0)
def numAV (x : Nat × Nat × Nat) : AV := .tup [.int .i64 x.1, .int .i64 x.2.1, .int .i64 x.2.2]
theorem numAV_free (x : Nat × Nat × Nat) : Free true (numAV x) := .tup (by intro y hy; simp at hy; rcases hy with rfl | rfl | rfl <;> exact .int)
theorem ReadNumber_ok (s : List UInt8) (hs : s.length ≤ 9223372036854775806) : Calc cx 38 [.str s] (numAV (readN s 0 0)) :=
  pure_intro (fun a w => Tryz.call38 a w) Tryz.func38 rfl Tryz.ntmps38 rfl (numAV_free _) fun B => by
    refine ab 1000 rfl trivial ?_
    refine S_while (α := Nat × Nat) (fun (i, n) => [(0, .str s), (5, .int .i64 n), (9, .int .i64 s.length), (10, .int .i64 i)]) (fun _ => [])
      (fun (i, n) => i ≤ s.length ∧ i ≤ 8 ∧ n < 128 ^ i ∧ readN (s.drop i) i n = readN s 0 0) (fun (i, _) => s.length - i) (0, 0)
      ⟨by simp, by decide, by decide, rfl⟩ (.cons rfl (.cons rfl (.cons rfl (.cons rfl (.nil _))))) rfl ?_
    rintro ⟨i, n⟩ ⟨hi, hi8, hn, hN⟩
    refine ab 1000 rfl trivial ?_
    refine S_dec rfl (fun h => ?_) (fun h => ?_)
    · have hil : i < s.length := by omega
      rw [List.drop_eq_getElem_cons hil] at hN
      refine ab 1000 rfl trivial ?_
      refine S_beq rfl (fun hb => ?_) (fun hb => ?_)
      · have h8 : i = 8 := by omega
        refine ab 1000 rfl trivial ?_
        refine S_retc (numAV_free _) rfl trivial ?_
        rw [show readN s 0 0 = (0, 0, 3) by rw [← hN]; simp [readN, h8]]; rfl
      · have h8 : i ≠ 8 := by omega
        have hi7 : i ≤ 7 := by omega
        have hw7 : IntKind.i64.wrap (7 * (i : Int)) = ((7 * i : Nat) : Int) := w64 rfl (by omega)
        refine ab 1000 rfl ⟨by rw [hw7]; omega, h, by omega, trivial⟩ ?_
        have hgd : s.getD i 0 = s[i] := by simp [List.getD, hil]
        have hc := s[i].toNat_lt
        obtain ⟨c, hcd⟩ : ∃ c, c = s[i].toNat := ⟨_, rfl⟩
        rw [← hcd] at hc
        have hwc : IntKind.i64.wrap (((s.getD i 0).toNat : Nat) : Int) = (c : Int) := by rw [hgd, ← hcd]; exact w64 rfl (by omega)
        have hpow : 128 ^ i ≤ 128 ^ 7 := Nat.pow_le_pow_right (by decide) hi7
        have hmul : c % 128 * 128 ^ i ≤ 127 * 128 ^ 7 := Nat.mul_le_mul (by omega) hpow
        have hn5 : bitsA .or .i64 (n : Int) (IntKind.i64.wrap (bitsA .and .i64 (IntKind.i64.wrap (((s.getD i 0).toNat : Nat) : Int)) 127 * 2 ^ min (IntKind.i64.wrap (7 * (i : Int))).toNat IntKind.i64.bits)) = ((n + c % 128 * 128 ^ i : Nat) : Int) := by
          rw [hwc, hw7, show (127 : Int) = ((127 : Nat) : Int) from rfl, and_i64 (by omega) (by decide), Nat.and_two_pow_sub_one_eq_mod c 7, Int.toNat_natCast, Nat.min_eq_left (show 7 * i ≤ IntKind.i64.bits by show 7 * i ≤ 64; omega)]
          have h2i : (2 : Int) ^ (7 * i) = ((128 ^ i : Nat) : Int) := by
            rw [show (128 : Nat) = 2 ^ 7 from rfl, ← Nat.pow_mul]; simp
          rw [h2i, show (((c % 2 ^ 7 : Nat) : Int) * ((128 ^ i : Nat) : Int)) = ((c % 128 * 128 ^ i : Nat) : Int) from rfl]
          rw [wrap_i64n (by omega), or_i64 (by omega) (by omega)]
          have h2 := Nat.two_pow_add_eq_or_of_lt (i := 7 * i) (b := n) (by rw [Nat.pow_mul]; exact hn) (c % 128)
          rw [Nat.pow_mul, Nat.mul_comm] at h2
          rw [Nat.or_comm]
          show ((c % 128 * (2 ^ 7) ^ i ||| n : Nat) : Int) = _
          rw [← h2, Nat.add_comm]
        have hN' : readN s 0 0 = if 127 < c then readN (s.drop (i + 1)) (i + 1) (n + c % 128 * 128 ^ i) else if c = 0 ∧ 0 < i then (0, 0, 1) else if 9007199254740991 < n + c % 128 * 128 ^ i then (0, 0, 3) else (n + c % 128 * 128 ^ i, i + 1, 0) := by
          rw [← hN]; simp only [readN, if_neg h8, ← hcd]
        have hn' : n + c % 128 * 128 ^ i < 128 ^ (i + 1) := by
          have : c % 128 * 128 ^ i ≤ 127 * 128 ^ i := Nat.mul_le_mul (by omega) (Nat.le_refl _)
          rw [Nat.pow_succ]; omega
        generalize hgn : n + c % 128 * 128 ^ i = n' at *
        refine S_weak (fr' := [(0, .str s), (5, .int .i64 n'), (6, .int .i64 i), (7, .int .i64 c), (9, .int .i64 s.length), (10, .int .i64 i), (26, .bool (decide ((c : Int) > 127)))])
          (.cons rfl (.cons (congrArg _ hn5) (.cons rfl (.cons (congrArg _ hwc) (.cons rfl (.cons rfl (.cons (congrArg (fun z : Int => AV.bool (decide (z > 127))) hwc) (.nil _)))))))) ?_
        refine S_dec rfl (fun h27 => ?_) (fun h27 => ?_)
        · refine ab 1000 rfl trivial ?_
          refine S_round (i + 1, n') (by show s.length - (i + 1) < s.length - i; omega) ⟨hil, by omega, hn', ?_⟩ (.cons rfl (.cons rfl (.cons rfl (.cons (ai64 rfl (by omega)) (.nil _))))) rfl
          rw [hN', if_pos (by omega)]
        · rw [if_neg (by omega)] at hN'
          refine ab 1000 rfl trivial ?_
          refine S_guard rfl rfl rfl rfl (fun hg => ?_) (fun hg => ?_)
          · have hc0 : c = 0 := by simpa using hg
            refine ab 1000 rfl trivial ?_
            refine S_dec rfl (fun hi0 => ?_) (fun hi0 => ?_)
            · refine ab 1000 rfl trivial ?_
              refine S_retc (numAV_free _) rfl trivial ?_
              rw [hN', if_pos ⟨hc0, by omega⟩]; rfl
            · rw [if_neg (by omega)] at hN'
              refine ab 1000 rfl trivial ?_
              refine S_dec rfl (fun hbig => ?_) (fun hbig => ?_)
              · refine ab 1000 rfl trivial ?_
                refine S_retc (numAV_free _) rfl trivial ?_
                rw [hN', if_pos (by omega)]; rfl
              · refine ab 1000 rfl trivial ?_
                refine S_retc (numAV_free _) rfl trivial ?_
                rw [hN', if_neg (by omega)]
                show AV.tup [.int .i64 n', .int .i64 (IntKind.i64.wrap ((i : Int) + 1)), .int .i64 0] = _
                rw [w64 (x := (i : Int) + 1) (k := i + 1) rfl (by omega)]; rfl
          · have hc0 : c ≠ 0 := by simpa using hg
            rw [if_neg (by omega)] at hN'
            refine ab 1000 rfl trivial ?_
            refine S_cond rfl (fun hh => by cases hh) (fun _ => ?_)
            refine ab 1000 rfl trivial ?_
            refine S_dec rfl (fun hbig => ?_) (fun hbig => ?_)
            · refine ab 1000 rfl trivial ?_
              refine S_retc (numAV_free _) rfl trivial ?_
              rw [hN', if_pos (by omega)]; rfl
            · refine ab 1000 rfl trivial ?_
              refine S_retc (numAV_free _) rfl trivial ?_
              rw [hN', if_neg (by omega)]
              show AV.tup [.int .i64 n', .int .i64 (IntKind.i64.wrap ((i : Int) + 1)), .int .i64 0] = _
              rw [w64 (x := (i : Int) + 1) (k := i + 1) rfl (by omega)]; rfl
    · have hil : i = s.length := by omega
      refine ab 1000 rfl trivial ?_
      refine S_retc (numAV_free _) rfl trivial ?_
      rw [show readN s 0 0 = (0, 0, 1) by rw [← hN, hil]; simp [readN]]; rfl
end Go.Proofs.YtjkeekbfgnmngaaGreatDoor
end
section
set_option linter.unusedVariables false
set_option linter.unusedSimpArgs false
set_option maxRecDepth 20000
namespace Go.Proofs.YtjkeekbfgnmngaaGreatDoor
open Go Go.Ab
def rd (v : Nat) (s : List UInt8) : Heap := [(v, some (.cells [.str s] ⟨false, some 139⟩))]
def brk : AV := .iface 136 (.agg [])
def Rd {α : Type} (v : Nat) (x : Option (α × List UInt8)) (f : α → AV) : Out → Heap → Prop := fun o σ' =>
  match x with
  | some (a, r) => o = .ret (f a) ∧ σ' = rd v r
  | none => o = .panic brk ∧ ∃ r, σ' = rd v r
def rTake (n : Nat) (s : List UInt8) : Option (List UInt8 × List UInt8) := if s.length < n then none else some (s.take n, s.drop n)
def rNum (s : List UInt8) : Option (Nat × List UInt8) := if (readN s 0 0).2.2 = 0 then some ((readN s 0 0).1, s.drop (readN s 0 0).2.1) else none
def rText (s : List UInt8) : Option (List UInt8 × List UInt8) :=
  match rNum s with
  | some (n, r) => rTake n r
  | none => none
def rMany (s : List UInt8) : Option (Nat × List UInt8) :=
  match rNum s with
  | some (n, r) => if r.length < n then none else some (n, r)
  | none => none
theorem readN_bds : ∀ (s : List UInt8) (i n : Nat), i ≤ 8 → (readN s i n).1 ≤ 9007199254740991 ∧ (readN s i n).2.1 ≤ i + s.length ∧ ((readN s i n).2.2 = 0 → i < (readN s i n).2.1)
  | [], i, n, h => by simp [readN]
  | c :: r, i, n, h => by
    have ih := readN_bds r (i + 1) (n + c.toNat % 128 * 128 ^ i)
    unfold readN
    split
    · simp
    · simp only
      split
      · have := ih (by omega)
        simp only [List.length_cons]; omega
      · split
        · simp
        · split
          · simp
          · simp; omega
theorem rNum_bd {s : List UInt8} {n : Nat} {r : List UInt8} (h : rNum s = some (n, r)) : n ≤ 9007199254740991 ∧ r.length + 1 ≤ s.length := by
  have := readN_bds s 0 0 (by decide)
  unfold rNum at h
  split at h
  · rename_i h0
    cases h
    have h1 := this.2.2 h0
    rw [List.length_drop]; omega
  · cases h
theorem rTake_bd {s t r : List UInt8} {n : Nat} (h : rTake n s = some (t, r)) : t.length + r.length = s.length ∧ t.length = n := by
  unfold rTake at h
  split at h
  · cases h
  · cases h; simp; omega
theorem rText_bd {s t r : List UInt8} (h : rText s = some (t, r)) : t.length + r.length + 1 ≤ s.length := by
  unfold rText at h
  split at h
  · rename_i n r' h1
    have := rNum_bd h1
    have := rTake_bd h
    omega
  · cases h
def rdE (v : Nat) (s : List UInt8) : Nat × Option Box := (v, some (.cells [.str s] ⟨false, some 139⟩))
section
variable {n : Nat} {B : Bs} {k : List AI} {Q : Post} {fr : Fr} {σ : Heap}
theorem S_rd {α : Type} {all : Array Oper} {o : Oper} {l : List Oper} {K : List Nat} {f : FuncId} {v : Nat} {s : List UInt8} {bs bs' : List AV} {x : Option (α × List UInt8)} {g : α → AV} (j : Nat) (hc : callA cx fr o.op = some (f, .ptr j v 0 :: bs)) (hg : guardA all o K fr = some true) (hd : dstOk n o.dst = true)
    (hj : σ[j]? = some (rdE v s)) (has : bs = bs') (hfa : ∀ y ∈ bs', Free false y) (hcall : CallOk cx f (.ptr 0 v 0 :: bs') (rd v s) (Rd v x g)) (hfg : ∀ a, Free false (g a))
    (hr : ∀ a r, x = some (a, r) → S cx n B (.ops all l K :: k) Q (setA o.dst (g a) fr) (σ.set j (rdE v r))) (hp : x = none → ∀ r, Q (.panic brk) fr (σ.set j (rdE v r))) : S cx n B (.ops all (o :: l) K :: k) Q fr σ := by
  subst has
  have hjl : j < σ.length := by
    rcases Nat.lt_or_ge j σ.length with h | h
    · exact h
    · rw [List.getElem?_eq_none h] at hj; cases hj
  refine S_callf [j] hcall hc (.cons (.ptr rfl) (.free hfa)) (Part.mk' (es := [rdE v s]) rfl ?_ (.cons (.live (.cells (.cons (.free .str) (.nil _)))) (.nil _))) hg hd ?_ ?_
  · simp only [pickAll, hj]
  · intro y σ1 h
    cases hx : x with
    | none => rw [hx] at h; cases h.1
    | some p =>
      obtain ⟨a, r⟩ := p
      rw [hx] at h
      obtain ⟨h1, rfl⟩ := h
      cases h1
      exact ⟨g a, [rdE v r], .cons (.live (.cells (.cons (.free .str) (.nil _)))) (.nil _), .free (hfg a), by simpa [putAll] using hr a r hx⟩
  · intro y σ1 h
    cases hx : x with
    | some p => rw [hx] at h; cases h.1
    | none =>
      rw [hx] at h
      obtain ⟨h1, r, rfl⟩ := h
      cases h1
      exact ⟨brk, [rdE v r], .cons (.live (.cells (.cons (.free .str) (.nil _)))) (.nil _), .iface (.agg rfl (fun i h => absurd h (by simp))), by simpa [putAll] using hp hx r⟩
end
theorem take_ok (v : Nat) (s : List UInt8) (n : Nat) (hn : n ≤ 9223372036854775807) :
    CallOk cx 95 [.ptr 0 v 0, .int .i64 n] (rd v s) (Rd v (rTake n s) .str) :=
  callOk_intro (fun a w => Tryz.call95 a w) Tryz.func95 rfl Tryz.ntmps95 rfl fun B => by
    refine ab 1000 rfl ⟨rfl, trivial⟩ ?_
    refine S_dec rfl (fun h => ?_) (fun h => ?_)
    · refine ab 1000 rfl trivial ?_
      refine S_panic rfl rfl rfl ?_
      show Rd v (rTake n s) .str (.panic brk) _
      rw [rTake, if_pos (by omega)]
      exact ⟨rfl, s, rfl⟩
    · refine ab 1000 rfl ⟨lble rfl, rfl, by omega, by omega, rfl, by omega, by omega, rfl, trivial⟩ ?_
      refine S_ret ⟨_, _, rfl, trivial, ?_⟩
      rw [rTake, if_neg (by omega)]
      exact ⟨rfl, rfl⟩
theorem rnumber_ok (v : Nat) (s : List UInt8) (hs : s.length ≤ 9223372036854775806) :
    CallOk cx 60 [.ptr 0 v 0] (rd v s) (Rd v (rNum s) (fun n => .int .i64 (n : Nat))) :=
  callOk_intro (fun a w => Tryz.call60 a w) Tryz.func60 rfl Tryz.ntmps60 rfl fun B => by
    refine ab 1000 rfl ⟨rfl, trivial⟩ ?_
    refine S_pure rfl rfl rfl (ReadNumber_ok s hs) (.cons (.refl .str) (.nil _)) ?_
    refine ab 1000 rfl trivial ?_
    have hb := readN_bds s 0 0 (by decide)
    refine S_bne rfl (fun h => ?_) (fun h => ?_)
    · refine ab 1000 rfl trivial ?_
      refine S_panic rfl rfl rfl ?_
      show Rd v (rNum s) _ (.panic brk) _
      rw [rNum, if_neg (by omega)]
      exact ⟨rfl, s, rfl⟩
    · refine ab 1000 rfl trivial ?_
      have h0 : (readN s 0 0).2.2 = 0 := by omega
      have hrt : rTake (readN s 0 0).2.1 s = some (s.take (readN s 0 0).2.1, s.drop (readN s 0 0).2.1) := by
        rw [rTake, if_neg (by omega)]
      refine S_call rfl rfl rfl (take_ok v s (readN s 0 0).2.1 (by omega)) ?_ ?_
      · intro x σ' h
        rw [hrt] at h
        obtain ⟨h1, rfl⟩ := h
        refine ab 1000 rfl trivial ?_
        refine S_ret ⟨_, _, rfl, trivial, ?_⟩
        rw [rNum, if_pos h0]
        exact ⟨rfl, rfl⟩
      · intro x σ' h
        rw [hrt] at h
        cases h.1
theorem rtext_ok (v : Nat) (s : List UInt8) (hs : s.length ≤ 9223372036854775806) :
    CallOk cx 59 [.ptr 0 v 0] (rd v s) (Rd v (rText s) .str) :=
  callOk_intro (fun a w => Tryz.call59 a w) Tryz.func59 rfl Tryz.ntmps59 rfl fun B => by
    refine ab 1000 rfl trivial ?_
    refine S_call rfl rfl rfl (rnumber_ok v s hs) ?_ ?_
    · intro x σ' h
      cases hx : rNum s with
      | none => rw [hx] at h; cases h.1
      | some p =>
        obtain ⟨n, r⟩ := p
        rw [hx] at h
        obtain ⟨h1, rfl⟩ := h
        cases h1
        have hb := rNum_bd hx
        refine ab 1000 rfl trivial ?_
        refine S_call rfl rfl rfl (take_ok v r n (by omega)) ?_ ?_
        · intro y σ' h
          cases ht : rTake n r with
          | none => rw [ht] at h; cases h.1
          | some q =>
            rw [ht] at h
            obtain ⟨h1, rfl⟩ := h
            cases h1
            refine ab 1000 rfl trivial ?_
            refine S_ret ⟨_, _, rfl, trivial, ?_⟩
            simp only [rText, hx, ht]
            exact ⟨rfl, rfl⟩
        · intro y σ' h
          cases ht : rTake n r with
          | some q => rw [ht] at h; cases h.1
          | none =>
            rw [ht] at h
            obtain ⟨h1, r', rfl⟩ := h
            cases h1
            show Rd v (rText s) .str (.panic brk) _
            simp only [rText, hx, ht]
            exact ⟨rfl, r', rfl⟩
    · intro x σ' h
      cases hx : rNum s with
      | some p => rw [hx] at h; cases h.1
      | none =>
        rw [hx] at h
        obtain ⟨h1, r', rfl⟩ := h
        cases h1
        show Rd v (rText s) .str (.panic brk) _
        simp only [rText, hx]
        exact ⟨rfl, r', rfl⟩
theorem rmany_ok (v : Nat) (s : List UInt8) (hs : s.length ≤ 9223372036854775806) :
    CallOk cx 94 [.ptr 0 v 0] (rd v s) (Rd v (rMany s) (fun n => .int .i64 (n : Nat))) :=
  callOk_intro (fun a w => Tryz.call94 a w) Tryz.func94 rfl Tryz.ntmps94 rfl fun B => by
    refine ab 1000 rfl trivial ?_
    refine S_call rfl rfl rfl (rnumber_ok v s hs) ?_ ?_
    · intro x σ' h
      cases hx : rNum s with
      | none => rw [hx] at h; cases h.1
      | some p =>
        obtain ⟨n, r⟩ := p
        rw [hx] at h
        obtain ⟨h1, rfl⟩ := h
        cases h1
        have hb := rNum_bd hx
        refine ab 1000 rfl ⟨rfl, trivial⟩ ?_
        refine S_dec rfl (fun hh => ?_) (fun hh => ?_)
        · refine ab 1000 rfl trivial ?_
          refine S_panic rfl rfl rfl ?_
          show Rd v (rMany s) _ (.panic brk) _
          simp only [rMany, hx, if_pos (show r.length < n by omega)]
          exact ⟨rfl, r, rfl⟩
        · refine ab 1000 rfl trivial ?_
          refine S_ret ⟨_, _, rfl, trivial, ?_⟩
          simp only [rMany, hx, if_neg (show ¬ r.length < n by omega)]
          exact ⟨rfl, rfl⟩
    · intro x σ' h
      cases hx : rNum s with
      | some p => rw [hx] at h; cases h.1
      | none =>
        rw [hx] at h
        obtain ⟨h1, r', rfl⟩ := h
        cases h1
        show Rd v (rMany s) _ (.panic brk) _
        simp only [rMany, hx]
        exact ⟨rfl, r', rfl⟩
end Go.Proofs.YtjkeekbfgnmngaaGreatDoor
end
section
set_option linter.unusedVariables false
set_option linter.unusedSimpArgs false
set_option maxRecDepth 20000
namespace Go.Proofs.YtjkeekbfgnmngaaGreatDoor
open Go Go.Ab
theorem long_ok {st fl : Bool} (l : List (List UInt8)) (most : Nat) (hl : l.length ≤ 9223372036854775806) : Calc cx 48 [.sl st fl 1 (texts l), .int .i64 most] (.bool (l.any (fun s => decide (100000 < s.length)) || decide (most < l.length))) :=
  pure_intro (fun a w => Tryz.call48 a w) Tryz.func48 rfl Tryz.ntmps48 rfl .bool fun B => by
    refine ab 1000 rfl trivial ?_
    have htl : (texts l).length = l.length := by simp [texts]
    refine S_while (α := Nat) (fun i => [(0, .sl st fl 1 (texts l)), (1, .int .i64 most), (7, .sl st fl 1 (texts l)), (8, .int .i64 l.length), (9, .int .i64 i)]) (fun _ => []) (fun i => i ≤ l.length ∧ (l.take i).any (fun s => decide (100000 < s.length)) = false) (fun i => l.length - i) 0
      ⟨Nat.zero_le _, rfl⟩ (.cons rfl (.cons rfl (.cons rfl (.cons (by rw [← htl]; rfl) (.cons rfl (.nil _)))))) rfl ?_
    rintro i ⟨hi, hN⟩
    refine ab 1000 rfl trivial ?_
    refine S_dec rfl (fun hlt => ?_) (fun hlt => ?_)
    · have hil : i < l.length := by omega
      refine ab 1000 rfl trivial ?_
      refine S_index (.str l[i]) rfl rfl rfl ⟨rfl, by omega, by simp [texts, List.getElem?_eq_getElem hil], trivial⟩ ?_
      refine ab 1000 rfl trivial ?_
      refine S_dec rfl (fun hb => ?_) (fun hb => ?_)
      · have hb : 100000 < l[i].length := by omega
        refine ab 1000 rfl trivial ?_
        refine S_retc .bool rfl trivial ?_
        rw [show l.any (fun s => decide (100000 < s.length)) = true from List.any_eq_true.2 ⟨l[i], List.getElem_mem hil, by simpa using hb⟩]; rfl
      · have hb : ¬ 100000 < l[i].length := by omega
        refine ab 1000 rfl trivial ?_
        refine S_round (i + 1) (by show l.length - (i + 1) < l.length - i; omega) ⟨hil, ?_⟩ (.cons rfl (.cons rfl (.cons rfl (.cons rfl (.cons (ai64 rfl (by omega)) (.nil _)))))) rfl
        rw [List.take_succ_eq_append_getElem hil, List.any_append, hN]
        simp; omega
    · have hil : i = l.length := by omega
      refine ab 1000 rfl trivial ?_
      refine S_retc .bool rfl trivial ?_
      rw [hil, List.take_length] at hN
      rw [hN]
      show AV.bool (decide (((texts l).length : Int) > most)) = _
      rw [htl]
      congr 1
      simp only [Bool.false_or, decide_eq_decide]; omega
def packT (s : List UInt8) : List UInt8 := packN 9 s.length ++ s
def packTs (l : List (List UInt8)) : List UInt8 := packN 9 l.length ++ l.flatMap packT
theorem text_ok (v u : Nat) (a : AV) (ha : a = .nilp ∨ a = .ptr 0 v 0) (bs s : List UInt8) (hl : bs.length + 10 + s.length ≤ 140737488355328) :
    CallOk cx 54 [.ptr 0 v 0, .str s] (pk v u a bs) (fun o σ' => o = .ret (.tup []) ∧ ∃ u', σ' = pk v u' (.ptr 0 v 0) (bs ++ packT s)) :=
  callOk_intro (fun a w => Tryz.call54 a w) Tryz.func54 rfl Tryz.ntmps54 rfl fun B => by
    refine ab 1000 rfl trivial ?_
    have hpl := packN_len 9 s.length
    refine S_call rfl rfl rfl (number_ok v u a ha bs s.length (by omega) (by omega)) ?_ (fun v σ' h => by cases h.1)
    rintro _ _ ⟨⟨⟩, u', rfl⟩
    refine ab 1000 rfl trivial ?_
    refine S_call rfl rfl rfl (writeString_ok holdsPacker v u' _ (.inr rfl) (bs ++ packN 9 s.length) s (by simp; omega)) ?_ (fun v σ' h => by cases h.1)
    rintro _ _ ⟨⟨⟩, rfl⟩
    refine ab 1000 rfl trivial ?_
    refine S_nil ⟨_, _, rfl, trivial, rfl, u' + 1, ?_⟩
    simp only [packT, ← List.append_assoc]; rfl
theorem flatMap_packT_length : ∀ (l : List (List UInt8)) (h : ∀ s ∈ l, s.length ≤ 100000), (l.flatMap packT).length ≤ 100010 * l.length
  | [], _ => by simp
  | s :: r, h => by
    have h1 := flatMap_packT_length r (fun x hx => h x (List.mem_cons_of_mem _ hx))
    have h2 := h s (List.mem_cons_self ..)
    have h3 := packN_len 9 s.length
    rw [List.flatMap_cons, List.length_append, List.length_cons]
    simp only [packT, List.length_append]
    omega
theorem packerTexts_ok {st fl : Bool} (v u : Nat) (a : AV) (ha : a = .nilp ∨ a = .ptr 0 v 0) (bs : List UInt8) (l : List (List UInt8)) (hn : l.length ≤ 1048576) (hs : ∀ s ∈ l, s.length ≤ 100000) (hl : bs.length ≤ 1048576000) :
    CallOk cx 53 [.ptr 0 v 0, .sl st fl 1 (texts l)] (pk v u a bs) (fun o σ' => o = .ret (.tup []) ∧ ∃ u', σ' = pk v u' (.ptr 0 v 0) (bs ++ packTs l)) :=
  callOk_intro (fun a w => Tryz.call53 a w) Tryz.func53 rfl Tryz.ntmps53 rfl fun B => by
    refine ab 1000 rfl trivial ?_
    have hpl := packN_len 9 l.length
    have htl : (texts l).length = l.length := by simp [texts]
    refine S_call rfl rfl rfl (number_ok v u a ha bs (texts l).length (by omega) (by omega)) ?_ (fun v σ' h => by cases h.1)
    rintro _ _ ⟨⟨⟩, u', rfl⟩
    rw [htl]
    refine ab 1000 rfl trivial ?_
    refine S_while (α := Nat × Nat) (fun (i, u) => [(0, .ptr 0 v 0), (10, .sl st fl 1 (texts l)), (11, .int .i64 l.length), (12, .int .i64 i)]) (fun (i, u) => pk v u (.ptr 0 v 0) (bs ++ packN 9 l.length ++ (l.take i).flatMap packT)) (fun (i, u) => i ≤ l.length) (fun (i, u) => l.length - i) (0, u')
      (Nat.zero_le _) (.cons rfl (.cons rfl (.cons (by rw [← htl]; rfl) (.cons rfl (.nil _))))) (by simp only [List.take_zero, List.flatMap_nil, List.append_nil]; rfl) ?_
    rintro ⟨i, u⟩ hi
    have hfl := flatMap_packT_length (l.take i) (fun s h => hs s (List.mem_of_mem_take h))
    have htk : (l.take i).length ≤ 1048576 := by simp; omega
    refine ab 1000 rfl trivial ?_
    refine S_dec rfl (fun hlt => ?_) (fun hlt => ?_)
    · have hil : i < l.length := by omega
      have hsl := hs _ (List.getElem_mem hil)
      refine ab 1000 rfl trivial ?_
      refine S_index (.str l[i]) rfl rfl rfl ⟨rfl, by omega, by simp [texts, List.getElem?_eq_getElem hil], trivial⟩ ?_
      refine ab 1000 rfl trivial ?_
      refine S_call rfl rfl rfl (text_ok v u _ (.inr rfl) (bs ++ packN 9 l.length ++ (l.take i).flatMap packT) l[i] (by simp only [List.length_append]; omega)) ?_ (fun v σ' h => by cases h.1)
      rintro _ _ ⟨⟨⟩, u'', rfl⟩
      refine ab 1000 rfl trivial ?_
      refine S_round (i + 1, u'') (by show l.length - (i + 1) < l.length - i; omega) hil (.cons rfl (.cons rfl (.cons rfl (.cons (ai64 rfl (by omega)) (.nil _))))) ?_
      show pk _ _ _ _ = pk _ _ _ _
      rw [List.take_succ_eq_append_getElem hil]
      simp only [List.flatMap_append, List.flatMap_cons, List.flatMap_nil, List.append_nil, List.append_assoc]
    · have hil : i = l.length := by omega
      refine ab 1000 rfl trivial ?_
      refine S_nil ⟨_, _, rfl, trivial, rfl, u, ?_⟩
      rw [hil, List.take_length]
      show pk _ _ _ _ = pk _ _ _ _
      rw [packTs, List.append_assoc]
def textsOf (l : List (List UInt8)) : List UInt8 × Nat := if l.any (fun s => decide (100000 < s.length)) || decide (2000 < l.length) then ([], 2) else (packTs l, 0)
theorem Texts_ok {st fl : Bool} (l : List (List UInt8)) (hn : l.length ≤ 9223372036854775806) :
    Calc cx 78 [.sl st fl 1 (texts l)] (.tup [.str (textsOf l).1, .int .i64 (textsOf l).2]) :=
  pure_intro (fun a w => Tryz.call78 a w) Tryz.func78 rfl Tryz.ntmps78 rfl (ans_free _ _) fun B => by
    refine ab 1000 rfl trivial ?_
    refine S_pure rfl rfl rfl (long_ok (st := st) (fl := fl) l 2000 (by omega)) (.cons (.refl (.sl (fun h => by cases h) (texts_any l))) (.cons (.refl .int) (.nil _))) ?_
    refine ab 1000 rfl trivial ?_
    refine S_cond rfl (fun h => ?_) (fun h => ?_)
    · refine ab 1000 rfl trivial ?_
      refine S_retc (ans_free _ _) rfl trivial ?_
      rw [textsOf, if_pos h]; rfl
    · have hs : ∀ s ∈ l, s.length ≤ 100000 := by
        intro s hs
        simp only [Bool.or_eq_false_iff, List.any_eq_false, decide_eq_true_eq] at h
        have := h.1 s hs; omega
      have hn2 : l.length ≤ 2000 := by
        simp only [Bool.or_eq_false_iff, decide_eq_false_iff_not] at h
        omega
      refine ab 1000 rfl trivial ?_
      refine S_ghost 1 ⟨false, some 5⟩ (id := 0) (j := 1) rfl rfl rfl (show (0 : Nat) ≠ 1 by decide) ⟨.skip, _, .inr ⟨_, _, _, rfl⟩⟩ ?_
      refine S_call rfl rfl rfl (packerTexts_ok 0 0 .nilp (.inl rfl) [] l (by omega) hs (by decide)) ?_ (fun v σ' h => by cases h.1)
      rintro _ _ ⟨⟨⟩, u', rfl⟩
      refine ab 1000 rfl trivial ?_
      have hfl := flatMap_packT_length l hs
      have hpl := packN_len 9 l.length
      refine S_call rfl rfl rfl (done_ok 0 u' _ (packTs l) ?_ ?_) ?_ (fun v σ' h => by cases h.1)
      · simp [packTs, packN_ne]
      · simp only [packTs, List.length_append]; omega
      rintro _ _ ⟨⟨⟩, rfl⟩
      refine ab 1000 rfl trivial ?_
      refine S_retc (ans_free _ _) rfl trivial ?_
      rw [textsOf, if_neg (by rw [h]; decide)]; rfl
end Go.Proofs.YtjkeekbfgnmngaaGreatDoor
end
section
set_option linter.unusedVariables false
set_option linter.unusedSimpArgs false
set_option maxRecDepth 20000
namespace Go.Proofs.YtjkeekbfgnmngaaGreatDoor
open Go Go.Ab
theorem PackText_ok (s : List UInt8) (hs : s.length ≤ 9007199254740991) : Calc cx 123 [.str s] (.str (packN 9 s.length ++ s)) :=
  pure_intro (fun a w => Tryz.call123 a w) Tryz.func123 rfl Tryz.ntmps123 rfl .str fun B => by
    refine ab 1000 rfl trivial ?_
    refine S_pure rfl rfl rfl (PackNumber_ok s.length hs) (.cons (.refl .int) (.nil _)) ?_
    have := packN_len 9 s.length
    refine ab 1000 rfl ⟨by omega, trivial⟩ ?_
    exact S_retc .str rfl trivial rfl
end Go.Proofs.YtjkeekbfgnmngaaGreatDoor
end
section
set_option linter.unusedVariables false
set_option linter.unusedSimpArgs false
set_option maxRecDepth 20000
namespace Go.Proofs.YtjkeekbfgnmngaaGreatDoor
open Go Go.Ab
def rRep : Nat → List UInt8 → Option (List (List UInt8) × List UInt8)
  | 0, r => some ([], r)
  | n + 1, r =>
    match rText r with
    | none => none
    | some (t, r') =>
      match rRep n r' with
      | none => none
      | some (ts, r'') => some (t :: ts, r'')
def rTexts (s : List UInt8) : Option (List (List UInt8) × List UInt8) :=
  match rMany s with
  | none => none
  | some (n, r) => rRep n r
theorem rMany_bd {s r : List UInt8} {n : Nat} (h : rMany s = some (n, r)) : n ≤ r.length ∧ r.length + 1 ≤ s.length := by
  unfold rMany at h
  split at h
  · rename_i n' r' h1
    have := rNum_bd h1
    split at h
    · cases h
    · cases h; omega
  · cases h
def tb (u : Nat) (ts : List (List UInt8)) : Nat × Option Box := (u, some (.cells (texts ts) ⟨false, none⟩))
def RdTexts (v : Nat) (x : Option (List (List UInt8) × List UInt8)) : Out → Heap → Prop := fun o σ' =>
  match x with
  | some (ts, r) => ∃ u, o = .ret (.ms 1 u 0 ts.length 1 false) ∧ σ' = [rdE v r, tb u ts]
  | none => o = .panic brk ∧ ∃ r u ts, σ' = [rdE v r, tb u ts]
theorem rtexts_ok (v : Nat) (s : List UInt8) (hs : s.length ≤ 4398046511104) :
    CallOk cx 58 [.ptr 0 v 0] (rd v s) (RdTexts v (rTexts s)) :=
  callOk_intro (fun a w => Tryz.call58 a w) Tryz.func58 rfl Tryz.ntmps58 rfl fun B => by
    refine ab 1000 rfl trivial ?_
    refine S_ghostF (t := 3) 1 ⟨false, none⟩ rfl rfl ⟨.skip, _, .inr ⟨_, _, _, rfl⟩⟩ ?_
    refine S_rd 0 rfl rfl rfl rfl rfl (fun y h => by cases h) (rmany_ok v s (by omega)) (fun _ => .int) (fun n r hx => ?_) (fun hx r => ?_)
    · have hb := rMany_bd hx
      refine ab 1000 rfl trivial ?_
      refine S_while (α := List (List UInt8) × List UInt8 × Nat) (fun (ts, r, u) => [(0, .ptr 0 v 0), (3, .ms 1 u 0 ts.length 1 false), (5, .int .i64 n), (6, .int .i64 ts.length)]) (fun (ts, r, u) => [rdE v r, tb u ts])
        (fun (ts, r, u) => ts.length ≤ n ∧ ts.length + r.length ≤ s.length ∧ rTexts s = (match rRep (n - ts.length) r with | none => none | some (ts', r') => some (ts ++ ts', r'))) (fun (ts, r, u) => n - ts.length) ([], r, 0)
        ⟨Nat.zero_le _, by simp; omega, ?_⟩ (.cons rfl (.cons rfl (.cons rfl (.cons rfl (.nil _))))) rfl ?_
      · simp only [rTexts, hx, List.length_nil, Nat.sub_zero, List.nil_append]
        cases rRep n r <;> rfl
      rintro ⟨ts, r, u⟩ ⟨h1, h2, h3⟩
      refine ab 1000 rfl trivial ?_
      refine S_dec rfl (fun hlt => ?_) (fun hlt => ?_)
      · obtain ⟨m, hm⟩ : ∃ m, n - ts.length = m + 1 := ⟨n - ts.length - 1, by omega⟩
        rw [hm, rRep] at h3
        refine ab 1000 rfl trivial ?_
        refine S_rd 0 rfl rfl rfl rfl rfl (fun y h => by cases h) (rtext_ok v r (by omega)) (fun _ => .str) (fun t r' hx' => ?_) (fun hx' r' => ?_)
        · have hb' := rText_bd hx'
          rw [hx'] at h3
          refine ab 1000 rfl ⟨?_, ?_, ?_, rfl, rfl, allOne_mem (cs := [.str t]) rfl, allOne_mem (cs := [.str t]) rfl, rfl, trivial⟩ ?_
          · show ts.length + 1 ≤ 9223372036854775807; omega
          · show (ts.length + 1) * 16 ≤ 140737488355328; omega
          · show 0 + ts.length * 1 = (texts ts).length; simp [texts]
          refine S_round (ts ++ [t], r', u + 1) (by show n - (ts ++ [t]).length < n - ts.length; simp; omega) ⟨by simp; omega, by simp; omega, ?_⟩ (.cons rfl (.cons ?_ (.cons rfl (.cons ?_ (.nil _))))) ?_
          · rw [h3, show n - (ts ++ [t]).length = m by simp; omega]
            cases hq : rRep m r' <;> simp [hq]
          · show AV.ms 1 (u + 1) 0 (ts.length + 1) 1 false = _
            simp
          · show AV.int .i64 (IntKind.i64.wrap ((ts.length : Int) + 1)) = _
            exact ai64 (by simp) (by simp; omega)
          · show [rdE v r', (u + 1, some (Box.cells (texts ts ++ [.str t]) ⟨false, none⟩))] = _
            simp [texts, tb]
        · rw [hx'] at h3
          show RdTexts v (rTexts s) (.panic brk) _
          rw [h3]
          exact ⟨rfl, r', u, ts, rfl⟩
      · refine ab 1000 rfl trivial ?_
        refine S_ret ⟨_, _, rfl, trivial, ?_⟩
        have h0 : n - ts.length = 0 := by omega
        rw [h0, rRep] at h3
        rw [h3]
        exact ⟨u, by simp; rfl, by simp⟩
    · show RdTexts v (rTexts s) (.panic brk) _
      simp only [rTexts, hx]
      exact ⟨rfl, r, 0, [], rfl⟩
def readT (s : List UInt8) : List (List UInt8) × Nat :=
  match rTexts s with
  | none => ([], 1)
  | some (ts, _) => if textsOf ts = (s, 0) then (ts, 0) else ([], 1)
theorem readAV_free (x : List (List UInt8) × Nat) : Free true (.tup [.sl true false 1 (texts x.1), .int .i64 x.2]) := .tup (by intro y hy; simp at hy; rcases hy with rfl | rfl; exact .sl (fun _ => rfl) (texts_free _); exact .int)
theorem rRep_bd : ∀ (n : Nat) (r : List UInt8) {ts : List (List UInt8)} {r' : List UInt8}, rRep n r = some (ts, r') → ts.length = n ∧ ts.length + r'.length ≤ r.length
  | 0, r, ts, r', h => by cases h; simp
  | n + 1, r, ts, r', h => by
    rw [rRep] at h
    split at h
    · cases h
    · rename_i t r1 h1
      have hb := rText_bd h1
      split at h
      · cases h
      · rename_i ts1 r2 h2
        have := rRep_bd n r1 h2
        cases h
        simp only [List.length_cons]; omega
theorem rTexts_bd {s : List UInt8} {ts : List (List UInt8)} {r : List UInt8} (h : rTexts s = some (ts, r)) : ts.length + r.length + 1 ≤ s.length := by
  unfold rTexts at h
  split at h
  · cases h
  · rename_i n r1 h1
    have := rMany_bd h1
    have := rRep_bd n r1 h
    omega
def zb : Nat × Option Box := (0, some (.cells [] ⟨false, some 136⟩))
def xb (x : AV) : Nat × Option Box := (0, some (.cells [x] ⟨false, none⟩))
theorem closure_ret (x e : AV) (a b : Nat) (xa xb' : Box) (R : Md → Heap → Prop) (h : R .ret [xb x, xb e, (a, some xa), (b, some xb'), zb]) :
    DCall cx (.func (.func 107) [] [.ptr 0 0 0, .ptr 1 0 0]) .ret [xb x, xb e, (a, some xa), (b, some xb')] R :=
  dcall_recover (fun a w => Tryz.call107 a w) Tryz.func107 rfl Tryz.ntmps107 rfl rfl rfl rfl rfl rfl rfl fun B => by
    refine ab 1000 rfl ⟨lble rfl, rfl, trivial⟩ ?_
    refine S_cond rfl (fun h => by cases h) (fun _ => ?_)
    refine ab 1000 rfl trivial ?_
    exact S_nil ⟨_, _, rfl, trivial, _, rfl, h⟩
theorem closure_pan (x e : AV) (a b : Nat) (xa xb' : Box) (R : Md → Heap → Prop) (h : R (.pan brk true) [xb .nils, xb (.int .i64 1), (a, some xa), (b, some xb'), zb]) :
    DCall cx (.func (.func 107) [] [.ptr 0 0 0, .ptr 1 0 0]) (.pan brk false) [xb x, xb e, (a, some xa), (b, some xb')] R :=
  dcall_recover (fun a w => Tryz.call107 a w) Tryz.func107 rfl Tryz.ntmps107 rfl rfl rfl rfl rfl rfl rfl fun B => by
    refine ab 1000 rfl ⟨lble rfl, rfl, trivial⟩ ?_
    refine S_cond rfl (fun _ => ?_) (fun h => by cases h)
    refine ab 1000 rfl ⟨lble rfl, rfl, lble rfl, rfl, trivial⟩ ?_
    exact S_nil ⟨_, _, rfl, trivial, _, rfl, h⟩
theorem read_ok (s : List UInt8) (hs : s.length ≤ 4398046511104) :
    Calc cx 77 [.str s, .func (.func 58) [] [], .func (.func 78) [] []] (.tup [.sl true false 1 (texts (readT s).1), .int .i64 (readT s).2]) :=
  calc_of (readAV_free _) (callOk_introD (fun a w => Tryz.call77 a w) Tryz.func77 rfl Tryz.ntmps77 rfl fun B hB => by
    refine ab 1000 rfl trivial ?_
    refine S_defer rfl rfl rfl rfl hB ?_
    refine ab 1000 rfl trivial ?_
    refine S_callf [2] (rtexts_ok 0 s (by omega)) rfl (.cons (.ptr rfl) (.nil _)) (Part.mk' (es := [rdE 0 s]) rfl rfl (.cons (.live (.cells (.cons (.free .str) (.nil _)))) (.nil _))) rfl rfl ?_ ?_
    · intro y σ1 h
      cases hx : rTexts s with
      | none => rw [hx] at h; cases h.1
      | some p =>
        obtain ⟨ts, r⟩ := p
        have hb := rTexts_bd hx
        rw [hx] at h
        obtain ⟨u, h1, rfl⟩ := h
        cases h1
        refine ⟨.ms 3 u 0 ts.length 1 false, [rdE 0 r, tb u ts], .cons (.live (.cells (.cons (.free .str) (.nil _)))) (.cons (.live (.cells (Rns.free (texts_any ts)))) (.nil _)), .ms rfl, ?_⟩
        refine ab 1000 rfl trivial ?_
        have htl : (texts ts).length = ts.length := by simp [texts]
        refine S_pure rfl rfl rfl (Texts_ok (st := false) (fl := false) ts (by omega)) (.cons ?_ (.nil _)) ?_
        · exact .ms1 rfl (texts_one _) htl (texts_any _)
        refine ab 1000 rfl trivial ?_
        generalize hto : textsOf ts = to_
        obtain ⟨pt, pe⟩ := to_
        have good : ¬ (pt = s ∧ pe = 0) → readT s = ([], 1) := by
          intro h
          simp only [readT, hx, hto, Prod.mk.injEq]
          rw [if_neg h]
        refine S_guard rfl rfl rfl rfl (fun hg => ?_) (fun hg => ?_)
        · have hpe : pe ≠ 0 := by
            have hh : ((pe : Int) != 0) = true := hg
            intro e; subst e; exact absurd hh (by decide)
          refine ab 1000 rfl trivial ?_
          refine S_cond rfl (fun _ => ?_) (fun h => by cases h)
          refine ab 1000 rfl trivial ?_
          refine S_panic rfl rfl rfl ⟨_, rfl, closure_pan _ _ _ _ _ _ _ ⟨_, _, rfl, ⟨rfl, rfl, trivial⟩, _, rfl, ?_⟩⟩
          rw [good (fun h => hpe h.2)]
          exact Fzs.tup (.cons .nils (.cons (.refl .int) .nil))
        · have hpe : pe = 0 := by
            have hh : ((pe : Int) != 0) = false := hg
            simpa using hh
          subst hpe
          refine ab 1000 rfl trivial ?_
          refine S_cond rfl (fun h => ?_) (fun h => ?_)
          · have hne : ¬ pt = s := by simpa using h
            refine ab 1000 rfl trivial ?_
            refine S_panic rfl rfl rfl ⟨_, rfl, closure_pan _ _ _ _ _ _ _ ⟨_, _, rfl, ⟨rfl, rfl, trivial⟩, _, rfl, ?_⟩⟩
            rw [good (fun h => hne h.1)]
            exact Fzs.tup (.cons .nils (.cons (.refl .int) .nil))
          · have he : pt = s := by simpa using h
            subst he
            refine ab 1000 rfl ⟨lble rfl, rfl, lble rfl, rfl, trivial⟩ ?_
            refine S_ret ⟨_, rfl, closure_ret _ _ _ _ _ _ _ ⟨_, _, rfl, ⟨rfl, rfl, trivial⟩, _, rfl, ?_⟩⟩
            rw [show readT pt = (ts, 0) by simp only [readT, hx, hto, if_true]]
            exact Fzs.tup (.cons (.ms1 rfl (texts_one _) htl (texts_free _)) (.cons (.refl .int) .nil))
    · intro y σ1 h
      cases hx : rTexts s with
      | some p => obtain ⟨ts, r⟩ := p; rw [hx] at h; obtain ⟨u, h1, _⟩ := h; cases h1
      | none =>
        rw [hx] at h
        obtain ⟨h1, r, u, ts, rfl⟩ := h
        cases h1
        refine ⟨brk, [rdE 0 r, tb u ts], .cons (.live (.cells (.cons (.free .str) (.nil _)))) (.cons (.live (.cells (Rns.free (texts_any ts)))) (.nil _)), .iface (.agg rfl (fun i h => absurd h (by simp))), ?_⟩
        refine ⟨_, rfl, closure_pan _ _ _ _ _ _ _ ?_⟩
        refine ⟨_, _, rfl, ⟨rfl, rfl, trivial⟩, _, rfl, ?_⟩
        rw [show readT s = ([], 1) by simp only [readT, hx]]
        exact Fzs.tup (.cons .nils (.cons (.refl .int) .nil)))
theorem ReadTexts_ok (s : List UInt8) (hs : s.length ≤ 4398046511104) : Calc cx 39 [.str s] (.tup [.sl true false 1 (texts (readT s).1), .int .i64 (readT s).2]) :=
  pure_intro (fun a w => Tryz.call39 a w) Tryz.func39 rfl Tryz.ntmps39 rfl (readAV_free _) fun B => by
    refine ab 1000 rfl trivial ?_
    refine S_pure rfl rfl rfl (read_ok s hs) (.cons (.refl .str) (.cons (.refl (.func (fun x h => by cases h) (fun x h => by cases h))) (.cons (.refl (.func (fun x h => by cases h) (fun x h => by cases h))) (.nil _)))) ?_
    refine ab 1000 rfl trivial ?_
    exact S_retc (readAV_free _) rfl trivial rfl
theorem readT_a : readT [1, 1, 97] = ([[97]], 0) := by decide +kernel
theorem wireBegun_ok : Calc cx 15 [] (.bool true) :=
  pure_intro (fun a w => Tryz.call15 a w) Tryz.func15 rfl Tryz.ntmps15 rfl .bool fun B => by
    refine ab 1000 rfl trivial ?_
    refine S_pure rfl rfl rfl (Number_ok 300 (by decide)) (.cons (.refl .int) (.nil _)) ?_
    rw [show packN 9 300 = [172, 2] by decide]
    refine ab 1000 rfl trivial ?_
    refine S_pure rfl rfl rfl (ReadNumber_ok [172, 2] (by decide)) (.cons (.refl .str) (.nil _)) ?_
    rw [show readN [172, 2] 0 0 = (300, 2, 0) by decide]
    refine ab 1000 rfl trivial ?_
    have hT := ReadTexts_ok [1, 1, 97] (by decide)
    rw [readT_a] at hT
    refine S_pure rfl rfl rfl hT (.cons (.refl .str) (.nil _)) ?_
    refine ab 1000 rfl trivial ?_
    refine S_guard rfl rfl rfl rfl (fun _ => ?_) (fun h => absurd h (by decide))
    refine ab 1000 rfl trivial ?_
    refine S_guard rfl rfl rfl rfl (fun _ => ?_) (fun h => absurd h (by decide))
    refine ab 1000 rfl trivial ?_
    refine S_guard rfl rfl rfl rfl (fun _ => ?_) (fun h => absurd h (by decide))
    refine ab 1000 rfl trivial ?_
    refine S_guard rfl rfl rfl rfl (fun _ => ?_) (fun h => absurd h (by decide))
    refine ab 1000 rfl trivial ?_
    refine S_guard rfl rfl rfl rfl (fun _ => ?_) (fun h => absurd h (by decide))
    refine ab 1000 rfl trivial ?_
    refine S_pure rfl rfl rfl (SameTexts_ok (st := true) (st' := true) (fl := false) (fl' := true) [[97]] [[97]] (by decide) (by decide)) (.cons (.refl (.sl (fun h => by cases h) (texts_any [[97]]))) (.cons (.refl (.sl (fun h => by cases h) (texts_any [[97]]))) (.nil _))) ?_
    refine ab 1000 rfl trivial ?_
    exact S_retc .bool rfl trivial rfl
end Go.Proofs.YtjkeekbfgnmngaaGreatDoor
end
section
set_option linter.unusedVariables false
set_option linter.unusedSimpArgs false
set_option maxRecDepth 20000
namespace Go.Proofs.YtjkeekbfgnmngaaGreatDoor
open Go Go.Ab
def checkL (l : List (List UInt8)) (most : Nat) : Nat := if most < l.length then 2 else if l.any (fun s => decide (100000 < s.length)) then 2 else 0
end Go.Proofs.YtjkeekbfgnmngaaGreatDoor
end
section
set_option linter.unusedVariables false
set_option linter.unusedSimpArgs false
namespace Go.Ab
open Go Go.WideShapes
def laidB (P : Program) : List Field → Nat → Option Nat
  | [], o => some o
  | f :: r, o => match Nat.beq f.offset o with
    | true => laidB P r (o + P.cellsOf f.type)
    | false => none
mutual
def plainB (P : Program) : Nat → TypeId → Bool
  | 0, _ => false
  | n + 1, t => match P.underlying t with
    | some .bool => Nat.beq (P.cellsOf t) 1
    | some (.int _) => Nat.beq (P.cellsOf t) 1
    | some .string => Nat.beq (P.cellsOf t) 1
    | some (.slice e) => match Nat.beq (P.cellsOf t) 1, Nat.beq (P.cellsOf e) 0 with
      | true, false => plainB P n e
      | _, _ => false
    | some (.struct fs) => match laidB P fs.toList 0 with
      | some m => match Nat.beq (P.cellsOf t) m with
        | true => plainAll P n fs.toList
        | false => false
      | none => false
    | _ => false
def plainAll (P : Program) : Nat → List Field → Bool
  | 0, _ => false
  | n + 1, fs => match fs with
    | [] => true
    | f :: r => match plainB P n f.type with
      | true => plainAll P n r
      | false => false
end
inductive RdD (P : Program) {H : Type} : TypeId → DataW H → AV → Prop
  | bool {t b} (ht : P.underlying t = some .bool) : RdD P t (.lit (.bool b)) (.bool b)
  | int {t k n} (ht : P.underlying t = some (.int k)) (hw : (Lit.int k n).wf = true) : RdD P t (.lit (.int k n)) (.int k n)
  | str {t s} (ht : P.underlying t = some .string) (hs : s.length ≤ maxLen) : RdD P t (.lit (.string s)) (.str s)
  | nils {t e} (ht : P.underlying t = some (.slice e)) : RdD P t .nil (.sl true false (P.cellsOf e) [])
  | sl {t e} {ds rest : List (DataW H)} {xs : List AV} (ht : P.underlying t = some (.slice e)) (hl : xs.length = ds.length) (hm : xs.length ≤ maxLen) (h : ∀ i (h1 : i < ds.length) (h2 : i < xs.length), RdD P e ds[i] xs[i]) : RdD P t (.slice ds rest) (.sl true false (P.cellsOf e) xs)
  | st {t} {fs : Array Field} {ds : List (DataW H)} {xs : List AV} (ht : P.underlying t = some (.struct fs)) (hd : ds.length = fs.size) (hx : xs.length = fs.size) (h : ∀ i (h1 : i < ds.length) (h2 : i < xs.length) (h3 : i < fs.size), RdD P fs[i].type ds[i] xs[i]) : RdD P t (.agg ds) (.agg (xs.flatMap AV.cells))
def CellsV (w : World) (cs : List Value) (az : List AV) : Prop := cs.length = az.length ∧ ∀ i (h1 : i < cs.length) (h2 : i < az.length), VRel (Rl.old w) w cs[i] az[i]
theorem CellsV.one {w : World} {v : Value} {a : AV} (h : VRel (Rl.old w) w v a) : CellsV w [v] [a] := by
  refine ⟨rfl, fun i h1 h2 => ?_⟩
  obtain rfl : i = 0 := by simpa using h1
  exact h
theorem laidB_flat {P : Program} : ∀ (fs : List Field) (o m : Nat) (w : World) (cs : List Value) (xs : List AV), laidB P fs o = some m → xs.length = fs.length → (∀ i (h1 : i < fs.length) (h2 : i < xs.length), CellsV w ((cs.drop fs[i].offset).take (P.cellsOf fs[i].type)) xs[i].cells ∧ xs[i].cells.length = P.cellsOf fs[i].type) →
    cs.length = m → o ≤ m ∧ CellsV w (cs.drop o) (xs.flatMap AV.cells)
  | [], o, m, w, cs, xs, h, hl, hc, hm => by
    simp only [laidB, Option.some.injEq] at h
    obtain rfl : xs = [] := List.eq_nil_of_length_eq_zero hl
    subst h
    refine ⟨Nat.le_refl _, ?_⟩
    rw [List.drop_of_length_le (by omega)]
    exact ⟨rfl, fun i h => absurd h (by simp)⟩
  | f :: r, o, m, w, cs, xs, h, hl, hc, hm => by
    rw [laidB] at h
    split at h
    case h_2 => cases h
    rename_i hb
    have ho := Nat.eq_of_beq_eq_true hb
    obtain ⟨x, xs, rfl⟩ : ∃ x xs', xs = x :: xs' := by
      cases xs with
      | nil => simp at hl
      | cons x xs => exact ⟨x, xs, rfl⟩
    have h0 := hc 0 (by simp) (by simp)
    simp only [List.getElem_cons_zero] at h0
    obtain ⟨h1, h2⟩ := laidB_flat r (o + P.cellsOf f.type) m w cs xs h (by simpa using hl) (fun i k1 k2 => hc (i + 1) (Nat.succ_lt_succ k1) (Nat.succ_lt_succ k2)) hm
    refine ⟨by omega, ?_⟩
    obtain ⟨⟨e1, e2⟩, e3⟩ := h0
    rw [ho] at e1 e2
    rw [List.flatMap_cons]
    have hsplit : cs.drop o = (cs.drop o).take (P.cellsOf f.type) ++ cs.drop (o + P.cellsOf f.type) := by
      rw [← List.drop_drop, List.take_append_drop]
    rw [hsplit]
    refine ⟨by rw [List.length_append, List.length_append, e1, h2.1], fun i k1 k2 => ?_⟩
    by_cases hi : i < x.cells.length
    · rw [List.getElem_append_left (by omega), List.getElem_append_left hi]
      exact e2 i (by omega) hi
    · rw [List.getElem_append_right (by omega), List.getElem_append_right (by omega)]
      have : i - ((cs.drop o).take (P.cellsOf f.type)).length = i - x.cells.length := by omega
      simp only [this]
      exact h2.2 _ _ _
theorem read_cells {H : Type} {enc : TypeId × Value → H} {P : Program} {W : World} : ∀ (fuel n : Nat) (t : TypeId) (cs : List Value) (d : DataW H) (ps : List MemPlace), DataW.trod enc P W 0 (fun _ => true) true fuel t cs = some (d, ps) → plainB P n t = true →
    ∃ a, RdD P t d a ∧ a.cells.length = P.cellsOf t ∧ CellsV W cs a.cells ∧ (∀ v, (∃ xs, v = .agg xs ∧ xs.toList = cs ∧ aggT P t = some true) ∨ ([v] = cs ∧ aggT P t = some false) → VRel (Rl.old W) W v a) := by
  intro fuel
  induction fuel with
  | zero => intro n t cs d ps h _; simp [DataW.trod] at h
  | succ fuel ih =>
    intro n t cs d ps h hp
    have hall : ∀ (n : Nat) (fs : List Field), plainAll P n fs = true → ∀ i (hi : i < fs.length), ∃ m, plainB P m fs[i].type = true := by
      intro n
      induction n with
      | zero => intro fs h; simp [plainAll] at h
      | succ n ihn =>
        intro fs h i hi
        cases fs with
        | nil => simp at hi
        | cons f r =>
          rw [plainAll] at h
          split at h
          · rename_i hb
            cases i with
            | zero => exact ⟨n, hb⟩
            | succ i => exact ihn r h i (by simpa using hi)
          · cases h
    cases n with
    | zero => simp [plainB] at hp
    | succ n =>
      rw [plainB] at hp
      split at hp
      ·
        rename_i ht
        obtain ⟨b, rfl, hx⟩ := DataW.trod_bool ht h
        cases hx
        refine ⟨.bool b, .bool ht, (Nat.eq_of_beq_eq_true hp).symm, .one .bool, ?_⟩
        rintro v (⟨xs, rfl, h1, h2⟩ | ⟨h1, h2⟩)
        · simp [aggT, ht] at h2
        · cases h1; exact .bool
      · rename_i k ht
        obtain ⟨m, rfl, hx, hw⟩ := DataW.trod_int ht h
        cases hx
        refine ⟨.int _ m, .int ht hw, (Nat.eq_of_beq_eq_true hp).symm, .one .int, ?_⟩
        rintro v (⟨xs, rfl, h1, h2⟩ | ⟨h1, h2⟩)
        · simp [aggT, ht] at h2
        · cases h1; exact .int
      · rename_i ht
        obtain ⟨s, rfl, hx, hw⟩ := DataW.trod_string ht h
        cases hx
        refine ⟨.str s.data.toList, .str ht (by rw [Array.length_toList]; exact hw), (Nat.eq_of_beq_eq_true hp).symm, .one (.str rfl), ?_⟩
        rintro v (⟨xs, rfl, h1, h2⟩ | ⟨h1, h2⟩)
        · simp [aggT, ht] at h2
        · cases h1; exact .str rfl
      ·
        rename_i e ht
        split at hp
        case h_2 => cases hp
        rename_i hc1 hc0
        have hc1 := Nat.eq_of_beq_eq_true hc1
        have hpos : 0 < P.cellsOf e := by
          rcases Nat.eq_zero_or_pos (P.cellsOf e) with h0 | h0
          · rw [h0] at hc0; cases hc0
          · exact h0
        rcases DataW.trod_slice ht h with ⟨rfl, hx⟩ | ⟨a, len, cap, elems, rest, fu, hfu, rfl, hx, _, hl, hm, hlen, hel, hsp, hns⟩
        · cases hx
          refine ⟨_, .nils ht, hc1.symm, .one (.sl0 (fun h => by cases h)), ?_⟩
          rintro v (⟨xs, rfl, h1, h2⟩ | ⟨h1, h2⟩)
          · simp [aggT, ht] at h2
          · cases h1; exact .sl0 (fun h => by cases h)
        · cases hx
          obtain rfl : fuel = fu := by omega
          have each : ∀ i (hi : i < elems.length), ∃ x, RdD P e (elems[i]).1 x ∧ x.cells.length = P.cellsOf e ∧ ∃ ecs : List Value, W.cells? 0 (a.add (i * P.cellsOf e)) (P.cellsOf e) = some ecs ∧ CellsV W ecs x.cells := by
            intro i hi
            have h1 := hel i (by omega)
            rw [List.getElem?_eq_getElem hi, Option.bind_eq_some_iff] at h1
            obtain ⟨ecs, h2, h3⟩ := h1
            obtain ⟨x, k1, k2, k3, _⟩ := ih n e ecs (elems[i]).1 (elems[i]).2 h3 hp
            exact ⟨x, k1, k2, ecs, h2, k3⟩
          have : ∃ xs : List AV, xs.length = elems.length ∧ ∀ i (hi : i < elems.length) (hx : i < xs.length), RdD P e (elems[i]).1 xs[i] ∧ xs[i].cells.length = P.cellsOf e ∧ ∃ ecs : List Value, W.cells? 0 (a.add (i * P.cellsOf e)) (P.cellsOf e) = some ecs ∧ CellsV W ecs xs[i].cells := by
            refine ⟨(List.finRange elems.length).map fun i => Classical.choose (each i.1 i.2), by simp, fun i hi hx => ?_⟩
            simp only [List.getElem_map, List.getElem_finRange]
            exact Classical.choose_spec (each i hi)
          obtain ⟨xs, hxl, hxs⟩ := this
          have hv : VRel (Rl.old W) W (.slice (some a) len cap) (.sl true false (P.cellsOf e) xs) := by
            rcases Nat.eq_zero_or_pos len with h0 | h0
            · subst h0
              obtain rfl : xs = [] := List.eq_nil_of_length_eq_zero (by omega)
              exact .sl0 (fun h => by cases h)
            · obtain ⟨b, o, sp⟩ := a
              obtain ⟨_, _, ecs0, hc, _⟩ := hxs 0 (by omega) (by omega)
              obtain ⟨_, hcl, hcc⟩ := World.cells?_some hc
              have hcell0 := hcc 0 hpos
              rw [List.getElem?_eq_getElem (by omega)] at hcell0
              have hsp : sp = none := by
                cases sp with
                | none => rfl
                | some s =>
                  simp [Addr.add, World.cell?] at hcell0
                  split at hcell0 <;> cases hcell0
              subst hsp
              have hb : b < W.heap.size := by
                rw [Addr.add_lit] at hcell0
                rcases Nat.lt_or_ge b W.heap.size with h | h
                · exact h
                · simp [World.cell?, Addr.add, Array.getElem?_eq_none h] at hcell0
              have hcel : ∀ i, i < xs.length → ∀ j, j < P.cellsOf e → ∃ v, W.cell? ⟨b, o + i * P.cellsOf e + j, none⟩ = some v ∧ ∀ (hi : i < xs.length) (hj : j < (AV.cells xs[i]).length), VRel (Rl.old W) W v (AV.cells xs[i])[j] := by
                intro i hi j hj
                obtain ⟨_, hxc, ecs, hc, hcv⟩ := hxs i (by omega) hi
                obtain ⟨_, hcl, hcc⟩ := World.cells?_some hc
                have h1 := hcc j hj
                rw [List.getElem?_eq_getElem (by omega)] at h1
                rw [Addr.add_lit, Addr.add_lit] at h1
                refine ⟨ecs[j], h1, fun _ hj' => hcv.2 j _ hj'⟩
              refine .sl (by omega) hl (fun h => by cases h) hb (fun _ => hb) (fun x hx => ?_) (fun i j => (W.cell? ⟨b, o + i * P.cellsOf e + j, none⟩).getD undef) (fun i hi j hj => ?_) (fun i hi j hj => ?_)
              · obtain ⟨i, hi, rfl⟩ := List.getElem_of_mem hx
                exact (hxs i (by omega) hi).2.1
              · obtain ⟨v, h1, _⟩ := hcel i hi j hj
                rw [h1]; rfl
              · obtain ⟨v, h1, h2⟩ := hcel i hi j (by rw [(hxs i (by omega) hi).2.1] at hj; exact hj)
                rw [h1]
                exact h2 hi hj
          refine ⟨.sl true false (P.cellsOf e) xs, .sl ht (by simp [hxl]) (by omega) (fun i h1 h2 => by simpa using (hxs i (by simpa using h1) h2).1), hc1.symm, .one hv, ?_⟩
          rintro v (⟨ys, rfl, h1, h2⟩ | ⟨h1, h2⟩)
          · simp [aggT, ht] at h2
          · cases h1; exact hv
      ·
        rename_i fs ht
        split at hp
        case h_2 => cases hp
        rename_i m hm
        split at hp
        case h_2 => cases hp
        rename_i hcm
        have hcm := Nat.eq_of_beq_eq_true hcm
        obtain ⟨ys, fu, hfu, hx, hl, hyl, hy⟩ := DataW.trod_struct ht h
        obtain rfl : fuel = fu := by omega
        cases hx
        have each : ∀ i (hi : i < fs.toList.length) (hi' : i < ys.length), ∃ x, RdD P (fs.toList[i]).type (ys[i]).1 x ∧ x.cells.length = P.cellsOf (fs.toList[i]).type ∧ CellsV W ((cs.drop (fs.toList[i]).offset).take (P.cellsOf (fs.toList[i]).type)) x.cells := by
          intro i hi hi'
          have h1 := hy i (fs.toList[i]) (by simp at hi; simp [hi])
          rw [List.getElem?_eq_getElem hi'] at h1
          obtain ⟨k, hk⟩ := hall n fs.toList hp i hi
          obtain ⟨x, k1, k2, k3, _⟩ := ih k _ _ (ys[i]).1 (ys[i]).2 h1 hk
          exact ⟨x, k1, k2, k3⟩
        have hfl : fs.toList.length = ys.length := by simp [hyl]
        have : ∃ xs : List AV, xs.length = fs.toList.length ∧ ∀ i (hi : i < fs.toList.length) (hi' : i < ys.length) (hx : i < xs.length), RdD P (fs.toList[i]).type (ys[i]).1 xs[i] ∧ xs[i].cells.length = P.cellsOf (fs.toList[i]).type ∧ CellsV W ((cs.drop (fs.toList[i]).offset).take (P.cellsOf (fs.toList[i]).type)) xs[i].cells := by
          refine ⟨(List.finRange fs.toList.length).map fun i => Classical.choose (each i.1 i.2 (by omega)), by simp, fun i hi hi' hx => ?_⟩
          simp only [List.getElem_map, List.getElem_finRange]
          exact Classical.choose_spec (each i hi hi')
        obtain ⟨xs, hxl, hxs⟩ := this
        obtain ⟨_, hcv⟩ := laidB_flat fs.toList 0 m W cs xs hm hxl (fun i h1 h2 => ⟨(hxs i h1 (by omega) h2).2.2, (hxs i h1 (by omega) h2).2.1⟩) (by omega)
        rw [List.drop_zero] at hcv
        refine ⟨.agg (xs.flatMap AV.cells), .st ht (by simp [hyl]) (by simpa using hxl) (fun i h1 h2 h3 => by
          have := (hxs i (by simpa using h3) (by simpa using h1) h2).1
          simp only [Array.getElem_toList, List.getElem_map] at this ⊢
          exact this), by show (xs.flatMap AV.cells).length = _; rw [← hcv.1]; omega, hcv, ?_⟩
        rintro v (⟨zs, rfl, h1, h2⟩ | ⟨h1, h2⟩)
        · refine .agg (by rw [← hcv.1, ← h1]; simp) (fun i hi => ?_)
          have h3 : i < cs.length := by rw [hcv.1]; exact hi
          have := hcv.2 i h3 hi
          subst h1
          rw [Array.getD_eq_getD_getElem?, Array.getElem?_eq_getElem (by simpa using h3)]
          simpa using this
        · simp [aggT, ht] at h2
      · cases hp
theorem read_plain {H : Type} {enc : TypeId × Value → H} {P : Program} {W : World} {r : Reach} {base : Nat} {n : Nat} {t : TypeId} {v : Value} {d : DataW H} {ps : List MemPlace} (hp : plainB P n t = true) (hv : Value.okWide P W r base t v)
    (h : DataW.Trod enc P W 0 (fun _ => true) true t v d ps) : ∃ a, VRel (Rl.old W) W v a ∧ RdD P t d a := by
  obtain ⟨fuel, hf⟩ := h
  obtain ⟨a, h1, _, _, h2⟩ := read_cells fuel n t _ d ps hf hp
  refine ⟨a, h2 v ?_, h1⟩
  cases n with
  | zero => simp [plainB] at hp
  | succ n =>
    rw [plainB] at hp
    split at hp
    · rename_i ht
      obtain ⟨b, rfl⟩ := okWide_bool ht hv
      exact .inr ⟨rfl, by simp [aggT, ht]⟩
    · rename_i k ht
      obtain ⟨b, rfl⟩ := okWide_int ht hv
      exact .inr ⟨rfl, by simp [aggT, ht]⟩
    · rename_i ht
      obtain ⟨b, rfl⟩ := okWide_string ht hv
      exact .inr ⟨rfl, by simp [aggT, ht]⟩
    · rename_i e ht
      obtain ⟨a, len, cap, rfl⟩ := okWide_slice ht hv
      exact .inr ⟨rfl, by simp [aggT, ht]⟩
    · rename_i fs ht
      obtain ⟨cs, rfl, _⟩ := okWide_struct ht hv
      exact .inl ⟨cs, rfl, rfl, by simp [aggT, ht]⟩
    · cases hp
def RdDAll (P : Program) {H : Type} : List Field → List (DataW H) → List AV → Prop
  | [], [], [] => True
  | f :: fs, d :: ds, x :: xs => RdD P f.type d x ∧ RdDAll P fs ds xs
  | _, _, _ => False
theorem RdDAll.of {P : Program} {H : Type} : ∀ {fs : List Field} {ds : List (DataW H)} {xs : List AV}, ds.length = fs.length → xs.length = fs.length → (∀ i (h1 : i < ds.length) (h2 : i < xs.length) (h3 : i < fs.length), RdD P fs[i].type ds[i] xs[i]) → RdDAll P fs ds xs
  | [], ds, xs, h1, h2, _ => by
    obtain rfl : ds = [] := List.eq_nil_of_length_eq_zero h1
    obtain rfl : xs = [] := List.eq_nil_of_length_eq_zero h2
    trivial
  | f :: fs, ds, xs, h1, h2, h => by
    cases ds with
    | nil => simp at h1
    | cons d ds =>
      cases xs with
      | nil => simp at h2
      | cons x xs =>
        exact ⟨h 0 (by simp) (by simp) (by simp), RdDAll.of (by simpa using h1) (by simpa using h2) (fun i k1 k2 k3 => h (i + 1) (Nat.succ_lt_succ k1) (Nat.succ_lt_succ k2) (Nat.succ_lt_succ k3))⟩
theorem RdDAll.cons {P : Program} {H : Type} {f : Field} {fs : List Field} {ds : List (DataW H)} {xs : List AV} (h : RdDAll P (f :: fs) ds xs) : ∃ d ds' x xs', ds = d :: ds' ∧ xs = x :: xs' ∧ RdD P f.type d x ∧ RdDAll P fs ds' xs' := by
  match ds, xs, h with
  | d :: ds', x :: xs', ⟨h1, h2⟩ => exact ⟨d, ds', x, xs', rfl, rfl, h1, h2⟩
theorem RdDAll.nil {P : Program} {H : Type} {ds : List (DataW H)} {xs : List AV} (h : RdDAll P [] ds xs) : ds = [] ∧ xs = [] := by
  match ds, xs, h with
  | [], [], _ => exact ⟨rfl, rfl⟩
section
variable {P : Program} {H : Type} {t : TypeId} {d : DataW H} {a : AV}
theorem RdD.inv_st {fs : Array Field} (h : RdD P t d a) (ht : P.underlying t = some (.struct fs)) : ∃ ds xs, d = .agg ds ∧ a = .agg (xs.flatMap AV.cells) ∧ RdDAll P fs.toList ds xs := by
  cases h with
  | st ht' hd hx h =>
    rw [ht] at ht'
    cases ht'
    exact ⟨_, _, rfl, rfl, .of (by simpa using hd) (by simpa using hx) (fun i h1 h2 h3 => by simpa using h i h1 h2 (by simpa using h3))⟩
  | bool ht' => rw [ht] at ht'; cases ht'
  | str ht' => rw [ht] at ht'; cases ht'
  | int ht' => rw [ht] at ht'; cases ht'
  | nils ht' => rw [ht] at ht'; cases ht'
  | sl ht' => rw [ht] at ht'; cases ht'
theorem RdD.inv_str (h : RdD P t d a) (ht : P.underlying t = some .string) : ∃ s, d = .lit (.string s) ∧ a = .str s ∧ s.length ≤ maxLen := by
  cases h with
  | str ht' hs => exact ⟨_, rfl, rfl, hs⟩
  | bool ht' => rw [ht] at ht'; cases ht'
  | int ht' => rw [ht] at ht'; cases ht'
  | nils ht' => rw [ht] at ht'; cases ht'
  | sl ht' => rw [ht] at ht'; cases ht'
  | st ht' => rw [ht] at ht'; cases ht'
theorem RdD.inv_int {k : IntKind} (h : RdD P t d a) (ht : P.underlying t = some (.int k)) : ∃ n, d = .lit (.int k n) ∧ a = .int k n ∧ (Lit.int k n).wf = true := by
  cases h with
  | int ht' hs => rw [ht] at ht'; cases ht'; exact ⟨_, rfl, rfl, hs⟩
  | bool ht' => rw [ht] at ht'; cases ht'
  | str ht' => rw [ht] at ht'; cases ht'
  | nils ht' => rw [ht] at ht'; cases ht'
  | sl ht' => rw [ht] at ht'; cases ht'
  | st ht' => rw [ht] at ht'; cases ht'
theorem RdD.inv_bool (h : RdD P t d a) (ht : P.underlying t = some .bool) : ∃ b, d = .lit (.bool b) ∧ a = .bool b := by
  cases h with
  | bool ht' => exact ⟨_, rfl, rfl⟩
  | int ht' => rw [ht] at ht'; cases ht'
  | str ht' => rw [ht] at ht'; cases ht'
  | nils ht' => rw [ht] at ht'; cases ht'
  | sl ht' => rw [ht] at ht'; cases ht'
  | st ht' => rw [ht] at ht'; cases ht'
theorem RdD.inv_sl {e : TypeId} (h : RdD P t d a) (ht : P.underlying t = some (.slice e)) :
    ∃ (ds : List (DataW H)) (xs : List AV), a = .sl true false (P.cellsOf e) xs ∧ xs.length = ds.length ∧ xs.length ≤ maxLen ∧ (∀ i (h1 : i < ds.length) (h2 : i < xs.length), RdD P e ds[i] xs[i]) ∧ ((d = .nil ∧ ds = []) ∨ ∃ rest, d = .slice ds rest) := by
  cases h with
  | nils ht' => rw [ht] at ht'; cases ht'; exact ⟨[], [], rfl, rfl, Nat.zero_le _, fun i h => absurd h (by simp), .inl ⟨rfl, rfl⟩⟩
  | sl ht' hl hm h => rw [ht] at ht'; cases ht'; exact ⟨_, _, rfl, hl, hm, h, .inr ⟨_, rfl⟩⟩
  | bool ht' => rw [ht] at ht'; cases ht'
  | int ht' => rw [ht] at ht'; cases ht'
  | str ht' => rw [ht] at ht'; cases ht'
  | st ht' => rw [ht] at ht'; cases ht'
theorem RdD.each {α : Type} {e : TypeId} (f : α → AV) (g : α → DataW H → Prop) {ds : List (DataW H)} {xs : List AV} (hl : xs.length = ds.length) (h : ∀ i (h1 : i < ds.length) (h2 : i < xs.length), RdD P e ds[i] xs[i])
    (hf : ∀ d x, RdD P e d x → ∃ y, x = f y ∧ g y d) : ∃ ys : List α, xs = ys.map f ∧ ys.length = ds.length ∧ ∀ i (h1 : i < ds.length) (h2 : i < ys.length), g ys[i] ds[i] := by
  induction xs generalizing ds with
  | nil =>
    obtain rfl : ds = [] := List.eq_nil_of_length_eq_zero (by simpa using hl.symm)
    exact ⟨[], rfl, rfl, fun i h => absurd h (by simp)⟩
  | cons x xs ih =>
    cases ds with
    | nil => simp at hl
    | cons d ds =>
      obtain ⟨y, hy, hg⟩ := hf d x (h 0 (by simp) (by simp))
      obtain ⟨ys, h1, h2, h3⟩ := ih (ds := ds) (by simpa using hl) (fun i k1 k2 => h (i + 1) (Nat.succ_lt_succ k1) (Nat.succ_lt_succ k2))
      refine ⟨y :: ys, by rw [hy, h1]; rfl, by simp [h2], fun i k1 k2 => ?_⟩
      cases i with
      | zero => exact hg
      | succ i => exact h3 i (Nat.lt_of_succ_lt_succ k1) (Nat.lt_of_succ_lt_succ k2)
end
end Go.Ab
end
section
set_option linter.unusedVariables false
set_option linter.unusedSimpArgs false
namespace Go.Ab
open Go Go.WideShapes
mutual
def avB : AV → Nat
  | .str s => s.length
  | .sl _ _ _ xs => avS xs
  | .agg cs => avC cs
  | _ => 0
def avS : List AV → Nat
  | [] => 0
  | x :: r => avB x + 1 + avS r
def avC : List AV → Nat
  | [] => 0
  | x :: r => avB x + avC r
end
theorem avC_append (a b : List AV) : avC (a ++ b) = avC a + avC b := by
  induction a with
  | nil => simp [avC]
  | cons x a ih => simp only [List.cons_append, avC, ih]; omega
theorem avC_cells (x : AV) : avC x.cells ≤ avB x := by
  cases x <;> simp [AV.cells, avC, avB]
theorem avC_flat (xs : List AV) : avC (xs.flatMap AV.cells) ≤ avC xs := by
  induction xs with
  | nil => simp
  | cons x xs ih =>
    have := avC_cells x
    simp only [List.flatMap_cons, avC_append, avC]; omega
theorem avC_le_avS (xs : List AV) : avC xs ≤ avS xs := by
  induction xs with
  | nil => simp [avC, avS]
  | cons x xs ih => simp only [avC, avS]; omega
theorem avS_mem {x : AV} : ∀ {xs : List AV}, x ∈ xs → avB x + 1 ≤ avS xs
  | y :: ys, h => by
    rcases List.mem_cons.1 h with rfl | h
    · simp only [avS]; omega
    · have := avS_mem h; simp only [avS]; omega
theorem avS_len : ∀ xs : List AV, xs.length ≤ avS xs
  | [] => Nat.zero_le _
  | x :: xs => by have := avS_len xs; simp only [avS, List.length_cons]; omega
theorem bulk_all {P : Program} {H : Type} {B : DataW H → Nat} {BA : List (DataW H) → Nat} (hn : BA [] = 0) (hc : ∀ d r, BA (d :: r) = B d + BA r) : ∀ {ds : List (DataW H)} {xs : List AV}, xs.length = ds.length →
    (∀ i (h1 : i < ds.length) (h2 : i < xs.length), avB xs[i] + 1 ≤ B ds[i]) → avS xs ≤ BA ds
  | [], xs, hl, h => by
    obtain rfl : xs = [] := List.eq_nil_of_length_eq_zero (by simpa using hl)
    simp [avS]
  | d :: ds, xs, hl, h => by
    cases xs with
    | nil => simp at hl
    | cons x xs =>
      have h0 := h 0 (by simp) (by simp)
      have := bulk_all (P := P) (B := B) hn hc (ds := ds) (xs := xs) (by simpa using hl) (fun i h1 h2 => h (i + 1) (Nat.succ_lt_succ h1) (Nat.succ_lt_succ h2))
      simp only [avS, hc]
      simp only [List.getElem_cons_zero] at h0
      omega
theorem RdD.bulk {P : Program} {H : Type} {B : DataW H → Nat} {BA : List (DataW H) → Nat} (hn : BA [] = 0) (hc : ∀ d r, BA (d :: r) = B d + BA r) (h1 : ∀ d, 1 ≤ B d) (hs : ∀ s, B (.lit (.string s)) = s.length + 1)
    (hsl : ∀ a b, B (.slice a b) = BA a + BA b + 1) (hag : ∀ a, B (.agg a) = BA a + 1) {t : TypeId} {d : DataW H} {a : AV} (h : RdD P t d a) : avB a + 1 ≤ B d := by
  induction h with
  | bool => simpa [avB] using h1 _
  | int => simpa [avB] using h1 _
  | str => simp [avB, hs]
  | nils => simpa [avB, avS] using h1 _
  | sl ht hl hm h ih =>
    have := bulk_all (P := P) (B := B) hn hc hl ih
    rw [hsl]; simp only [avB]; omega
  | st ht hd hx h ih =>
    have := bulk_all (P := P) (B := B) hn hc (by omega) (fun i a b => ih i a b (by omega))
    rw [hag]; simp only [avB]
    rename_i t fs ds xs
    have k1 := avC_flat xs
    have k2 := avC_le_avS xs
    omega
end Go.Ab
end
section
set_option linter.unusedVariables false
set_option linter.unusedSimpArgs false
set_option maxRecDepth 20000
namespace Go.Proofs.YtjkeekbfgnmngaaGreatDoor
open Go Go.Ab
structure ActV where
  cmd : List (List UInt8)
  inp : List UInt8
  outs : List (List UInt8)
  fuel : Int
def actAV (st : Bool) (a : ActV) : AV := .agg [.sl st false 1 (texts a.cmd), .str a.inp, .sl st false 1 (texts a.outs), .int .i64 a.fuel]
theorem actAV_free {st st' : Bool} (h : st' = true → st = true) (a : ActV) : Free st' (actAV st a) := .agg (by
  intro x hx; simp at hx; rcases hx with rfl | rfl | rfl | rfl
  · exact .sl h (texts_any _)
  · exact .str
  · exact .sl h (texts_any _)
  · exact .int)
def isNumB (n : Int) : Bool := decide (0 ≤ n) && decide (n ≤ 9007199254740991)
def actE (a : ActV) : Nat :=
  if checkL a.cmd 60 ≠ 0 ∨ 60 < a.outs.length then 2
  else if isDig a.inp = false then 1
  else if a.outs.all isPathB = false then 1
  else if riseB a.outs = false then 6
  else if isNumB a.fuel = false then 3 else 0
def packA (a : ActV) : List UInt8 := packTs a.cmd ++ packT a.inp ++ packTs a.outs ++ packN 9 a.fuel.toNat
structure ActOk (a : ActV) : Prop where
  cmd : a.cmd.length ≤ 1099511627776
  inp : a.inp.length ≤ 1099511627776
  outs : a.outs.length ≤ 1099511627776
  out : ∀ s ∈ a.outs, s.length ≤ 1099511627776
theorem avS_texts (l : List (List UInt8)) : l.length ≤ avS (texts l) ∧ ∀ s ∈ l, s.length ≤ avS (texts l) := by
  refine ⟨?_, fun s hs => ?_⟩
  · have := avS_len (texts l); simpa [texts] using this
  · have : avB (.str s) + 1 ≤ avS (texts l) := avS_mem (by simp [texts, hs])
    simp only [avB] at this; omega
theorem actOk_of {st : Bool} {a : ActV} {k : Nat} (h : avB (actAV st a) ≤ k) (hk : k ≤ 1099511627776) : ActOk a := by
  obtain ⟨c1, c2⟩ := avS_texts a.cmd
  obtain ⟨o1, o2⟩ := avS_texts a.outs
  have h : avB (AV.agg [.sl st false 1 (texts a.cmd), .str a.inp, .sl st false 1 (texts a.outs), .int .i64 a.fuel]) ≤ k := h
  simp only [avB, avC] at h
  exact ⟨by omega, by omega, by omega, fun s hs => by have := o2 s hs; omega⟩
structure ActFit (a : ActV) : Prop where
  cmd : a.cmd.length ≤ 60
  long : ∀ s ∈ a.cmd, s.length ≤ 100000
  inp : a.inp.length = 64
  outs : a.outs.length ≤ 60
  out : ∀ s ∈ a.outs, s.length ≤ 100
  fuel : ∃ m : Nat, a.fuel = m ∧ m ≤ 9007199254740991
theorem isPathB_len {s : List UInt8} (h : isPathB s = true) : s.length ≤ 100 := by
  simp only [isPathB, Bool.and_eq_true, decide_eq_true_eq] at h; exact h.2
theorem actE_fit {a : ActV} (h : actE a = 0) : ActFit a := by
  unfold actE at h
  by_cases h1 : checkL a.cmd 60 ≠ 0 ∨ 60 < a.outs.length
  · rw [if_pos h1] at h; cases h
  rw [if_neg h1] at h
  cases h2 : isDig a.inp with
  | false => rw [h2, if_pos rfl] at h; cases h
  | true =>
  rw [h2, if_neg (by decide)] at h
  cases h3 : a.outs.all isPathB with
  | false => rw [h3, if_pos rfl] at h; cases h
  | true =>
  rw [h3, if_neg (by decide)] at h
  cases h4 : riseB a.outs with
  | false => rw [h4, if_pos rfl] at h; cases h
  | true =>
  rw [h4, if_neg (by decide)] at h
  cases h5 : isNumB a.fuel with
  | false => rw [h5, if_pos rfl] at h; cases h
  | true =>
  have hc : checkL a.cmd 60 = 0 := Classical.byContradiction fun h => h1 (.inl h)
  unfold checkL at hc
  split at hc
  · cases hc
  rename_i hc1
  split at hc
  · cases hc
  rename_i hc2
  simp only [isNumB, Bool.and_eq_true, decide_eq_true_eq] at h5
  obtain ⟨m, hm⟩ := Int.eq_ofNat_of_zero_le h5.1
  refine ⟨by omega, fun s hs => ?_, ?_, by omega, fun s hs => isPathB_len (List.all_eq_true.1 h3 s hs), m, hm, by omega⟩
  · rcases Nat.lt_or_ge 100000 s.length with h | h
    · exact absurd (List.any_eq_true.2 ⟨s, hs, by simpa using h⟩) hc2
    · exact h
  · simp only [isDig, Bool.and_eq_true, beq_iff_eq] at h2; exact h2.2
end Go.Proofs.YtjkeekbfgnmngaaGreatDoor
end
section
set_option linter.unusedVariables false
set_option linter.unusedSimpArgs false
set_option maxRecDepth 20000
namespace Go.Proofs.YtjkeekbfgnmngaaGreatDoor
open Go Go.Ab
def pkE (v u : Nat) (a : AV) (bs : List UInt8) (e : Nat) : Heap := [(v, some (bBox 86 a (.ms 1 u 0 bs.length 1 false) [.int .i64 e])), (u, some (byBox bs))]
def PkR (v : Nat) (o0 : AV) (bs : List UInt8) (e : Nat) : Out → Heap → Prop := fun o σ' => o = .ret o0 ∧ ∃ u a, (a = .nilp ∨ a = .ptr 0 v 0) ∧ σ' = pkE v u a bs e
theorem pnumber_ok (v u : Nat) (a : AV) (ha : a = .nilp ∨ a = .ptr 0 v 0) (bs : List UInt8) (m : Nat) (hm : m ≤ 9223372036854775807) (hl : bs.length + 10 ≤ 140737488355328) :
    CallOk cx 55 [.ptr 0 v 0, .int .i64 m] (pkE v u a bs 0) (PkR v (.tup []) (bs ++ packN 9 m) 0) :=
  (number_ok v u a ha bs m hm hl).mono fun o σ' ⟨h1, u', h2⟩ => ⟨h1, u', _, .inr rfl, h2⟩
theorem ptext_ok (v u : Nat) (a : AV) (ha : a = .nilp ∨ a = .ptr 0 v 0) (bs s : List UInt8) (hl : bs.length + 10 + s.length ≤ 140737488355328) :
    CallOk cx 54 [.ptr 0 v 0, .str s] (pkE v u a bs 0) (PkR v (.tup []) (bs ++ packT s) 0) :=
  (text_ok v u a ha bs s hl).mono fun o σ' ⟨h1, u', h2⟩ => ⟨h1, u', _, .inr rfl, h2⟩
theorem ptexts_ok {st fl : Bool} (v u : Nat) (a : AV) (ha : a = .nilp ∨ a = .ptr 0 v 0) (bs : List UInt8) (l : List (List UInt8)) (hn : l.length ≤ 1048576) (hs : ∀ s ∈ l, s.length ≤ 100000) (hl : bs.length ≤ 1048576000) :
    CallOk cx 53 [.ptr 0 v 0, .sl st fl 1 (texts l)] (pkE v u a bs 0) (PkR v (.tup []) (bs ++ packTs l) 0) :=
  (packerTexts_ok v u a ha bs l hn hs hl).mono fun o σ' ⟨h1, u', h2⟩ => ⟨h1, u', _, .inr rfl, h2⟩
def failE (is : Bool) (e e0 : Nat) : Nat := if is = true ∧ e0 = 0 then e else e0
theorem fail_ok (v u : Nat) (a : AV) (ha : a = .nilp ∨ a = .ptr 0 v 0) (bs : List UInt8) (is : Bool) (e e0 : Nat) :
    CallOk cx 47 [.ptr 0 v 0, .bool is, .int .i64 e] (pkE v u a bs e0) (PkR v (.tup []) bs (failE is e e0)) :=
  callOk_intro (fun a w => Tryz.call47 a w) Tryz.func47 rfl Tryz.ntmps47 rfl fun B => by
    refine ab 1000 rfl trivial ?_
    cases is with
    | false =>
      refine S_guard rfl rfl rfl rfl (fun h => by cases h) (fun _ => ?_)
      refine ab 1000 rfl trivial ?_
      refine S_cond rfl (fun h => by cases h) (fun _ => ?_)
      refine ab 1000 rfl trivial ?_
      exact S_nil ⟨_, _, rfl, trivial, rfl, u, a, ha, by rw [failE, if_neg (by simp)]; rfl⟩
    | true =>
      refine S_guard rfl rfl rfl rfl (fun _ => ?_) (fun h => by cases h)
      refine ab 1000 rfl ⟨rfl, trivial⟩ ?_
      refine S_beq rfl (fun h => ?_) (fun h => ?_)
      · have h0 : e0 = 0 := by omega
        subst h0
        refine ab 1000 rfl ⟨lble rfl, rfl, trivial⟩ ?_
        exact S_nil ⟨_, _, rfl, trivial, rfl, u, a, ha, by rw [failE, if_pos ⟨rfl, rfl⟩]; rfl⟩
      · have h0 : e0 ≠ 0 := by omega
        refine ab 1000 rfl trivial ?_
        exact S_nil ⟨_, _, rfl, trivial, rfl, u, a, ha, by rw [failE, if_neg (by simp [h0])]; rfl⟩
theorem doneE_ok (v u : Nat) (a : AV) (bs : List UInt8) (e : Nat) (he : e ≠ 0) :
    CallOk cx 52 [.ptr 0 v 0] (pkE v u a bs e) (fun o σ' => o = .ret (.tup [.str [], .int .i64 e]) ∧ σ' = pkE v u a bs e) :=
  callOk_intro (fun a w => Tryz.call52 a w) Tryz.func52 rfl Tryz.ntmps52 rfl fun B => by
    refine ab 1000 rfl ⟨rfl, trivial⟩ ?_
    refine S_bne rfl (fun _ => ?_) (fun h => by omega)
    refine ab 1000 rfl trivial ?_
    refine S_draw 5 [] [] rfl rfl rfl rfl ⟨rfl, rfl, rfl, rfl, rfl, rfl, trivial⟩ ?_
    refine ab 1000 rfl trivial ?_
    exact S_ret ⟨_, _, rfl, trivial, rfl, rfl⟩
def pkB (j k v u : Nat) (a : AV) (bs : List UInt8) (e : Nat) : Nat × Option Box := (v, some (bBox 86 a (.ms k u 0 bs.length 1 false) [.int .i64 e]))
def byB (u : Nat) (bs : List UInt8) : Nat × Option Box := (u, some (byBox bs))
theorem bytes_free (bs : List UInt8) : ∀ x ∈ bs.map byteAV, Free false x := by
  intro x hx
  obtain ⟨y, _, rfl⟩ := List.mem_map.1 hx
  exact .int
theorem pk_rn {j k v u e : Nat} {a a' : AV} {bs : List UInt8} (ha : (a = .nilp ∧ a' = .nilp) ∨ (a = .ptr 0 v 0 ∧ a' = .ptr j v 0)) : RnE [j, k] (v, some (bBox 86 a (.ms 1 u 0 bs.length 1 false) [.int .i64 e])) (pkB j k v u a' bs e) := by
  refine .live (.cells (.cons ?_ (.cons (.ms rfl) (.cons (.free .int) (.nil _)))))
  rcases ha with ⟨rfl, rfl⟩ | ⟨rfl, rfl⟩
  · exact .free .nilp
  · exact .ptr rfl
section
variable {n : Nat} {B : Bs} {k : List AI} {Q : Post} {fr : Fr} {σ : Heap}
theorem S_pk {all : Array Oper} {o : Oper} {l : List Oper} {K : List Nat} {f : FuncId} {v u e e' : Nat} {a : AV} {bs bs' : List UInt8} {xs xs' : List AV} {o0 : AV} (j i : Nat) (hc : callA cx fr o.op = some (f, .ptr j v 0 :: xs)) (hg : guardA all o K fr = some true) (hd : dstOk n o.dst = true)
    (hji : ndB [j, i] = true) (hj : σ[j]? = some (pkB j i v u a bs e)) (hi : σ[i]? = some (byB u bs)) (ha : a = .nilp ∨ a = .ptr j v 0) (has : xs = xs') (hfa : ∀ y ∈ xs', Free false y)
    (hcall : ∀ a, (a = .nilp ∨ a = .ptr 0 v 0) → CallOk cx f (.ptr 0 v 0 :: xs') (pkE v u a bs e) (PkR v o0 bs' e')) (ho : Free false o0)
    (hr : ∀ u a, (a = .nilp ∨ a = .ptr j v 0) → S cx n B (.ops all l K :: k) Q (setA o.dst o0 fr) ((σ.set j (pkB j i v u a bs' e')).set i (byB u bs'))) : S cx n B (.ops all (o :: l) K :: k) Q fr σ := by
  subst has
  obtain ⟨a0, ha0, haa⟩ : ∃ a0 : AV, (a0 = .nilp ∨ a0 = .ptr 0 v 0) ∧ ((a0 = .nilp ∧ a = .nilp) ∨ (a0 = .ptr 0 v 0 ∧ a = .ptr j v 0)) := by
    rcases ha with rfl | rfl
    · exact ⟨.nilp, .inl rfl, .inl ⟨rfl, rfl⟩⟩
    · exact ⟨.ptr 0 v 0, .inr rfl, .inr ⟨rfl, rfl⟩⟩
  refine S_callf [j, i] (hcall a0 ha0) hc (.cons (.ptr rfl) (.free hfa)) (Part.mk' (es := [pkB j i v u a bs e, byB u bs]) hji ?_ (.cons (pk_rn haa) (.cons (.live (.cells (Rns.free (bytes_free bs)))) (.nil _)))) hg hd ?_ ?_
  · simp only [pickAll, hj, hi]
  · rintro y σ1 ⟨h1, u', a', ha', rfl⟩
    cases h1
    have hbn : ∃ a2 : AV, ((a' = .nilp ∧ a2 = .nilp) ∨ (a' = .ptr 0 v 0 ∧ a2 = .ptr j v 0)) ∧ (a2 = .nilp ∨ a2 = .ptr j v 0) := by
      rcases ha' with rfl | rfl
      · exact ⟨.nilp, .inl ⟨rfl, rfl⟩, .inl rfl⟩
      · exact ⟨.ptr j v 0, .inr ⟨rfl, rfl⟩, .inr rfl⟩
    obtain ⟨a2, h2, h3⟩ := hbn
    refine ⟨o0, [pkB j i v u' a2 bs' e', byB u' bs'], .cons (pk_rn h2) (.cons (.live (.cells (Rns.free (bytes_free bs')))) (.nil _)), .free ho, ?_⟩
    simpa [putAll] using hr u' a2 h3
  · rintro y σ1 ⟨h1, _⟩
    cases h1
theorem S_done0 {all : Array Oper} {o : Oper} {l : List Oper} {K : List Nat} {v u : Nat} {a : AV} {bs : List UInt8} (j i : Nat) (hc : callA cx fr o.op = some (52, [.ptr j v 0])) (hg : guardA all o K fr = some true) (hd : dstOk n o.dst = true)
    (hji : ndB [j, i] = true) (hj : σ[j]? = some (pkB j i v u a bs 0)) (hi : σ[i]? = some (byB u bs)) (ha : a = .nilp ∨ a = .ptr j v 0) (h0 : bs ≠ []) (hl : bs.length ≤ 140737488355328)
    (hr : S cx n B (.ops all l K :: k) Q (setA o.dst (.tup [.str bs, .int .i64 0]) fr) ((σ.set j (pkB j i v u a bs 0)).set i (u, none))) : S cx n B (.ops all (o :: l) K :: k) Q fr σ := by
  obtain ⟨a0, haa⟩ : ∃ a0 : AV, ((a0 = .nilp ∧ a = .nilp) ∨ (a0 = .ptr 0 v 0 ∧ a = .ptr j v 0)) := by
    rcases ha with rfl | rfl
    · exact ⟨.nilp, .inl ⟨rfl, rfl⟩⟩
    · exact ⟨.ptr 0 v 0, .inr ⟨rfl, rfl⟩⟩
  refine S_callf [j, i] (done_ok v u a0 bs h0 hl) hc (.cons (.ptr rfl) (.nil _)) (Part.mk' (es := [pkB j i v u a bs 0, byB u bs]) hji ?_ (.cons (pk_rn haa) (.cons (.live (.cells (Rns.free (bytes_free bs)))) (.nil _)))) hg hd ?_ ?_
  · simp only [pickAll, hj, hi]
  · rintro y σ1 ⟨h1, rfl⟩
    cases h1
    refine ⟨_, [pkB j i v u a bs 0, (u, none)], .cons (pk_rn haa) (.cons .dead (.nil _)), .free (.tup (by intro x hx; simp at hx; rcases hx with rfl | rfl; exact .str; exact .int)), ?_⟩
    simpa [putAll] using hr
  · rintro y σ1 ⟨h1, _⟩
    cases h1
theorem S_doneE {all : Array Oper} {o : Oper} {l : List Oper} {K : List Nat} {v u e : Nat} {a : AV} {bs : List UInt8} (j i : Nat) (hc : callA cx fr o.op = some (52, [.ptr j v 0])) (hg : guardA all o K fr = some true) (hd : dstOk n o.dst = true)
    (hji : ndB [j, i] = true) (hj : σ[j]? = some (pkB j i v u a bs e)) (hi : σ[i]? = some (byB u bs)) (ha : a = .nilp ∨ a = .ptr j v 0) (he : e ≠ 0)
    (hr : S cx n B (.ops all l K :: k) Q (setA o.dst (.tup [.str [], .int .i64 e]) fr) ((σ.set j (pkB j i v u a bs e)).set i (byB u bs))) : S cx n B (.ops all (o :: l) K :: k) Q fr σ := by
  obtain ⟨a0, haa⟩ : ∃ a0 : AV, ((a0 = .nilp ∧ a = .nilp) ∨ (a0 = .ptr 0 v 0 ∧ a = .ptr j v 0)) := by
    rcases ha with rfl | rfl
    · exact ⟨.nilp, .inl ⟨rfl, rfl⟩⟩
    · exact ⟨.ptr 0 v 0, .inr ⟨rfl, rfl⟩⟩
  refine S_callf [j, i] (doneE_ok v u a0 bs e he) hc (.cons (.ptr rfl) (.nil _)) (Part.mk' (es := [pkB j i v u a bs e, byB u bs]) hji ?_ (.cons (pk_rn haa) (.cons (.live (.cells (Rns.free (bytes_free bs)))) (.nil _)))) hg hd ?_ ?_
  · simp only [pickAll, hj, hi]
  · rintro y σ1 ⟨h1, rfl⟩
    cases h1
    refine ⟨_, [pkB j i v u a bs e, byB u bs], .cons (pk_rn haa) (.cons (.live (.cells (Rns.free (bytes_free bs)))) (.nil _)), .free (.tup (by intro x hx; simp at hx; rcases hx with rfl | rfl; exact .str; exact .int)), ?_⟩
    simpa [putAll] using hr
  · rintro y σ1 ⟨h1, _⟩
    cases h1
theorem free_bi {st : Bool} {b : Bool} {n : Int} {k : IntKind} : ∀ y ∈ [AV.bool b, AV.int k n], Free st y := by
  intro y hy; simp at hy; rcases hy with rfl | rfl; exact .bool; exact .int
theorem free_i {st : Bool} {n : Int} {k : IntKind} : ∀ y ∈ [AV.int k n], Free st y := by
  intro y hy; simp at hy; subst hy; exact .int
theorem free_s {st : Bool} {s : List UInt8} : ∀ y ∈ [AV.str s], Free st y := by
  intro y hy; simp at hy; subst hy; exact .str
theorem free_u {st : Bool} : Free st (.tup []) := .tup (by simp)
end
end Go.Proofs.YtjkeekbfgnmngaaGreatDoor
end
section
set_option linter.unusedVariables false
set_option linter.unusedSimpArgs false
set_option maxRecDepth 20000
namespace Go.Proofs.YtjkeekbfgnmngaaGreatDoor
open Go Go.Ab
theorem packTs_bd {l : List (List UInt8)} (h1 : l.length ≤ 60) (h2 : ∀ s ∈ l, s.length ≤ 100000) : (packTs l).length ≤ 6010000 := by
  have hf : ∀ (l : List (List UInt8)), (∀ s ∈ l, s.length ≤ 100000) → (l.flatMap packT).length ≤ l.length * 100010 := by
    intro l
    induction l with
    | nil => intro _; simp
    | cons a r ih =>
      intro h
      have := ih (fun s hs => h s (List.mem_cons_of_mem _ hs))
      have h3 := h a (List.mem_cons_self ..)
      have h4 := packN_len 9 a.length
      rw [List.flatMap_cons, List.length_append, List.length_cons, packT, List.length_append]; omega
  have := hf l h2
  have := packN_len 9 l.length
  rw [packTs, List.length_append]; omega
theorem actOut_ok (s : List UInt8) : Calc cx 50 [.str s] (.str s) :=
  pure_intro (fun a w => Tryz.call50 a w) Tryz.func50 rfl Tryz.ntmps50 rfl .str fun B => by
    refine ab 1000 rfl trivial ?_
    exact S_retc .str rfl trivial rfl
theorem risesS_ok {st fl : Bool} (l : List (List UInt8)) (hl : l.length ≤ 9223372036854775807) : Calc cx 49 [.sl st fl 1 (texts l), .func (.func 50) [] []] (.bool (riseB l)) :=
  pure_intro (fun a w => Tryz.call49 a w) Tryz.func49 rfl Tryz.ntmps49 rfl .bool fun B => by
    refine ab 1000 rfl trivial ?_
    have htl : (texts l).length = l.length := by simp [texts]
    refine S_while (α := Nat) (fun i => [(0, .sl st fl 1 (texts l)), (1, .func (.func 50) [] []), (5, .int .i64 (i : Nat))]) (fun _ => []) (fun i => 1 ≤ i ∧ (i = 1 ∨ i ≤ l.length) ∧ (List.range i).all (riseP l) = true) (fun i => l.length + 1 - i) 1
      ⟨Nat.le_refl _, .inl rfl, rfl⟩ (.cons rfl (.cons rfl (.cons rfl (.nil _)))) rfl ?_
    rintro i ⟨h1, h2, hN⟩
    refine ab 1000 rfl trivial ?_
    refine S_dec rfl (fun hil => ?_) (fun hil => ?_)
    · have hil : i < l.length := by have : (i : Int) < ((texts l).length : Nat) := hil; omega
      have hil' : i - 1 < l.length := by omega
      have hw : IntKind.i64.wrap ((i : Int) - 1) = ((i - 1 : Nat) : Int) := w64 (by omega) (by omega)
      have g1 : l[i] = l.getD i [] := by simp [List.getD, hil]
      have g2 : l[i - 1] = l.getD (i - 1) [] := by simp [List.getD, hil']
      refine ab 1000 rfl trivial ?_
      refine S_draw 14 [] [.str l[i], .str l[i], .str l[i - 1], .str l[i - 1]] rfl rfl rfl rfl ⟨rfl, rfl, rfl, rfl, by omega, by rw [Int.toNat_natCast]; simp [texts, List.getElem?_eq_getElem hil], rfl, ⟨_, actOut_ok l[i], .cons (.refl .str) (.nil _)⟩, rfl, rfl, rfl, rfl, rfl, by rw [hw]; omega, by rw [hw, Int.toNat_natCast]; simp [texts, List.getElem?_eq_getElem hil'], rfl, ⟨_, actOut_ok l[i - 1], .cons (.refl .str) (.nil _)⟩, rfl, trivial⟩ ?_
      refine ab 1000 rfl trivial ?_
      refine S_cond rfl (fun h => ?_) (fun h => ?_)
      · have h : leS l[i] l[i - 1] = true := h
        rw [g1, g2] at h
        refine ab 1000 rfl trivial ?_
        refine S_retc .bool rfl trivial ?_
        rw [rise_no hil h1 h]; rfl
      · have h : leS l[i] l[i - 1] = false := h
        rw [g1, g2] at h
        refine ab 1000 rfl trivial ?_
        exact S_round (i + 1) (by show l.length + 1 - (i + 1) < l.length + 1 - i; omega) ⟨by omega, .inr (by omega), rise_step hN h⟩ (.cons rfl (.cons rfl (.cons (ai64 rfl (by omega)) (.nil _)))) rfl
    · have hil : ¬ i < l.length := by have : ¬ (i : Int) < ((texts l).length : Nat) := hil; omega
      refine ab 1000 rfl trivial ?_
      refine S_retc .bool rfl trivial ?_
      have : riseB l = true := by
        rcases Nat.eq_zero_or_pos l.length with h | h
        · rw [riseB, h]; rfl
        · rw [riseB, show l.length = i by omega]; exact hN
      rw [this]; rfl
theorem checkL_ok' {l : List (List UInt8)} {k : Nat} (h : checkL l k = 0) : (l.any (fun s => decide (100000 < s.length)) || decide (k < l.length)) = false := by
  unfold checkL at h
  split at h
  · cases h
  split at h
  · cases h
  rename_i h1 h2
  rw [Bool.not_eq_true] at h2
  rw [h2, decide_eq_false h1]; rfl
theorem checkL_no {l : List (List UInt8)} {k : Nat} (h : (l.any (fun s => decide (100000 < s.length)) || decide (k < l.length)) = false) : checkL l k = 0 := by
  rw [Bool.or_eq_false_iff] at h
  rw [checkL, if_neg (of_decide_eq_false h.2), h.1, if_neg (by decide)]
theorem Action_ok {st : Bool} (a : ActV) (ha : ActOk a) : Calc cx 21 [actAV st a] (.tup [.str (if actE a = 0 then packA a else []), .int .i64 (actE a : Nat)]) :=
  pure_intro (fun a w => Tryz.call21 a w) Tryz.func21 rfl Tryz.ntmps21 rfl (ans_free _ _) fun B => by
    obtain ⟨cmd, inp, outs, fuel⟩ := a
    have hok := ha
    obtain ⟨ha1, ha2, ha3, ha4⟩ := ha
    simp only at ha1 ha2 ha3 ha4
    have lend : ∀ (σ : Heap) (x : List (List UInt8)), Frz false σ (.sl st false 1 (texts x)) (.sl st false 1 (texts x)) := fun σ x => .refl (.sl (fun h => by cases h) (texts_any x))
    have free_l : ∀ (x : List (List UInt8)), ∀ y ∈ [AV.sl st false 1 (texts x)], Free false y := fun x y hy => by simp at hy; subst hy; exact .sl (fun h => by cases h) (texts_any x)
    have htl : (texts outs).length = outs.length := by simp [texts]
    obtain ⟨aB, haB⟩ : ∃ aB : Nat × Option Box, aB = (0, some (.cells [.sl st false 1 (texts cmd), .str inp, .sl st false 1 (texts outs), .int .i64 fuel] ⟨false, some 40⟩)) := ⟨_, rfl⟩
    refine ab 1000 rfl ⟨rfl, trivial⟩ ?_
    refine S_ghost 1 ⟨false, some 5⟩ (id := 1) (j := 1) rfl rfl rfl (show (1 : Nat) ≠ 2 by decide) ⟨.skip, _, .inr ⟨_, _, _, rfl⟩⟩ ?_
    refine S_pure rfl rfl rfl (long_ok (st := st) (fl := false) cmd 60 (by omega)) (.cons (lend _ _) (.cons (.refl .int) (.nil _))) ?_
    obtain ⟨b1, hb1⟩ : ∃ b1 : Bool, b1 = decide (checkL cmd 60 ≠ 0 ∨ 60 < outs.length) := ⟨_, rfl⟩
    refine S_split 6 (fun fr σ => Weak fr [(1, .ptr 0 0 0), (4, .ptr 1 0 0), (9, .ptr 1 0 0), (18, .bool b1)] ∧ σ = [aB, pkB 1 2 0 0 .nilp [] 0, byB 0 []]) ?_ ?_
    · refine ab 1000 rfl trivial ?_
      refine S_guard rfl rfl rfl rfl (fun h => ?_) (fun h => ?_)
      · have h : checkL cmd 60 ≠ 0 := by
          have h' : (cmd.any (fun s => decide (100000 < s.length)) || decide (60 < cmd.length)) = true := h
          intro h0
          have := checkL_ok' h0
          rw [this] at h'; cases h'
        refine ab 1000 rfl trivial ?_
        exact S_inv ⟨.cons rfl (.cons rfl (.cons rfl (.cons (by show AV.bool true = _; rw [hb1, decide_eq_true (p := checkL cmd 60 ≠ 0 ∨ 60 < outs.length) (.inl h)]) (.nil _)))), by rw [haB]; rfl⟩
      · have h : checkL cmd 60 = 0 := by
          have h' : (cmd.any (fun s => decide (100000 < s.length)) || decide (60 < cmd.length)) = false := h
          exact checkL_no h'
        refine ab 1000 rfl ⟨rfl, trivial⟩ ?_
        refine S_inv ⟨.cons rfl (.cons rfl (.cons rfl (.cons ?_ (.nil _)))), by rw [haB]; rfl⟩
        show AV.bool (decide (((texts outs).length : Int) > 60)) = _
        rw [hb1]
        exact congrArg AV.bool (decide_eq_decide.2 ⟨fun h => .inr (by omega), fun h2 => by rcases h2 with h2 | h2; exact absurd h h2; omega⟩)
    rintro fr σ ⟨hw, rfl⟩
    refine S_opsW hw ?_
    refine S_pk 1 2 rfl rfl rfl rfl rfl rfl (.inl rfl) rfl free_bi (fun a ha => fail_ok 0 0 a ha [] b1 2 0) free_u (fun u1 a1 ha1 => ?_)
    rw [haB]
    refine ab 1000 rfl ⟨rfl, trivial⟩ ?_
    refine S_pure rfl rfl rfl (digestIs_ok inp (by omega)) (.cons (.refl .str) (.nil _)) ?_
    refine ab 1000 rfl trivial ?_
    refine S_pk 1 2 rfl rfl rfl rfl rfl rfl ha1 rfl free_bi (fun a ha => fail_ok 0 u1 a ha [] (!isDig inp) 1 (failE b1 2 0)) free_u (fun u2 a2 ha2 => ?_)
    obtain ⟨e2, he2⟩ : ∃ e2, e2 = failE (!isDig inp) 1 (failE b1 2 0) := ⟨_, rfl⟩
    rw [← he2]
    refine ab 1000 rfl ⟨rfl, trivial⟩ ?_
    refine S_while (α := Nat × Nat × AV) (fun (i, u, a) => [(1, .ptr 0 0 0), (4, .ptr 1 0 0), (27, .sl st false 1 (texts outs)), (28, .int .i64 ((texts outs).length : Nat)), (29, .int .i64 (i : Nat))])
      (fun (i, u, a) => [(0, some (.cells [.sl st false 1 (texts cmd), .str inp, .sl st false 1 (texts outs), .int .i64 fuel] ⟨false, some 40⟩)), pkB 1 2 0 u a [] (failE (!(outs.take i).all isPathB) 1 e2), byB u []])
      (fun (i, u, a) => i ≤ outs.length ∧ (a = .nilp ∨ a = .ptr 1 0 0)) (fun (i, u, a) => outs.length - i) (0, u2, a2)
      ⟨Nat.zero_le _, ha2⟩ (.cons rfl (.cons rfl (.cons rfl (.cons rfl (.cons rfl (.nil _)))))) rfl ?_
    rintro ⟨i, u, a⟩ ⟨hi, ha⟩
    have hi : i ≤ outs.length := hi
    refine ab 1000 rfl trivial ?_
    refine S_dec rfl (fun hil => ?_) (fun hil => ?_)
    · have hil : i < outs.length := by have : (i : Int) < ((texts outs).length : Nat) := hil; omega
      refine ab 1000 rfl trivial ?_
      refine S_index (.str outs[i]) rfl rfl rfl ⟨rfl, by omega, by rw [Int.toNat_natCast]; simp [texts, List.getElem?_eq_getElem hil], trivial⟩ ?_
      refine ab 1000 rfl trivial ?_
      refine S_pure rfl rfl rfl (isPath_ok outs[i] (ha4 _ (List.getElem_mem hil))) (.cons (.refl .str) (.nil _)) ?_
      refine ab 1000 rfl trivial ?_
      refine S_pk 1 2 rfl rfl rfl rfl rfl rfl ha (show [AV.bool (!isPathB outs[i]), AV.int .i64 1] = [AV.bool (!isPathB outs[i]), .int .i64 (1 : Nat)] from rfl) free_bi (fun a ha => fail_ok 0 u a ha [] (!isPathB outs[i]) 1 (failE (!(outs.take i).all isPathB) 1 e2)) free_u (fun u3 a3 ha3 => ?_)
      refine ab 1000 rfl trivial ?_
      refine S_round (i + 1, u3, a3) (by show outs.length - (i + 1) < outs.length - i; omega) ⟨hil, ha3⟩ (.cons rfl (.cons rfl (.cons rfl (.cons rfl (.cons (ai64 rfl (by omega)) (.nil _)))))) ?_
      have hf : failE (!isPathB outs[i]) 1 (failE (!(outs.take i).all isPathB) 1 e2) = failE (!(outs.take (i + 1)).all isPathB) 1 e2 := by
        rw [List.take_succ_eq_append_getElem hil, List.all_append]
        simp only [List.all_cons, List.all_nil, Bool.and_true]
        cases isPathB outs[i] <;> cases (outs.take i).all isPathB <;> by_cases h : e2 = 0 <;> simp [failE, h]
      rw [hf]
    · have hil : i = outs.length := by have : ¬ (i : Int) < ((texts outs).length : Nat) := hil; omega
      obtain ⟨e3, he3⟩ : ∃ e3, e3 = failE (!outs.all isPathB) 1 e2 := ⟨_, rfl⟩
      rw [hil, List.take_length]
      rw [← he3]
      refine ab 1000 rfl ⟨rfl, trivial⟩ ?_
      refine S_pure rfl rfl rfl (risesS_ok (st := st) (fl := false) outs (by omega)) (.cons (lend _ _) (.cons (.refl (.func (fun x h => by cases h) (fun x h => by cases h))) (.nil _))) ?_
      refine ab 1000 rfl trivial ?_
      refine S_pk 1 2 rfl rfl rfl rfl rfl rfl ha rfl free_bi (fun a ha => fail_ok 0 u a ha [] (!riseB outs) 6 e3) free_u (fun u4 a4 ha4' => ?_)
      refine ab 1000 rfl ⟨rfl, trivial⟩ ?_
      refine S_pure rfl rfl rfl (isNumber_ok fuel) (.cons (.refl .int) (.nil _)) ?_
      refine ab 1000 rfl trivial ?_
      refine S_pk 1 2 rfl rfl rfl rfl rfl rfl ha4' rfl free_bi (fun a ha => fail_ok 0 u4 a ha [] (!isNumB fuel) 3 (failE (!riseB outs) 6 e3)) free_u (fun u5 a5 ha5 => ?_)
      have hE : failE (!isNumB fuel) 3 (failE (!riseB outs) 6 e3) = actE ⟨cmd, inp, outs, fuel⟩ := by
        rw [he3, he2, hb1, actE]
        by_cases k1 : checkL cmd 60 ≠ 0 ∨ 60 < outs.length
        · simp [failE, k1]
        · cases isDig inp <;> cases outs.all isPathB <;> cases riseB outs <;> cases isNumB fuel <;> simp [failE, k1]
      rw [hE]
      refine ab 1000 rfl ⟨rfl, trivial⟩ ?_
      refine S_bne rfl (fun h => ?_) (fun h => ?_)
      · have he : actE ⟨cmd, inp, outs, fuel⟩ ≠ 0 := by have : ((actE ⟨cmd, inp, outs, fuel⟩ : Nat) : Int) ≠ 0 := h; omega
        rw [if_neg he]
        refine ab 1000 rfl trivial ?_
        refine S_doneE 1 2 rfl rfl rfl rfl rfl rfl ha5 he ?_
        refine ab 1000 rfl trivial ?_
        exact S_retc (ans_free _ _) rfl trivial rfl
      have hc : actE ⟨cmd, inp, outs, fuel⟩ = 0 := by have : ((actE ⟨cmd, inp, outs, fuel⟩ : Nat) : Int) = 0 := h; omega
      obtain ⟨h1, h2, h3, h4, h5, m, hfm, hm⟩ := actE_fit hc
      simp only at h1 h2 h3 h4 h5 hfm
      subst hfm
      rw [hc, if_pos rfl]
      have l1 := packTs_bd h1 h2
      have l2 : (packT inp).length ≤ 74 := by have := packN_len 9 inp.length; rw [packT, List.length_append]; omega
      have l3 := packTs_bd h4 (fun s hs => by have := h5 s hs; omega)
      have l4 := packN_len 9 m
      refine ab 1000 rfl ⟨rfl, trivial⟩ ?_
      refine S_pk 1 2 rfl rfl rfl rfl rfl rfl ha5 rfl (free_l cmd) (fun a ha => ptexts_ok (st := st) (fl := false) 0 u5 a ha [] cmd (by omega) h2 (by decide)) free_u (fun u6 a6 ha6 => ?_)
      refine ab 1000 rfl ⟨rfl, trivial⟩ ?_
      refine S_pk 1 2 rfl rfl rfl rfl rfl rfl ha6 rfl free_s (fun a ha => ptext_ok 0 u6 a ha ([] ++ packTs cmd) inp (by simp; omega)) free_u (fun u7 a7 ha7 => ?_)
      refine ab 1000 rfl ⟨rfl, trivial⟩ ?_
      refine S_pk 1 2 rfl rfl rfl rfl rfl rfl ha7 rfl (free_l outs) (fun a ha => ptexts_ok (st := st) (fl := false) 0 u7 a ha ([] ++ packTs cmd ++ packT inp) outs (by omega) (fun s hs => by have := h5 s hs; omega) (by simp; omega)) free_u (fun u8 a8 ha8 => ?_)
      refine ab 1000 rfl ⟨rfl, trivial⟩ ?_
      refine S_pk 1 2 rfl rfl rfl rfl rfl rfl ha8 rfl free_i (fun a ha => pnumber_ok 0 u8 a ha ([] ++ packTs cmd ++ packT inp ++ packTs outs) m (by omega) (by simp; omega)) free_u (fun u9 a9 ha9 => ?_)
      refine ab 1000 rfl trivial ?_
      refine S_done0 1 2 rfl rfl rfl rfl rfl rfl ha9 (by simp [packN_ne]) (by simp; omega) ?_
      refine ab 1000 rfl trivial ?_
      exact S_retc (ans_free _ _) rfl trivial rfl
end Go.Proofs.YtjkeekbfgnmngaaGreatDoor
end
section
set_option linter.unusedVariables false
set_option linter.unusedSimpArgs false
set_option maxRecDepth 20000
namespace Go.Proofs.YtjkeekbfgnmngaaGreatDoor
open Go Go.Ab
theorem readN_pack : ∀ (k n i acc : Nat) (rest : List UInt8), n < 128 ^ (k + 1) → i + (packN k n).length ≤ 8 → acc + n * 128 ^ i ≤ 9007199254740991 → (n ≠ 0 ∨ i = 0) →
    readN (packN k n ++ rest) i acc = (acc + n * 128 ^ i, i + (packN k n).length, 0)
  | 0, n, i, acc, rest, hn, hi, hb, h0 => by
    have hn : n < 128 := by simpa using hn
    simp only [packN, List.length_singleton] at hi ⊢
    have ht : (UInt8.ofNat n).toNat = n := by rw [UInt8.toNat_ofNat', Nat.mod_eq_of_lt (by omega)]
    simp only [List.singleton_append, readN]
    rw [if_neg (by omega), ht, if_neg (by omega), if_neg (by omega), Nat.mod_eq_of_lt hn, if_neg (by omega)]
  | k + 1, n, i, acc, rest, hn, hi, hb, h0 => by
    have e : packN (k + 1) n = if n < 128 then [UInt8.ofNat n] else UInt8.ofNat (n % 128 + 128) :: packN k (n / 128) := rfl
    by_cases hs : n < 128
    · rw [e, if_pos hs] at hi ⊢
      have ht : (UInt8.ofNat n).toNat = n := by rw [UInt8.toNat_ofNat', Nat.mod_eq_of_lt (by omega)]
      simp only [List.length_singleton] at hi ⊢
      simp only [List.singleton_append, readN]
      rw [if_neg (by omega), ht, if_neg (by omega), if_neg (by omega), Nat.mod_eq_of_lt hs, if_neg (by omega)]
    · rw [e, if_neg hs] at hi ⊢
      have hne := packN_ne k (n / 128)
      have hpos : 0 < (packN k (n / 128)).length := List.length_pos_iff.2 hne
      simp only [List.length_cons] at hi ⊢
      have ht : (UInt8.ofNat (n % 128 + 128)).toNat = n % 128 + 128 := by rw [UInt8.toNat_ofNat', Nat.mod_eq_of_lt (by omega)]
      simp only [List.cons_append, readN]
      rw [if_neg (by omega), ht, if_pos (by omega)]
      have hsum : acc + (n % 128 + 128) % 128 * 128 ^ i + n / 128 * 128 ^ (i + 1) = acc + n * 128 ^ i := by
        have h1 : (n % 128 + 128) % 128 = n % 128 := by omega
        rw [h1, Nat.pow_succ, Nat.mul_comm (128 ^ i) 128, ← Nat.mul_assoc, Nat.add_assoc, ← Nat.add_mul]
        congr 2; omega
      rw [readN_pack k (n / 128) (i + 1) _ rest (by rw [Nat.div_lt_iff_lt_mul (by decide)]; rw [Nat.pow_succ] at hn; omega) (by omega) (by omega) (.inl (by omega)), hsum]
      congr 2; omega
theorem packN_small {n : Nat} (hn : n ≤ 9007199254740991) : (packN 9 n).length ≤ 8 := by
  rw [packN_more 8 n (by simp; omega), packN_more 7 n (by simp; omega)]
  exact packN_len 7 n
theorem readN_of_pack (n : Nat) (rest : List UInt8) (hn : n ≤ 9007199254740991) : readN (packN 9 n ++ rest) 0 0 = (n, (packN 9 n).length, 0) := by
  have := readN_pack 9 n 0 0 rest (by simp; omega) (by have := packN_small hn; omega) (by simp; omega) (.inr rfl)
  simpa using this
end Go.Proofs.YtjkeekbfgnmngaaGreatDoor
end
section
set_option linter.unusedVariables false
set_option linter.unusedSimpArgs false
set_option maxRecDepth 20000
namespace Go.Proofs.YtjkeekbfgnmngaaGreatDoor
open Go Go.Ab
theorem rNum_pack (n : Nat) (rest : List UInt8) (hn : n ≤ 9007199254740991) : rNum (packN 9 n ++ rest) = some (n, rest) := by
  unfold rNum
  rw [readN_of_pack n rest hn]
  simp
theorem rText_pack (s rest : List UInt8) (hs : s.length ≤ 9007199254740991) : rText (packT s ++ rest) = some (s, rest) := by
  unfold rText packT
  rw [List.append_assoc, rNum_pack _ _ hs]
  simp [rTake]
theorem packT_pos (s : List UInt8) : 1 ≤ (packT s).length := by
  have := List.length_pos_iff.2 (packN_ne 9 s.length)
  simp only [packT, List.length_append]; omega
end Go.Proofs.YtjkeekbfgnmngaaGreatDoor
end
section
set_option linter.unusedVariables false
set_option linter.unusedSimpArgs false
set_option maxRecDepth 20000
namespace Go.Proofs.YtjkeekbfgnmngaaGreatDoor
open Go Go.Ab
def rAct (s : List UInt8) : Option (ActV × List UInt8) :=
  match rTexts s with
  | none => none
  | some (c, r1) =>
    match rText r1 with
    | none => none
    | some (i, r2) =>
      match rTexts r2 with
      | none => none
      | some (o, r3) =>
        match rNum r3 with
        | none => none
        | some (k, r4) => some (⟨c, i, o, k⟩, r4)
def act0 : ActV := ⟨[], [], [], 0⟩
def readA (s : List UInt8) : ActV × Nat :=
  match rAct s with
  | none => (act0, 1)
  | some (x, _) => if actE x = 0 ∧ packA x = s then (x, 0) else (act0, 1)
def actZ (id : Nat) : Nat × Option Box := (id, some (.cells [.nils, .str [], .nils, .int .i64 0] ⟨false, some 40⟩))
theorem rRep_part : ∀ (n : Nat) (r : List UInt8) {ts : List (List UInt8)} {r' : List UInt8}, rRep n r = some (ts, r') → ∀ t ∈ ts, t.length ≤ r.length
  | 0, r, ts, r', h => by cases h; simp
  | n + 1, r, ts, r', h => by
    rw [rRep] at h
    split at h
    · cases h
    · rename_i t r1 h1
      have hb := rText_bd h1
      split at h
      · cases h
      · rename_i ts1 r2 h2
        have ih := rRep_part n r1 h2
        cases h
        intro x hx
        rcases List.mem_cons.1 hx with rfl | hx
        · omega
        · have := ih x hx; omega
theorem rTexts_part {s r : List UInt8} {ts : List (List UInt8)} (h : rTexts s = some (ts, r)) : ∀ t ∈ ts, t.length ≤ s.length := by
  unfold rTexts at h
  split at h
  · cases h
  · rename_i n r1 h1
    have hb := rMany_bd h1
    intro t ht
    have := rRep_part n r1 h t ht
    omega
theorem rAct_fit {s r : List UInt8} {x : ActV} (h : rAct s = some (x, r)) (hs : s.length ≤ 1099511627776) : ActOk x := by
  unfold rAct at h
  split at h
  · cases h
  rename_i c r1 h1
  have b1 := rTexts_bd h1
  split at h
  · cases h
  rename_i i r2 h2
  have b2 := rText_bd h2
  split at h
  · cases h
  rename_i o r3 h3
  have b3 := rTexts_bd h3
  have p3 := rTexts_part h3
  split at h
  · cases h
  cases h
  exact ⟨by show c.length ≤ _; omega, by show i.length ≤ _; omega, by show o.length ≤ _; omega, fun t ht => by have := p3 t ht; omega⟩
end Go.Proofs.YtjkeekbfgnmngaaGreatDoor
end
section
set_option linter.unusedVariables false
set_option linter.unusedSimpArgs false
set_option maxRecDepth 20000
namespace Go.Proofs.YtjkeekbfgnmngaaGreatDoor
open Go Go.Ab
theorem flat_ge : ∀ (l : List (List UInt8)), l.length ≤ (l.flatMap packT).length
  | [] => by simp
  | s :: r => by
    have := flat_ge r
    have := packT_pos s
    simp only [List.flatMap_cons, List.length_append, List.length_cons]; omega
theorem rRep_pack : ∀ (l : List (List UInt8)) (rest : List UInt8), (∀ s ∈ l, s.length ≤ 100000) → rRep l.length (l.flatMap packT ++ rest) = some (l, rest)
  | [], rest, h => rfl
  | s :: r, rest, h => by
    have hs := h s (List.mem_cons_self ..)
    rw [List.flatMap_cons, List.append_assoc, List.length_cons, rRep, rText_pack s _ (by omega)]
    simp only [rRep_pack r rest (fun x hx => h x (List.mem_cons_of_mem _ hx))]
theorem rTexts_pack (l : List (List UInt8)) (rest : List UInt8) (hn : l.length ≤ 2000) (h : ∀ s ∈ l, s.length ≤ 100000) : rTexts (packTs l ++ rest) = some (l, rest) := by
  unfold rTexts rMany packTs
  rw [List.append_assoc, rNum_pack _ _ (by omega)]
  have := flat_ge l
  simp only
  rw [if_neg (by simp only [List.length_append]; omega)]
  exact rRep_pack l rest h
end Go.Proofs.YtjkeekbfgnmngaaGreatDoor
end
