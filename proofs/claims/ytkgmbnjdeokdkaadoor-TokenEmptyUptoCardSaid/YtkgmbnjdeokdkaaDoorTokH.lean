/-
  Words and signs: the library's HasPrefix, Contains, Index at signs; the reference's SignAt.
-/
import Derived.Test.YtkgmbnjdeokdkaaDoorTokG
import Derived.Test.YtkgmbnjdeokdkaaDoorNameA0
import Derived.Test.YtkgmbnjdeokdkaaDoorAbThree
import Derived.Lib.IndexEntry
set_option linter.unusedVariables false
set_option linter.unusedSimpArgs false
set_option maxRecDepth 20000
namespace Go.Proofs.YtkgmbnjdeokdkaaDoor
open Go Go.Ab

theorem nextLetter_ok (c : UInt8) : Calc cx 37 [.int .u8 (c.toNat : Nat)] (.bool (isLet c || isDg c)) :=
  pure_intro (fun a w => Tryd.call37 a w) Tryd.func37 rfl Tryd.ntmps37 rfl .bool fun B => by
    cases h : isLet c with
    | true =>
      refine pa [.v (.bool (isLet c)), .b true] rfl ?_ ?_
      · (repeat' with_reducible apply AllP_cons) <;> first | exact trivial | assumption | omega | rfl | exact decide_eq_true (by omega) | exact decide_eq_false (by omega) | (rw [IntWalk.i64_in _ ⟨by omega, by omega⟩]; omega) | exact allOne_mem rfl | exact Nat.le_of_ble_eq_true rfl | (simp only [List.length_cons, List.length_nil]; omega) | skip
        exact ⟨_, isLetter_ok c, .cons (.refl .int) (.nil _)⟩
      exact S_retc .bool rfl trivial rfl
    | false =>
      refine pa [.v (.bool (isLet c)), .b false, .v (.bool (isDg c))] rfl ?_ ?_
      · (repeat' with_reducible apply AllP_cons) <;> first | exact trivial | assumption | omega | rfl | exact decide_eq_true (by omega) | exact decide_eq_false (by omega) | (rw [IntWalk.i64_in _ ⟨by omega, by omega⟩]; omega) | exact allOne_mem rfl | exact Nat.le_of_ble_eq_true rfl | (simp only [List.length_cons, List.length_nil]; omega) | skip
        · exact ⟨_, isLetter_ok c, .cons (.refl .int) (.nil _)⟩
        · exact ⟨_, isDigit_ok c, .cons (.refl .int) (.nil _)⟩
      exact S_retc .bool rfl trivial rfl

theorem IsSourceWord_ok (s : List UInt8) : Calc cx 31 [.str s] (.bool (decide (s ∈ words14))) :=
  pure_intro (fun a w => Tryd.call31 a w) Tryd.func31 rfl Tryd.ntmps31 rfl .bool fun B => by
    refine pa [.v (.bool (words14.contains s))] rfl ?_ ?_
    · (repeat' with_reducible apply AllP_cons) <;> first | exact trivial | assumption | omega | rfl | exact decide_eq_true (by omega) | exact decide_eq_false (by omega) | (rw [IntWalk.i64_in _ ⟨by omega, by omega⟩]; omega) | exact allOne_mem rfl | exact Nat.le_of_ble_eq_true rfl | (simp only [List.length_cons, List.length_nil]; omega) | skip
      exact ⟨_, HasText_ok words14 s (by decide), .cons (.refl (.sl (fun h => by cases h) (texts_any words14))) (.cons (.refl .str) (.nil _))⟩
    refine S_retc .bool rfl trivial ?_
    exact congrArg AV.bool (by rw [Bool.eq_iff_iff, List.contains_iff_mem, decide_eq_true_iff])

theorem prefix_take {s p : List UInt8} (h : p.length ≤ s.length) : (s.take p.length == p) = p.isPrefixOf s := by
  rw [Bool.eq_iff_iff, beq_iff_eq, List.isPrefixOf_iff_prefix, List.prefix_iff_eq_take]
  exact ⟨fun h => h.symm, fun h => h.symm⟩

theorem prefix_short {s p : List UInt8} (h : ¬ p.length ≤ s.length) : p.isPrefixOf s = false := by
  cases hp : p.isPrefixOf s with
  | false => rfl
  | true => exact absurd (List.isPrefixOf_iff_prefix.1 hp).length_le h

theorem HasPrefix2_ok (s p : List UInt8) : Calc cx 53 [.str s, .str p] (.bool (p.isPrefixOf s)) :=
  pure_intro (fun a w => Tryd.call53 a w) Tryd.func53 rfl Tryd.ntmps53 rfl .bool fun B => by
    by_cases h : p.length ≤ s.length
    · refine pa [.b true] rfl ?_ ?_
      · (repeat' with_reducible apply AllP_cons) <;> first | exact trivial | assumption | omega | rfl | exact decide_eq_true (by omega) | exact decide_eq_false (by omega) | (rw [IntWalk.i64_in _ ⟨by omega, by omega⟩]; omega) | exact allOne_mem rfl | exact Nat.le_of_ble_eq_true rfl | (simp only [List.length_cons, List.length_nil]; omega) | skip
      refine S_retc .bool rfl trivial ?_
      exact congrArg AV.bool (prefix_take h)
    · refine pa [.b false] rfl ?_ ?_
      · (repeat' with_reducible apply AllP_cons) <;> first | exact trivial | assumption | omega | rfl | exact decide_eq_true (by omega) | exact decide_eq_false (by omega) | (rw [IntWalk.i64_in _ ⟨by omega, by omega⟩]; omega) | exact allOne_mem rfl | exact Nat.le_of_ble_eq_true rfl | (simp only [List.length_cons, List.length_nil]; omega) | skip
      refine S_retc .bool rfl trivial ?_
      rw [prefix_short h]; rfl

theorem HasPrefix_ok (s p : List UInt8) : Calc cx 49 [.str s, .str p] (.bool (p.isPrefixOf s)) :=
  pure_intro (fun a w => Tryd.call49 a w) Tryd.func49 rfl Tryd.ntmps49 rfl .bool fun B => by
    refine pa [.v (.bool (p.isPrefixOf s))] rfl ?_ ?_
    · (repeat' with_reducible apply AllP_cons) <;> first | exact trivial | assumption | omega | rfl | exact decide_eq_true (by omega) | exact decide_eq_false (by omega) | (rw [IntWalk.i64_in _ ⟨by omega, by omega⟩]; omega) | exact allOne_mem rfl | exact Nat.le_of_ble_eq_true rfl | (simp only [List.length_cons, List.length_nil]; omega) | skip
      exact ⟨_, HasPrefix2_ok s p, .cons (.refl .str) (.cons (.refl .str) (.nil _))⟩
    exact S_retc .bool rfl trivial rfl

theorem byteBack (c : UInt8) : (((c.toNat : Nat) : Int).toNat.toUInt8) = c := by rw [Int.toNat_natCast]; simp

theorem Index1_ok (a : List UInt8) (c : UInt8) (ha : a.length = 3) : Calc cx 57 [.str a, .str [c]] (.int .i64 (Lib.indexByte a c)) :=
  pure_intro (fun a w => Tryd.call57 a w) Tryd.func57 rfl Tryd.ntmps57 rfl .int fun B => by
    obtain ⟨x, y, z, rfl⟩ : ∃ x y z, a = [x, y, z] := by
      match a, ha with
      | [x, y, z], _ => exact ⟨x, y, z, rfl⟩
    refine pa [.b false, .b false, .b true, .v (.int .i64 (Lib.indexByte [x, y, z] c))] rfl ?_ ?_
    · (repeat' with_reducible apply AllP_cons) <;> first | exact trivial | assumption | omega | rfl | exact decide_eq_true (by omega) | exact decide_eq_false (by omega) | (rw [IntWalk.i64_in _ ⟨by omega, by omega⟩]; omega) | exact allOne_mem rfl | exact Nat.le_of_ble_eq_true rfl | (simp only [List.length_cons, List.length_nil]; omega) | skip
      · exact beq_false_of_ne (by simp)
      · have h := indexByteS_ok [x, y, z] ((c.toNat : Nat) : Int)
        rw [byteBack] at h
        exact ⟨_, h, .cons (.refl .str) (.cons (.refl .int) (.nil _))⟩
    exact S_retc .int rfl trivial rfl

theorem ixs (a b : List UInt8) (m : Int) (h2 : 2 ≤ b.length) (hm : (b.length : Int) ≤ m) (ha : a.length < 4294967281) (r : Rl) (w : World) (vs : Array Value) (hG : Globs (cx.at 2 m) r w) (h : VRels r w vs [.str a, .str b]) :
    ∃ v, (callFunc 58 vs).run cx.P w = .ok (.value v) w ∧ VRel r w v (.int .i64 (Lib.index a b)) := by
  obtain ⟨hs, hv⟩ := h
  obtain ⟨x, y, rfl⟩ : ∃ x y, vs = #[x, y] := by
    rcases vs with ⟨l⟩
    match l, hs with
    | [x, y], _ => exact ⟨x, y, rfl⟩
  have h0 : VRel r w x (.str a) := hv 0 (by simp)
  have h1 : VRel r w y (.str b) := hv 1 (by simp)
  cases h0 with
  | str h0 =>
    cases h1 with
    | str h1 =>
      rename_i s t
      subst h0; subst h1
      obtain ⟨_, hc⟩ := hG.G 2 [.int .i64 m] rfl
      obtain ⟨v, hc1, hc2, _⟩ := hc 0 (by simp)
      cases hc2
      refine ⟨_, ?_, .int⟩
      show (callFunc 58 _).run Tryd.prog w = _
      rw [run_callFunc_extern Tryd.func58 rfl rfl rfl (e := Extern.BytealgIndex.index) rfl]
      rw [Lib.run_indexString s t w 2 m (by kernel_rfl) hc1 (by simpa using h2) (by simpa using hm) (by simpa using ha)]
      rfl

theorem Index2_ok (a : List UInt8) (c d : UInt8) (ha : a.length = 3) (hc : c ∉ a) : Calc cx 57 [.str a, .str [c, d]] (.int .i64 (-1)) := by
  refine Calc.ofU 2 rfl rfl fun m => pure_intro (fun a w => Tryd.call57 a w) Tryd.func57 rfl Tryd.ntmps57 rfl .int fun B => ?_
  obtain ⟨x, y, z, rfl⟩ : ∃ x y z, a = [x, y, z] := by
    match a, ha with
    | [x, y, z], _ => exact ⟨x, y, z, rfl⟩
  simp only [List.mem_cons, List.not_mem_nil, or_false, not_or] at hc
  obtain ⟨n1, n2, n3⟩ := hc
  by_cases hm : 2 ≤ m
  · refine pa [.b false, .b false, .b false, .b false, .b true, .b true] rfl ?_ ?_
    · (repeat' with_reducible apply AllP_cons) <;> first | exact trivial | assumption | omega | rfl | exact decide_eq_true (by omega) | exact decide_eq_false (by omega) | (rw [IntWalk.i64_in _ ⟨by omega, by omega⟩]; omega) | exact allOne_mem rfl | exact Nat.le_of_ble_eq_true rfl | (simp only [List.length_cons, List.length_nil]; omega) | skip
      · exact beq_false_of_ne (by simp)
    refine S_extI (ixs [x, y, z] [c, d] m (by simp) (by simpa using hm) (by simp)) rfl rfl rfl ?_
    refine ab 1000 rfl trivial ?_
    refine S_retc .int rfl trivial ?_
    have : Lib.index [x, y, z] [c, d] = -1 := by simp [Lib.index, n1, n2, n3]
    rw [this]; rfl
  · refine pa [.b false, .b false, .b false, .b false, .b false, .b false] rfl ?_ ?_
    · (repeat' with_reducible apply AllP_cons) <;> first | exact trivial | assumption | omega | rfl | exact decide_eq_true (by omega) | exact decide_eq_false (by omega) | (rw [IntWalk.i64_in _ ⟨by omega, by omega⟩]; omega) | exact allOne_mem rfl | exact Nat.le_of_ble_eq_true rfl | (simp only [List.length_cons, List.length_nil]; omega) | skip
      · exact beq_false_of_ne (by simp)
    refine S_while (α := Unit) (fun _ => [(0, .str [x, y, z]), (1, .str [c, d]), (6, .int .u8 (c.toNat : Nat)), (8, .int .i64 0), (9, .int .i64 2)]) (fun _ => []) (fun _ => True) (fun _ => 0) ()
      trivial (.cons rfl (.cons rfl (.cons rfl (.cons rfl (.cons rfl (.nil _)))))) rfl ?_
    rintro _ _
    refine pa [.b true, .b true, .v (.int .i64 (-1)), .b true] rfl ?_ ?_
    · (repeat' with_reducible apply AllP_cons) <;> first | exact trivial | assumption | omega | rfl | exact decide_eq_true (by omega) | exact decide_eq_false (by omega) | (rw [IntWalk.i64_in _ ⟨by omega, by omega⟩]; omega) | exact allOne_mem rfl | exact Nat.le_of_ble_eq_true rfl | (simp only [List.length_cons, List.length_nil]; omega) | skip
      · exact bne_iff_ne.2 (fun h => n1 (UInt8.toNat_inj.1 (Int.ofNat.inj h)).symm)
      · have h := (indexByteS_ok [y] ((c.toNat : Nat) : Int)).at 2 m rfl
        rw [byteBack, show Lib.indexByte [y] c = -1 by simp [Lib.indexByte, Ne.symm n2]] at h
        exact ⟨_, h, .cons (.refl .str) (.cons (.refl .int) (.nil _))⟩
    exact S_retc .int rfl trivial rfl

theorem two_none : ∀ t ∈ signs18, t.length = 2 → ∃ c d, t = [c, d] ∧ c ∉ ([40, 91, 123] : List UInt8) ∧ c ∉ ([41, 93, 125] : List UInt8) := by
  intro t ht h
  simp only [signs18, List.mem_cons, List.not_mem_nil, or_false] at ht
  rcases ht with rfl | rfl | rfl | rfl | rfl | rfl | rfl | rfl | rfl | rfl | rfl | rfl | rfl | rfl | rfl | rfl | rfl | rfl <;> first | (simp at h; done) | exact ⟨_, _, rfl, by decide, by decide⟩

theorem one_or_two : ∀ t ∈ signs18, t.length = 2 ∨ ∃ c, t = [c] := by
  intro t ht
  simp only [signs18, List.mem_cons, List.not_mem_nil, or_false] at ht
  rcases ht with rfl | rfl | rfl | rfl | rfl | rfl | rfl | rfl | rfl | rfl | rfl | rfl | rfl | rfl | rfl | rfl | rfl | rfl <;> first | exact .inl rfl | exact .inr ⟨_, rfl⟩

/-- Which letters are there: three. -/
theorem Contains_ok (a : List UInt8) (t : List UInt8) (ha : a.length = 3) (h2 : t.length = 2 → ∃ c d, t = [c, d] ∧ c ∉ a) (h1 : t.length = 2 ∨ ∃ c, t = [c]) :
    Calc cx 50 [.str a, .str t] (.bool (decide (t ∈ a.map ([·])))) := by
  have key : ∃ i : Int, Calc cx 57 [.str a, .str t] (.int .i64 i) ∧ (0 ≤ i ↔ t ∈ a.map ([·])) := by
    rcases h1 with h | ⟨c, rfl⟩
    · obtain ⟨c, d, rfl, hc⟩ := h2 h
      refine ⟨-1, Index2_ok a c d ha hc, by simp⟩
    · refine ⟨_, Index1_ok a c ha, ?_⟩
      match a, ha with
      | [x, y, z], _ =>
        simp only [Lib.indexByte, List.map_cons, List.map_nil, List.mem_cons, List.not_mem_nil, or_false, List.cons.injEq, and_true]
        by_cases h1 : x = c
        · simp [h1]
        · by_cases h2 : y = c
          · simp [h1, h2]
          · by_cases h3 : z = c
            · simp [h1, h2, h3]
            · simp [h1, h2, h3, Ne.symm h1, Ne.symm h2, Ne.symm h3]
  obtain ⟨i, hi, hiff⟩ := key
  have hI : Calc cx 54 [.str a, .str t] (.int .i64 i) := pure_intro (fun a w => Tryd.call54 a w) Tryd.func54 rfl Tryd.ntmps54 rfl .int fun B => by
    refine pa [.v (.int .i64 i)] rfl ?_ ?_
    · (repeat' with_reducible apply AllP_cons) <;> first | exact trivial | assumption | omega | rfl | exact decide_eq_true (by omega) | exact decide_eq_false (by omega) | (rw [IntWalk.i64_in _ ⟨by omega, by omega⟩]; omega) | exact allOne_mem rfl | exact Nat.le_of_ble_eq_true rfl | (simp only [List.length_cons, List.length_nil]; omega) | skip
      exact ⟨_, hi, .cons (.refl .str) (.cons (.refl .str) (.nil _))⟩
    exact S_retc .int rfl trivial rfl
  exact pure_intro (fun a w => Tryd.call50 a w) Tryd.func50 rfl Tryd.ntmps50 rfl .bool fun B => by
    refine pa [.v (.int .i64 i)] rfl ?_ ?_
    · (repeat' with_reducible apply AllP_cons) <;> first | exact trivial | assumption | omega | rfl | exact decide_eq_true (by omega) | exact decide_eq_false (by omega) | (rw [IntWalk.i64_in _ ⟨by omega, by omega⟩]; omega) | exact allOne_mem rfl | exact Nat.le_of_ble_eq_true rfl | (simp only [List.length_cons, List.length_nil]; omega) | skip
      exact ⟨_, hI, .cons (.refl .str) (.cons (.refl .str) (.nil _))⟩
    refine S_retc .bool rfl trivial ?_
    exact congrArg AV.bool (decide_eq_decide.2 hiff)

def two4 : List (List UInt8) := [[61, 61], [33, 61], [60, 61], [47, 47]]
def one14 : List UInt8 := [61, 60, 43, 45, 42, 37, 40, 41, 91, 93, 123, 125, 44, 58]

theorem find_two (l : List UInt8) : ∀ (gs : List (List UInt8)), (∀ g ∈ gs, g.length = 2) → gs.find? (fun g => g.isPrefixOf l) = if l.take 2 ∈ gs then some (l.take 2) else none
  | [], _ => rfl
  | g :: gs, h => by
    have ih := find_two l gs (fun x hx => h x (List.mem_cons_of_mem _ hx))
    have hg := h g (List.mem_cons_self ..)
    rw [List.find?_cons]
    cases hp : g.isPrefixOf l with
    | true =>
      have he : g = l.take 2 := by rw [← hg]; exact List.prefix_iff_eq_take.1 (List.isPrefixOf_iff_prefix.1 hp)
      rw [if_pos (by rw [← he]; exact List.mem_cons_self ..)]
      exact congrArg some he
    | false =>
      have hne : l.take 2 ≠ g := fun he => by
        have : g <+: l := by rw [← he]; exact List.take_prefix _ _
        rw [List.isPrefixOf_iff_prefix.2 this] at hp; cases hp
      simp only [ih, List.mem_cons, hne, false_or]

theorem find_one (c : UInt8) (l : List UInt8) : ∀ (gs : List UInt8), (gs.map ([·])).find? (fun g => g.isPrefixOf (c :: l)) = if c ∈ gs then some [c] else none
  | [] => rfl
  | g :: gs => by
    have ih := find_one c l gs
    rw [List.map_cons, List.find?_cons]
    by_cases h : g = c
    · subst h; simp [List.isPrefixOf]
    · have : ([g] : List UInt8).isPrefixOf (c :: l) = false := by simp [List.isPrefixOf, h]
      rw [this]
      simp only [ih, List.mem_cons, Ne.symm h, false_or]

theorem signAt_eq {s : List UInt8} {i : Nat} (hi : i < s.length) : signAt s i = if (s.drop i).take 2 ∈ two4 then some ((s.drop i).take 2) else if s[i] ∈ one14 then some [s[i]] else none := by
  have e : signs18 = two4 ++ one14.map ([·]) := rfl
  rw [signAt, e, List.find?_append, find_two _ two4 (by decide), List.drop_eq_getElem_cons hi, find_one]
  split <;> simp

theorem SignAt_ok (s : List UInt8) (i : Nat) (hi : i < s.length) (hs : s.length ≤ 1048576) : Calc cx 33 [.str s, .int .i64 i] (.str ((signAt s i).getD [])) :=
  pure_intro (fun a w => Tryd.call33 a w) Tryd.func33 rfl Tryd.ntmps33 rfl .str fun B => by
    rw [signAt_eq hi]
    have hw1 : IntKind.i64.wrap ((i : Nat) + 1) = ((i + 1 : Nat) : Int) := by rw [IntWalk.i64_in _ ⟨by omega, by omega⟩]; omega
    have hw2 : IntKind.i64.wrap ((i : Nat) + 2) = ((i + 2 : Nat) : Int) := by rw [IntWalk.i64_in _ ⟨by omega, by omega⟩]; omega
    have hcut : (s.take (i + 2)).drop i = (s.drop i).take 2 := by rw [List.drop_take]; congr 1; omega
    refine ab 1000 rfl trivial ?_
    refine S_while (α := Nat) (fun j => [(0, .str s), (1, .int .i64 i), (5, .sl true true 1 (texts two4)), (6, .int .i64 j)]) (fun _ => []) (fun j => j ≤ 4 ∧ (s.drop i).take 2 ∉ two4.take j) (fun j => 4 - j) 0
      ⟨Nat.zero_le _, by simp⟩ (.cons rfl (.cons rfl (.cons rfl (.cons rfl (.nil _))))) rfl ?_
    rintro j ⟨hj, hN⟩
    have hj : j ≤ 4 := hj
    have hi' : (0 : Int) ≤ ((i : Nat) : Int) ∧ ((i : Nat) : Int) < ((s.length : Nat) : Int) := by omega
    have htl : (texts two4).length = 4 := rfl
    by_cases hlt : j < 4 ∧ i + 1 < s.length
    · obtain ⟨hlt, hi2⟩ := hlt
      have hg : (texts two4)[((j : Nat) : Int).toNat]? = some (.str (two4[j]'hlt)) := texts_get (l := two4) hlt
      have hd : decide (((j : Nat) : Int) < (((texts two4).length : Nat) : Int)) = true := decide_eq_true (by rw [htl]; omega)
      have hcc : cutL (some ((i : Nat) : Int)) (some (IntKind.i64.wrap ((i : Nat) + 2))) s = (s.drop i).take 2 := by
        rw [hw2]; show (s.take ((i + 2 : Nat) : Int).toNat).drop ((i : Nat) : Int).toNat = _
        rw [Int.toNat_natCast, Int.toNat_natCast, hcut]
      by_cases he : (s.drop i).take 2 = two4[j]'hlt
      · rw [if_pos (by rw [he]; exact List.getElem_mem _)]
        refine pa [.b true, .b true, .v (.str (two4[j]'hlt)), .b true, .v (.str (two4[j]'hlt))] rfl ?_ ?_
        · (repeat' with_reducible apply AllP_cons) <;> first | exact trivial | assumption | omega | rfl | exact decide_eq_true (by omega) | exact decide_eq_false (by omega) | (rw [IntWalk.i64_in _ ⟨by omega, by omega⟩]; omega) | exact allOne_mem rfl | exact Nat.le_of_ble_eq_true rfl | (simp only [List.length_cons, List.length_nil]; omega) | skip
          rw [hcc, he]; simp
        exact S_retc .str rfl trivial (by rw [he]; rfl)
      · refine pa [.b true, .b true, .v (.str (two4[j]'hlt)), .b false] rfl ?_ ?_
        · (repeat' with_reducible apply AllP_cons) <;> first | exact trivial | assumption | omega | rfl | exact decide_eq_true (by omega) | exact decide_eq_false (by omega) | (rw [IntWalk.i64_in _ ⟨by omega, by omega⟩]; omega) | exact allOne_mem rfl | exact Nat.le_of_ble_eq_true rfl | (simp only [List.length_cons, List.length_nil]; omega) | skip
          rw [hcc]; exact beq_false_of_ne he
        refine S_round (j + 1) (by show 4 - (j + 1) < 4 - j; omega) ⟨hlt, fun hm => ?_⟩ (.cons rfl (.cons rfl (.cons rfl (.cons (ai64 rfl (by omega)) (.nil _))))) rfl
        rw [List.take_succ_eq_append_getElem (show j < two4.length from hlt)] at hm
        rcases List.mem_append.1 hm with hm | hm
        · exact hN hm
        · simp at hm; exact he hm
    · have hno : (s.drop i).take 2 ∉ two4 := by
        intro hm
        by_cases h4 : j = 4
        · rw [h4] at hN; exact hN hm
        · have hl : ∀ g ∈ two4, g.length = 2 := by decide
          have := hl _ hm
          rw [List.length_take, List.length_drop] at this
          omega
      rw [if_neg hno]
      refine' S_share [(0, .str s), (1, .int .i64 i), (7, .str one14), (8, .int .i64 0)] [] (fun cont => ?main) ?rest
      case main =>
        by_cases h4 : j < 4
        · refine pa [.b true, .b false] rfl ?_ ?_
          · (repeat' with_reducible apply AllP_cons) <;> first | exact trivial | assumption | omega | rfl | exact decide_eq_true (by omega) | exact decide_eq_false (by omega) | (rw [IntWalk.i64_in _ ⟨by omega, by omega⟩]; omega) | exact allOne_mem rfl | exact Nat.le_of_ble_eq_true rfl | (simp only [List.length_cons, List.length_nil]; omega) | skip
          exact cont _ (.cons rfl (.cons rfl (.cons rfl (.cons rfl (.nil _)))))
        · refine pa [.b false, .b false] rfl ?_ ?_
          · (repeat' with_reducible apply AllP_cons) <;> first | exact trivial | assumption | omega | rfl | exact decide_eq_true (by omega) | exact decide_eq_false (by omega) | (rw [IntWalk.i64_in _ ⟨by omega, by omega⟩]; omega) | exact allOne_mem rfl | exact Nat.le_of_ble_eq_true rfl | (simp only [List.length_cons, List.length_nil]; omega) | skip
          exact cont _ (.cons rfl (.cons rfl (.cons rfl (.cons rfl (.nil _)))))
      case rest =>
        clear hN hlt hj
        refine S_while (α := Nat) (fun j => [(0, .str s), (1, .int .i64 i), (7, .str one14), (8, .int .i64 j)]) (fun _ => []) (fun j => j ≤ 14 ∧ s[i] ∉ one14.take j) (fun j => 14 - j) 0
          ⟨Nat.zero_le _, by simp⟩ (.cons rfl (.cons rfl (.cons rfl (.cons rfl (.nil _))))) rfl ?_
        rintro j ⟨hj, hN⟩
        have hj : j ≤ 14 := hj
        have hol : one14.length = 14 := rfl
        have hgc : (((s.getD ((i : Nat) : Int).toNat 0).toNat : Nat) : Int) = ((s[i].toNat : Nat) : Int) := by rw [Int.toNat_natCast, getD_byte hi]
        by_cases hlt : j < 14
        · have hgo : (((one14.getD ((j : Nat) : Int).toNat 0).toNat : Nat) : Int) = (((one14[j]'hlt).toNat : Nat) : Int) := by rw [Int.toNat_natCast, getD_byte (s := one14) hlt]
          by_cases he : s[i] = one14[j]'hlt
          · rw [if_pos (by rw [he]; exact List.getElem_mem _)]
            refine pa [.b true, .b true] rfl ?_ ?_
            · (repeat' with_reducible apply AllP_cons) <;> first | exact trivial | assumption | omega | rfl | exact decide_eq_true (by omega) | exact decide_eq_false (by omega) | (rw [IntWalk.i64_in _ ⟨by omega, by omega⟩]; omega) | exact allOne_mem rfl | exact Nat.le_of_ble_eq_true rfl | (simp only [List.length_cons, List.length_nil]; omega) | skip
              · rw [hgc, hgo, he]; exact beq_self_eq_true _
            refine S_retc .str rfl trivial ?_
            show AV.str ((s.take (IntKind.i64.wrap ((i : Nat) + 1)).toNat).drop ((i : Nat) : Int).toNat) = .str [s[i]]
            rw [hw1, Int.toNat_natCast, Int.toNat_natCast, List.drop_take, Nat.add_sub_cancel_left, List.drop_eq_getElem_cons hi]; rfl
          · refine pa [.b true, .b false] rfl ?_ ?_
            · (repeat' with_reducible apply AllP_cons) <;> first | exact trivial | assumption | omega | rfl | exact decide_eq_true (by omega) | exact decide_eq_false (by omega) | (rw [IntWalk.i64_in _ ⟨by omega, by omega⟩]; omega) | exact allOne_mem rfl | exact Nat.le_of_ble_eq_true rfl | (simp only [List.length_cons, List.length_nil]; omega) | skip
              · rw [hgc, hgo]; exact beq_false_of_ne (fun h => he (UInt8.toNat_inj.1 (by omega)))
            refine S_round (j + 1) (by show 14 - (j + 1) < 14 - j; omega) ⟨hlt, fun hm => ?_⟩ (.cons rfl (.cons rfl (.cons rfl (.cons (ai64 rfl (by omega)) (.nil _))))) rfl
            rw [List.take_succ_eq_append_getElem (show j < one14.length from hlt)] at hm
            rcases List.mem_append.1 hm with hm | hm
            · exact hN hm
            · simp at hm; exact he hm
        · have h14 : j = 14 := by omega
          have hN : s[i] ∉ one14 := by rw [h14] at hN; exact hN
          rw [if_neg hN]
          refine pa [.b false] rfl ?_ ?_
          · (repeat' with_reducible apply AllP_cons) <;> first | exact trivial | assumption | omega | rfl | exact decide_eq_true (by omega) | exact decide_eq_false (by omega) | (rw [IntWalk.i64_in _ ⟨by omega, by omega⟩]; omega) | exact allOne_mem rfl | exact Nat.le_of_ble_eq_true rfl | (simp only [List.length_cons, List.length_nil]; omega) | skip
          exact S_retc .str rfl trivial rfl

end Go.Proofs.YtkgmbnjdeokdkaaDoor
