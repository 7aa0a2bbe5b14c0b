/-
  Texts of our own, in one file.
-/
import Derived.Test.YtnfalbdnkgaelaaDoorGrpD
import Derived.WideShapes
section
set_option linter.unusedVariables false
set_option linter.unusedSimpArgs false
set_option maxRecDepth 20000
set_option maxHeartbeats 1000000
namespace Go.Proofs.YtnfalbdnkgaelaaDoor
open Go Go.Ab
def booA (n : Nat) (P : Nat → Bool) : List AV := (List.range n).map fun j => .bool (P j)
def rwE (n : Nat) (P : Nat → Bool) : Nat × Option Box := (0, some (.cells (booA n P) ⟨false, none⟩))
def refA (n k : Nat) : List AV := (List.range k).map fun a => .ms (1 + a) 0 0 n 1 false
def reH (n k m : Nat) (R : Nat → Nat → Bool) : Heap := (k, some (.cells (refA n k) ⟨false, none⟩)) :: (List.range m).map fun a => rwE n (R a)
def rowsA (n m : Nat) (R : Nat → Nat → Bool) : List AV := (List.range m).map fun a => .sl true false 1 (booA n (R a))
theorem boo_len (n : Nat) (P : Nat → Bool) : (booA n P).length = n := by simp [booA]
theorem boo_get {n : Nat} {P : Nat → Bool} {j : Nat} (h : j < n) : (booA n P)[j]? = some (.bool (P j)) := by simp [booA, h]
theorem boo_one (n : Nat) (P : Nat → Bool) : ∀ x ∈ booA n P, x.one = true := fun x hx => by obtain ⟨j, _, rfl⟩ := List.mem_map.1 hx; rfl
theorem boo_free {st : Bool} (n : Nat) (P : Nat → Bool) : ∀ x ∈ booA n P, Free st x := fun x hx => by obtain ⟨j, _, rfl⟩ := List.mem_map.1 hx; exact .bool
theorem boo_set {n : Nat} {P : Nat → Bool} {j : Nat} (b : Bool) (h : j < n) : setRange (booA n P) j [.bool b] = booA n (fun x => if x = j then b else P x) := by
  apply List.ext_getElem?
  intro k
  rw [setRange_get _ _ _ (by rw [boo_len]; exact h)]
  unfold booA
  simp only [List.getElem?_map, List.length_cons, List.length_nil]
  by_cases hk : k = j
  · subst hk
    rw [if_pos (by omega)]
    simp [h]
  · rw [if_neg (by omega)]
    by_cases hk2 : k < n
    · simp [List.getElem?_range hk2, hk]
    · simp [hk2]
theorem boo_congr {n : Nat} {P Q : Nat → Bool} (h : ∀ j, j < n → P j = Q j) : booA n P = booA n Q := List.map_congr_left fun j hj => by rw [h j (List.mem_range.1 hj)]
theorem ref_len (n k : Nat) : (refA n k).length = k := by simp [refA]
theorem ref_get {n k a : Nat} (h : a < k) : (refA n k)[a]? = some (.ms (1 + a) 0 0 n 1 false) := by simp [refA, h]
theorem ref_snoc (n k : Nat) : refA n (k + 1) = refA n k ++ [.ms (1 + k) 0 0 n 1 false] := by unfold refA; rw [List.range_succ, List.map_append]; rfl
theorem re_at {n k m : Nat} {R : Nat → Nat → Bool} {a : Nat} (h : a < m) : (reH n k m R)[1 + a]? = some (rwE n (R a)) := by
  rw [Nat.add_comm]
  show ((List.range m).map fun a => rwE n (R a))[a]? = _
  simp [h]
theorem re_congr {n k m : Nat} {R R' : Nat → Nat → Bool} (h : ∀ a, a < m → ∀ j, j < n → R a j = R' a j) : reH n k m R = reH n k m R' := by
  unfold reH
  congr 1
  refine List.map_congr_left fun a ha => ?_
  unfold rwE
  rw [boo_congr (h a (List.mem_range.1 ha))]
def updR (R : Nat → Nat → Bool) (i j : Nat) (b : Bool) : Nat → Nat → Bool := fun a c => if a = i then (if c = j then b else R i c) else R a c
theorem re_set {n k m : Nat} {R : Nat → Nat → Bool} {i j : Nat} (b : Bool) (hi : i < m) (hj : j < n) : (reH n k m R).set (1 + i) (0, some (.cells (setRange (booA n (R i)) j [.bool b]) ⟨false, none⟩)) = reH n k m (updR R i j b) := by
  rw [boo_set b hj, Nat.add_comm]
  show (k, _) :: ((List.range m).map fun a => rwE n (R a)).set i (rwE n _) = (k, _) :: _
  congr 1
  apply List.ext_getElem
  · simp
  · intro a h1 h2
    have ha : a < m := by simpa using h1
    rw [List.getElem_set, List.getElem_map, List.getElem_map, List.getElem_range]
    unfold updR
    by_cases e : i = a
    · subst e; rw [if_pos rfl]; simp
    · rw [if_neg e]; simp [Ne.symm e]
theorem re_snoc (n k m : Nat) (R : Nat → Nat → Bool) (P : Nat → Bool) : reH n k m R ++ [rwE n P] = reH n k (m + 1) (fun a c => if a = m then P c else R a c) := by
  unfold reH
  rw [List.cons_append, List.range_succ, List.map_append]
  congr 2
  · refine List.map_congr_left fun a ha => ?_
    have := List.mem_range.1 ha
    unfold rwE
    rw [boo_congr]
    intro j _
    show R a j = if a = m then P j else R a j
    rw [if_neg (by omega)]
  · simp
theorem re_alive (n k m : Nat) (R : Nat → Nat → Bool) : ∀ e ∈ reH n k m R, ∃ x, e.2 = some x := fun e he => by
  rcases List.mem_cons.1 he with rfl | he
  · exact ⟨_, rfl⟩
  · obtain ⟨a, _, rfl⟩ := List.mem_map.1 he; exact ⟨_, rfl⟩
theorem re_len (n k m : Nat) (R : Nat → Nat → Bool) : (reH n k m R).length = 1 + m := by simp [reH]; omega
def warIn (M : Nat → Nat → Bool) (k i j : Nat) : Nat → Nat → Bool := fun a b => if a < i ∨ (a = i ∧ b < j) then warK M k a b else M a b
theorem warIn_row (M : Nat → Nat → Bool) (k i j a : Nat) : warIn M k i j a k = M a k := by
  unfold warIn warK
  split
  · cases M a k <;> simp
  · rfl
theorem warIn_col (M : Nat → Nat → Bool) (k i j b : Nat) : warIn M k i j k b = M k b := by
  unfold warIn warK
  split
  · cases M k b <;> simp
  · rfl
theorem warIn_step (M : Nat → Nat → Bool) (k i j : Nat) : warIn M k i (j + 1) = updR (warIn M k i j) i j (warIn M k i j i j || (warIn M k i j i k && warIn M k i j k j)) := by
  funext a b
  rw [warIn_row, warIn_col]
  unfold updR
  by_cases h1 : a = i
  · subst h1
    rw [if_pos rfl]
    by_cases h2 : b = j
    · subst h2
      rw [if_pos rfl]
      unfold warIn
      rw [if_pos (by omega), if_neg (by omega)]; rfl
    · rw [if_neg h2]
      unfold warIn
      by_cases h3 : b < j
      · rw [if_pos (by omega), if_pos (by omega)]
      · rw [if_neg (by omega), if_neg (by omega)]
  · rw [if_neg h1]
    unfold warIn
    by_cases h3 : a < i
    · rw [if_pos (by omega), if_pos (by omega)]
    · rw [if_neg (by omega), if_neg (by omega)]
theorem updR_self (R : Nat → Nat → Bool) (i j : Nat) : updR R i j (R i j) = R := by
  funext a b
  unfold updR
  by_cases h1 : a = i
  · rw [if_pos h1]
    by_cases h2 : b = j
    · rw [if_pos h2, h1, h2]
    · rw [if_neg h2, h1]
  · rw [if_neg h1]
theorem Reach_ok (st st' fl : Bool) (l : List Tg) (hok : NmOk l) (hz : TgSz l) : Calc cx 23 [.sl st' fl 5 (tgs st l)] (.sl true false 1 (rowsA l.length l.length (rchG l))) :=
  ⟨.sl (fun _ => rfl) (fun x hx => by obtain ⟨a, _, rfl⟩ := List.mem_map.1 hx; exact .sl (fun _ => rfl) (boo_free _ _)), callOk_introT (fun a w => Tryd.call23 a w) Tryd.func23 rfl Tryd.ntmps23 rfl fun B => by
    have hl60 := hok.len
    have hll := tgs_len st l
    have hT := fun name => TargetAt_ok st st' fl l name (by omega)
    have hil : ∀ (i : Nat), i < l.length → decide ((i : Int) < (((tgs st l).length : Nat) : Int)) = true := fun i h => decide_eq_true (by omega)
    have hex : ∀ (i : Nat), i = l.length → decide ((i : Int) < (((tgs st l).length : Nat) : Int)) = false := fun i h => decide_eq_false (by omega)
    have hget : ∀ (i : Nat) (h : i < l.length), (tgs st l)[(i : Int).toNat]? = some (tgA st l[i]) := fun i h => by rw [Int.toNat_natCast]; exact tgs_get h
    refine pB [] rfl ?_
    refine S_ghostF (t := 3) (gid := 0) (gver := 0) (σ' := reH l.length 0 0 (edG l)) 1 ⟨false, none⟩ rfl rfl ⟨_, _, .inl rfl⟩ ?_
    refine S_while (α := Nat) (fun i => [(0, .sl st' fl 5 (tgs st l)), (3, .ms 0 i 0 i 1 false), (4, .int .i64 (i : Nat))]) (fun i => reH l.length i i (edG l)) (fun i => i ≤ l.length) (fun i => l.length - i) 0 (Nat.zero_le _) (.cons rfl (.cons rfl (.cons rfl (.nil _)))) rfl ?_
    intro i hi
    by_cases hlt : i < l.length
    · have c2 := hil i hlt
      have c3 := hget i hlt
      have hnl := hz.nd _ (List.getElem_mem hlt)
      have hmem : l[i] ∈ l := List.getElem_mem hlt
      have hedge : ∀ c, c < l.length → edG l i c = decide (nmAt l c ∈ l[i].needs) := fun c hc => by
        rw [Bool.eq_iff_iff, edG_iff, decide_eq_true_eq, nmAt_get hc]
        exact ⟨fun ⟨_, _, h⟩ => h, fun h => ⟨hlt, hc, h⟩⟩
      have hcln := hok.cl _ hmem
      generalize l[i] = t at *
      have htl := texts_len t.needs
      refine pas [.b true, .s] rfl ?_ ?_
      · (repeat' with_reducible apply AllP_cons) <;> try exact aC
      refine pasn 2 [] rfl ?_ ?_
      · (repeat' with_reducible apply AllP_cons) <;> try exact aC
      refine S_spec (OpSpec.makeE (m := l.length) (z := .bool false) rfl rfl rfl rfl ?_ ?_ rfl (re_alive _ _ _ _) ?_ ?_) rfl rfl ?_
      · exact congrArg (fun m : Nat => AV.int .i64 (m : Nat)) hll
      · exact congrArg (fun m : Nat => AV.int .i64 (m : Nat)) hll
      · show 1 * l.length ≤ 281474976710656
        omega
      · omega
      refine S_heap (reH l.length i (i + 1) (fun a c => if a = i then decide (nmAt l c ∈ t.needs.take 0) else edG l a c)) ?_ ?_
      · have : repA l.length [.bool false] = booA l.length (fun _ => false) := by
          unfold repA booA
          exact (List.map_const' (l := List.range l.length) (b := AV.bool false)).symm ▸ (by rw [List.length_range])
        rw [this]
        exact (re_snoc l.length i i (edG l) fun _ => false).trans (re_congr fun a ha j hj => by
          show (if a = i then false else edG l a j) = (if a = i then decide (nmAt l j ∈ t.needs.take 0) else edG l a j)
          rw [List.take_zero]; simp)
      refine pas [] rfl ?_ ?_
      · (repeat' with_reducible apply AllP_cons) <;> try exact aC
      refine S_while (α := Nat) (fun j => [(0, .sl st' fl 5 (tgs st l)), (3, .ms 0 i 0 i 1 false), (4, .int .i64 (i : Nat)), (5, .ms (1 + i) 0 0 l.length 1 false), (6, .int .i64 (j : Nat))])
        (fun j => reH l.length i (i + 1) (fun a c => if a = i then decide (nmAt l c ∈ t.needs.take j) else edG l a c)) (fun j => j ≤ t.needs.length) (fun j => t.needs.length - j) 0 (Nat.zero_le _)
        (.cons rfl (.cons rfl (.cons rfl (.cons (congrArg (fun m : Nat => AV.ms m 0 0 l.length 1 false) (re_len ..)) (.cons rfl (.nil _)))))) rfl ?_
      intro j hj
      by_cases hjl : j < t.needs.length
      · have d2 : decide ((j : Int) < (((texts t.needs).length : Nat) : Int)) = true := decide_eq_true (by omega)
        have d3 : (texts t.needs)[(j : Int).toNat]? = some (.str t.needs[j]) := by rw [Int.toNat_natCast]; exact texts_get hjl
        have hkm := hcln _ (List.getElem_mem hjl)
        have htk : t.needs.take (j + 1) = t.needs.take j ++ [t.needs[j]] := List.take_succ_eq_append_getElem hjl
        generalize t.needs[j] = k at *
        have hTk := hT k
        have htA : tAt l k = ((atG l k : Nat) : Int) := by unfold tAt; rw [if_pos hkm]
        rw [htA] at hTk
        have hat := atG_lt hkm
        refine pas [.v (tgA st t), .b true, .v (tgA st t), .v (.str k), .v (.int .i64 ((atG l k : Nat) : Int)), .v .top, .s] rfl ?_ ?_
        · (repeat' with_reducible apply AllP_cons) <;> try exact aC
          · exact ⟨_, hTk, .cons (tgs_arg ..) (.cons (.refl .str) (.nil _))⟩
        refine S_spec (OpSpec.storeE (id := 1 + i) (ver := 0) (gT := none) (cs := booA l.length (fun c => decide (nmAt l c ∈ t.needs.take j))) (y := .bool true) rfl rfl rfl rfl rfl rfl ?_ ?_) rfl rfl ?_
        · refine (re_at (Nat.lt_succ_self i)).trans ?_
          unfold rwE
          rw [boo_congr (Q := fun c => decide (nmAt l c ∈ t.needs.take j))]
          intro c _
          rw [if_pos rfl]
        · show offN 0 (mulN (((atG l k : Nat) : Int)).toNat 1) + 1 ≤ _
          rw [offN_eq, mulN_eq, Int.toNat_natCast, boo_len]; omega
        refine S_heap (reH l.length i (i + 1) (fun a c => if a = i then decide (nmAt l c ∈ t.needs.take (j + 1)) else edG l a c)) ?_ ?_
        · have e : offN 0 (mulN (((atG l k : Nat) : Int)).toNat 1) = atG l k := by rw [offN_eq, mulN_eq, Int.toNat_natCast]; omega
          show (reH l.length i (i + 1) (fun a c => if a = i then decide (nmAt l c ∈ t.needs.take j) else edG l a c)).set (1 + i) (0, some (.cells (setRange (booA l.length (fun c => decide (nmAt l c ∈ t.needs.take j))) (offN 0 (mulN (((atG l k : Nat) : Int)).toNat 1)) [.bool true]) ⟨false, none⟩)) = _
          rw [e]
          have h0 := re_set (n := l.length) (k := i) (m := i + 1) (R := fun a c => if a = i then decide (nmAt l c ∈ t.needs.take j) else edG l a c) (i := i) (j := atG l k) true (Nat.lt_succ_self i) hat
          simp only [if_true] at h0
          rw [h0]
          refine re_congr fun a ha c hc => ?_
          show (if a = i then (if c = atG l k then true else if i = i then decide (nmAt l c ∈ t.needs.take j) else edG l i c) else if a = i then decide (nmAt l c ∈ t.needs.take j) else edG l a c) = if a = i then decide (nmAt l c ∈ t.needs.take (j + 1)) else edG l a c
          by_cases h1 : a = i
          · rw [if_pos h1, if_pos h1, if_pos rfl, htk]
            by_cases h2 : c = atG l k
            · rw [if_pos h2, h2, nmAt_at hkm]; simp
            · rw [if_neg h2, Bool.eq_iff_iff, decide_eq_true_eq, decide_eq_true_eq, List.mem_append, List.mem_singleton]
              exact ⟨.inl, fun h => h.elim id fun e => absurd (by rw [← e, atG_at hok.nd hc]) h2⟩
          · rw [if_neg h1, if_neg h1, if_neg h1]
        refine pas [] rfl ?_ ?_
        · (repeat' with_reducible apply AllP_cons) <;> try exact aC
        exact S_round (j + 1) (by show t.needs.length - (j + 1) < t.needs.length - j; omega) hjl (.cons rfl (.cons rfl (.cons rfl (.cons rfl (.cons (ai64 (by omega) (by omega)) (.nil _)))))) rfl
      · have hj : j ≤ t.needs.length := hj
        have hje : j = t.needs.length := by omega
        have d2 : decide ((j : Int) < (((texts t.needs).length : Nat) : Int)) = false := decide_eq_false (by omega)
        refine S_heap (reH l.length i (i + 1) (edG l)) ?_ ?_
        · refine re_congr fun a ha c hc => ?_
          by_cases h1 : a = i
          · rw [if_pos h1, h1, hedge c hc, hje, List.take_length]
          · rw [if_neg h1]
        refine pas [.v (tgA st t), .b false] rfl ?_ ?_
        · (repeat' with_reducible apply AllP_cons) <;> try exact aC
          · show 0 + i * 1 = (refA l.length i).length
            rw [ref_len]; omega
          · show (i + 1) * 24 ≤ 140737488355328
            omega
        refine S_round (i + 1) (by show l.length - (i + 1) < l.length - i; omega) hlt (.cons rfl (.cons rfl (.cons (ai64 (by omega) (by omega)) (.nil _)))) ?_
        show (i + 1, some (Box.cells (refA l.length i ++ [.ms (1 + i) 0 0 l.length 1 false]) ⟨false, none⟩)) :: _ = (i + 1, some (Box.cells (refA l.length (i + 1)) ⟨false, none⟩)) :: _
        rw [ref_snoc]
    · have hi : i ≤ l.length := hi
      have hie : i = l.length := by omega
      subst hie
      have c2 := hex _ rfl
      have hdr : ∀ a, a < l.length → (List.drop (offN 0 (mulN ((a : Int)).toNat 1)) (refA l.length l.length))[0]? = some (.ms (1 + a) 0 0 l.length 1 false) := fun a ha => by
        rw [offN_eq, mulN_eq, Int.toNat_natCast, List.getElem?_drop]
        have e : 0 + a * 1 + 0 = a := by omega
        rw [e]; exact ref_get ha
      have hdb : ∀ (P : Nat → Bool) c, c < l.length → (List.drop (offN 0 (mulN ((c : Int)).toNat 1)) (booA l.length P))[0]? = some (.bool (P c)) := fun P c hc => by
        rw [offN_eq, mulN_eq, Int.toNat_natCast, List.getElem?_drop]
        have e : 0 + c * 1 + 0 = c := by omega
        rw [e]; exact boo_get hc
      refine pas [.b false] rfl ?_ ?_
      · (repeat' with_reducible apply AllP_cons) <;> try exact aC
      refine S_while (α := Nat) (fun k => [(0, .sl st' fl 5 (tgs st l)), (3, .ms 0 l.length 0 l.length 1 false), (7, .int .i64 (k : Nat))]) (fun k => reH l.length l.length l.length (warN (edG l) k)) (fun k => k ≤ l.length) (fun k => l.length - k) 0 (Nat.zero_le _) (.cons rfl (.cons rfl (.cons rfl (.nil _)))) rfl ?_
      intro k hk
      by_cases hkl : k < l.length
      · have d1 := hil k hkl
        have hsucc : warN (edG l) (k + 1) = warK (warN (edG l) k) k := rfl
        generalize warN (edG l) k = M at *
        refine pas [.b true] rfl ?_ ?_
        · (repeat' with_reducible apply AllP_cons) <;> try exact aC
        refine S_heap (reH l.length l.length l.length (warIn M k 0 0)) (re_congr fun a ha b hb => by unfold warIn; rw [if_neg (by omega)]) ?_
        refine S_while (α := Nat) (fun i => [(0, .sl st' fl 5 (tgs st l)), (3, .ms 0 l.length 0 l.length 1 false), (7, .int .i64 (k : Nat)), (8, .int .i64 (i : Nat))]) (fun i => reH l.length l.length l.length (warIn M k i 0)) (fun i => i ≤ l.length) (fun i => l.length - i) 0 (Nat.zero_le _) (.cons rfl (.cons rfl (.cons rfl (.cons rfl (.nil _))))) rfl ?_
        intro i hi
        by_cases hil2 : i < l.length
        · have d2 := hil i hil2
          refine pas [.b true] rfl ?_ ?_
          · (repeat' with_reducible apply AllP_cons) <;> try exact aC
          refine S_while (α := Nat) (fun j => [(0, .sl st' fl 5 (tgs st l)), (3, .ms 0 l.length 0 l.length 1 false), (7, .int .i64 (k : Nat)), (8, .int .i64 (i : Nat)), (9, .int .i64 (j : Nat))]) (fun j => reH l.length l.length l.length (warIn M k i j)) (fun j => j ≤ l.length) (fun j => l.length - j) 0 (Nat.zero_le _) (.cons rfl (.cons rfl (.cons rfl (.cons rfl (.cons rfl (.nil _)))))) rfl ?_
          intro j hj
          by_cases hjl : j < l.length
          · have d3 := hil j hjl
            have hstep := warIn_step M k i j
            generalize warIn M k i j = R at *
            have t1 : decide ((i : Int) < (l.length : Int)) = true := decide_eq_true (by omega)
            refine pas [.b true, .v .top, .v (.ms (1 + i) 0 0 l.length 1 false), .v .top, .s] rfl ?_ ?_
            · (repeat' with_reducible apply AllP_cons) <;> try exact aC
              · exact hdr i hil2
            refine S_spec (OpSpec.loadE (id := 1 + i) (ver := 0) (cs := booA l.length (R i)) (g := ⟨false, none⟩) (x := .bool (R i k)) rfl rfl rfl rfl (re_at hil2) (hdb (R i) k hkl)) rfl rfl ?_
            have next : ∀ (fr : Fr) (K : List AI), True := fun _ _ => trivial
            cases hik : R i k with
            | false =>
              rw [hik, Bool.false_and, Bool.or_false, updR_self] at hstep
              refine pas [.b false, .b false] rfl ?_ ?_
              · (repeat' with_reducible apply AllP_cons) <;> try exact aC
              refine S_round (j + 1) (by show l.length - (j + 1) < l.length - j; omega) hjl (.cons rfl (.cons rfl (.cons rfl (.cons rfl (.cons (ai64 (by omega) (by omega)) (.nil _)))))) ?_
              show reH _ _ _ R = reH _ _ _ (warIn M k i (j + 1))
              rw [hstep]
            | true =>
              refine pas [.b true, .v .top, .v (.ms (1 + k) 0 0 l.length 1 false), .v .top, .s] rfl ?_ ?_
              · (repeat' with_reducible apply AllP_cons) <;> try exact aC
                · exact hdr k hkl
              refine S_spec (OpSpec.loadE (id := 1 + k) (ver := 0) (cs := booA l.length (R k)) (g := ⟨false, none⟩) (x := .bool (R k j)) rfl rfl rfl rfl (re_at hkl) (hdb (R k) j hjl)) rfl rfl ?_
              cases hkj : R k j with
              | false =>
                rw [hkj, Bool.and_false, Bool.or_false, updR_self] at hstep
                refine pas [.b false] rfl ?_ ?_
                · (repeat' with_reducible apply AllP_cons) <;> try exact aC
                refine S_round (j + 1) (by show l.length - (j + 1) < l.length - j; omega) hjl (.cons rfl (.cons rfl (.cons rfl (.cons rfl (.cons (ai64 (by omega) (by omega)) (.nil _)))))) ?_
                show reH _ _ _ R = reH _ _ _ (warIn M k i (j + 1))
                rw [hstep]
              | true =>
                rw [hik, hkj, Bool.and_self, Bool.or_true] at hstep
                refine pas [.b true, .v .top, .v (.ms (1 + i) 0 0 l.length 1 false), .v .top, .s] rfl ?_ ?_
                · (repeat' with_reducible apply AllP_cons) <;> try exact aC
                  · exact hdr i hil2
                refine S_spec (OpSpec.storeE (id := 1 + i) (ver := 0) (gT := none) (cs := booA l.length (R i)) (y := .bool true) rfl rfl rfl rfl rfl rfl (re_at hil2) ?_) rfl rfl ?_
                · show offN 0 (mulN ((j : Int)).toNat 1) + 1 ≤ _
                  rw [offN_eq, mulN_eq, Int.toNat_natCast, boo_len]; omega
                refine S_heap (reH l.length l.length l.length (warIn M k i (j + 1))) ?_ ?_
                · have e : offN 0 (mulN ((j : Int)).toNat 1) = j := by rw [offN_eq, mulN_eq, Int.toNat_natCast]; omega
                  show (reH l.length l.length l.length R).set (1 + i) (0, some (.cells (setRange (booA l.length (R i)) (offN 0 (mulN ((j : Int)).toNat 1)) [.bool true]) ⟨false, none⟩)) = _
                  rw [e, re_set true hil2 hjl, hstep]
                refine pas [] rfl ?_ ?_
                · (repeat' with_reducible apply AllP_cons) <;> try exact aC
                exact S_round (j + 1) (by show l.length - (j + 1) < l.length - j; omega) hjl (.cons rfl (.cons rfl (.cons rfl (.cons rfl (.cons (ai64 (by omega) (by omega)) (.nil _)))))) rfl
          · have hj : j ≤ l.length := hj
            have hje : j = l.length := by omega
            have d3 := hex j hje
            refine pas [.b false] rfl ?_ ?_
            · (repeat' with_reducible apply AllP_cons) <;> try exact aC
            refine S_round (i + 1) (by show l.length - (i + 1) < l.length - i; omega) hil2 (.cons rfl (.cons rfl (.cons rfl (.cons (ai64 (by omega) (by omega)) (.nil _))))) ?_
            refine re_congr fun a ha b hb => ?_
            unfold warIn
            by_cases h1 : a < i ∨ (a = i ∧ b < j)
            · rw [if_pos h1, if_pos (by omega)]
            · rw [if_neg h1, if_neg (by omega)]
        · have hi : i ≤ l.length := hi
          have hie : i = l.length := by omega
          have d2 := hex i hie
          refine pas [.b false] rfl ?_ ?_
          · (repeat' with_reducible apply AllP_cons) <;> try exact aC
          refine S_round (k + 1) (by show l.length - (k + 1) < l.length - k; omega) hkl (.cons rfl (.cons rfl (.cons (ai64 (by omega) (by omega)) (.nil _)))) ?_
          show reH _ _ _ (warIn M k i 0) = reH _ _ _ (warN (edG l) (k + 1))
          rw [hsucc]
          refine re_congr fun a ha b hb => ?_
          unfold warIn
          rw [if_pos (by omega)]
      · have hk : k ≤ l.length := hk
        have hke : k = l.length := by omega
        have d1 := hex k hke
        subst hke
        refine pas [.b false] rfl ?_ ?_
        · (repeat' with_reducible apply AllP_cons) <;> try exact aC
        refine S_ret ⟨_, _, rfl, trivial, 0, Nat.le_refl _, LowH.of (fun e he => by simp at he), _, ?_, rfl, rfl⟩
        show FzT 0 (reH l.length l.length l.length (rchG l)) (.ms 0 l.length 0 l.length 1 false) (.sl true false 1 (rowsA l.length l.length (rchG l)))
        have hro : ∀ x ∈ rowsA l.length l.length (rchG l), x.one = true := fun x hx => by obtain ⟨a, _, rfl⟩ := List.mem_map.1 hx; rfl
        have hrl : (rowsA l.length l.length (rchG l)).length = l.length := by simp [rowsA]
        have hfm : (rowsA l.length l.length (rchG l)).flatMap AV.cells = rowsA l.length l.length (rchG l) := ones_flat hro
        refine FzT.ms (cs := refA l.length l.length) (g := ⟨false, none⟩) (ys := refA l.length l.length) (Nat.zero_le _) rfl (by rw [ref_len]; omega) (by rw [List.drop_zero]; exact List.take_of_length_le (by rw [ref_len]; omega)) (fun x hx => by rw [one_cells (hro x hx)]; rfl) hrl (by rw [hfm, hrl, ref_len]) (fun i h h' => ?_)
        have hi2 : i < l.length := by rw [ref_len] at h; exact h
        have e1 : (refA l.length l.length)[i] = .ms (1 + i) 0 0 l.length 1 false := by simp [refA]
        have e2 : ((rowsA l.length l.length (rchG l)).flatMap AV.cells)[i] = .sl true false 1 (booA l.length (rchG l i)) := by
          simp only [hfm]; simp [rowsA]
        rw [e1, e2]
        exact FzT.ms1 (g := ⟨false, none⟩) (Nat.zero_le _) (by unfold boxAt; rw [re_at hi2]; rfl) (boo_one _ _) (boo_len _ _) (fun x hx => Low.free (boo_free (st := true) _ _ x hx))⟩
end Go.Proofs.YtnfalbdnkgaelaaDoor
end
section
set_option linter.unusedVariables false
set_option linter.unusedSimpArgs false
set_option maxRecDepth 20000
set_option maxHeartbeats 1000000
namespace Go.Proofs.YtnfalbdnkgaelaaDoor
open Go Go.Ab
theorem boo_snoc (n : Nat) (P : Nat → Bool) : booA (n + 1) P = booA n P ++ [.bool (P n)] := by unfold booA; rw [List.range_succ, List.map_append]; rfl
theorem booFz {σ : Heap} {id ver n : Nat} {P : Nat → Bool} {g : Tag} (h : boxAt σ id = some (ver, booA n P, g)) : Frz true σ (.ms id ver 0 n 1 false) (.sl true false 1 (booA n P)) := by
  refine .ms h (by rw [boo_len]; omega) ?_ (fun x hx => by rw [one_cells (boo_one _ _ x hx)]; rfl) (boo_len _ _) (boo_free _ _)
  rw [ones_flat (boo_one n P), List.drop_zero]
  exact List.take_of_length_le (by rw [boo_len]; omega)
theorem Everyone_ok (st st' fl : Bool) (l : List Tg) (hl : l.length ≤ 1000) : Calc cx 15 [.sl st' fl 5 (tgs st l)] (.sl true false 1 (booA l.length fun _ => true)) :=
  pure_intro (fun a w => Tryd.call15 a w) Tryd.func15 rfl Tryd.ntmps15 rfl (.sl (fun _ => rfl) (boo_free _ _)) fun B => by
    have hll := tgs_len st l
    refine pB [] rfl ?_
    refine S_ghostF (t := 3) (gid := 0) (gver := 0) (σ' := [(0, some (.cells [] ⟨false, none⟩))]) 1 ⟨false, none⟩ rfl rfl ⟨_, _, .inl rfl⟩ ?_
    refine S_while (α := Nat) (fun i => [(0, .sl st' fl 5 (tgs st l)), (3, .ms 0 i 0 i 1 false), (4, .int .i64 (i : Nat))]) (fun i => [(i, some (.cells (booA i fun _ => true) ⟨false, none⟩))]) (fun i => i ≤ l.length) (fun i => l.length - i) 0 (Nat.zero_le _) (.cons rfl (.cons rfl (.cons rfl (.nil _)))) rfl ?_
    intro i hi
    have hi : i ≤ l.length := hi
    by_cases hlt : i < l.length
    · have c2 : decide ((i : Int) < (((tgs st l).length : Nat) : Int)) = true := decide_eq_true (by omega)
      have hbl := boo_len i fun _ => true
      refine pa [.b true] rfl ?_ ?_
      · (repeat' with_reducible apply AllP_cons) <;> try exact aC
        · show 0 + i * 1 = (booA i fun _ => true).length
          omega
        · show (i + 1) * 1 ≤ 140737488355328
          omega
      refine S_round (i + 1) (by show l.length - (i + 1) < l.length - i; omega) hlt (.cons rfl (.cons rfl (.cons (ai64 (by omega) (by omega)) (.nil _)))) ?_
      show [(i + 1, some (Box.cells (booA i (fun _ => true) ++ [.bool true]) ⟨false, none⟩))] = [(i + 1, some (Box.cells (booA (i + 1) fun _ => true) ⟨false, none⟩))]
      rw [boo_snoc]
    · have hie : i = l.length := by omega
      have c2 : decide ((i : Int) < (((tgs st l).length : Nat) : Int)) = false := decide_eq_false (by omega)
      refine pB [.b false] rfl ?_
      refine S_ret ⟨_, _, rfl, trivial, _, rfl, ?_⟩
      rw [← hie]
      exact booFz rfl
def hcG (l : List Tg) (P : Nat → Bool) : Bool := (List.range l.length).any fun i => P i && rchG l i i
theorem HasCircle_ok (st st' fl sb fb : Bool) (l : List Tg) (P : Nat → Bool) (hok : NmOk l) (hz : TgSz l) : Calc cx 14 [.sl st' fl 5 (tgs st l), .sl sb fb 1 (booA l.length P)] (.bool (hcG l P)) :=
  pure_intro (fun a w => Tryd.call14 a w) Tryd.func14 rfl Tryd.ntmps14 rfl .bool fun B => by
    have hll := tgs_len st l
    have hl60 := hok.len
    have hR := Reach_ok st st' fl l hok hz
    refine pa [.v (.sl true false 1 (rowsA l.length l.length (rchG l)))] rfl ?_ ?_
    · (repeat' with_reducible apply AllP_cons) <;> try exact aC
      · exact ⟨_, hR, .cons (tgs_arg ..) (.nil _)⟩
    refine S_while (α := Nat) (fun i => [(0, .sl st' fl 5 (tgs st l)), (1, .sl sb fb 1 (booA l.length P)), (5, .sl true false 1 (rowsA l.length l.length (rchG l))), (6, .int .i64 (i : Nat))]) (fun _ => []) (fun i => i ≤ l.length ∧ ∀ j < i, (P j && rchG l j j) = false) (fun i => l.length - i) 0 ⟨Nat.zero_le _, fun j h => absurd h (Nat.not_lt_zero _)⟩ (.cons rfl (.cons rfl (.cons rfl (.cons rfl (.nil _))))) rfl ?_
    rintro i ⟨hi, hn⟩
    by_cases hlt : i < l.length
    · have c2 : decide ((i : Int) < (((tgs st l).length : Nat) : Int)) = true := decide_eq_true (by omega)
      have c3 : (booA l.length P)[(i : Int).toNat]? = some (.bool (P i)) := by rw [Int.toNat_natCast]; exact boo_get hlt
      have c4 : (rowsA l.length l.length (rchG l))[(i : Int).toNat]? = some (.sl true false 1 (booA l.length (rchG l i))) := by rw [Int.toNat_natCast]; simp [rowsA, hlt]
      have c5 : (booA l.length (rchG l i))[(i : Int).toNat]? = some (.bool (rchG l i i)) := by rw [Int.toNat_natCast]; exact boo_get hlt
      have hns : ∀ (h : (P i && rchG l i i) = false), ∀ j < i + 1, (P j && rchG l j j) = false := fun h j hj => by
        by_cases e : j < i
        · exact hn j e
        · have : j = i := by omega
          subst this; exact h
      cases hp : P i with
      | false =>
        rw [hp] at c3
        refine pB [.b true, .v (.bool false), .b false, .b false] rfl ?_
        exact S_round (i + 1) (by show l.length - (i + 1) < l.length - i; omega) ⟨hlt, hns (by rw [hp]; rfl)⟩ (.cons rfl (.cons rfl (.cons rfl (.cons (ai64 (by omega) (by omega)) (.nil _))))) rfl
      | true =>
        rw [hp] at c3
        cases hr : rchG l i i with
        | false =>
          rw [hr] at c5
          refine pB [.b true, .v (.bool true), .b true, .v (.sl true false 1 (booA l.length (rchG l i))), .v (.bool false), .b false] rfl ?_
          exact S_round (i + 1) (by show l.length - (i + 1) < l.length - i; omega) ⟨hlt, hns (by rw [hp, hr]; rfl)⟩ (.cons rfl (.cons rfl (.cons rfl (.cons (ai64 (by omega) (by omega)) (.nil _))))) rfl
        | true =>
          rw [hr] at c5
          refine pB [.b true, .v (.bool true), .b true, .v (.sl true false 1 (booA l.length (rchG l i))), .v (.bool true), .b true] rfl ?_
          refine S_retc .bool rfl trivial ?_
          have : hcG l P = true := List.any_eq_true.2 ⟨i, List.mem_range.2 hlt, by rw [hp, hr]; rfl⟩
          rw [this]; rfl
    · have hi : i ≤ l.length := hi
      have hie : i = l.length := by omega
      have c2 : decide ((i : Int) < (((tgs st l).length : Nat) : Int)) = false := decide_eq_false (by omega)
      refine pB [.b false] rfl ?_
      refine S_retc .bool rfl trivial ?_
      have : hcG l P = false := List.any_eq_false.2 fun j hj => by rw [hn j (by rw [hie]; exact List.mem_range.1 hj)]; simp
      rw [this]; rfl
def smG (l : List Tg) (P : Nat → Bool) (i : Nat) : List Nm := ((List.range i).filter P).map (nmAt l)
theorem smG_nodup {l : List Tg} (hn : (nmsG l).Nodup) (P : Nat → Bool) : (smG l P l.length).Nodup := by
  unfold smG
  have h1 : ((List.range l.length).filter P).Nodup := List.nodup_range.filter _
  exact List.pairwise_map.2 (List.Pairwise.imp_of_mem (fun {a c} ha hc (hne : a ≠ c) e => hne (nmAt_inj hn (List.mem_range.1 (List.mem_filter.1 ha).1) (List.mem_range.1 (List.mem_filter.1 hc).1) e)) h1)
theorem smG_mem {l : List Tg} {P : Nat → Bool} {i : Nat} {x : Nm} : x ∈ smG l P i ↔ ∃ j, j < i ∧ P j = true ∧ nmAt l j = x := by
  unfold smG
  rw [List.mem_map]
  constructor
  · rintro ⟨j, hj, rfl⟩
    obtain ⟨h1, h2⟩ := List.mem_filter.1 hj
    exact ⟨j, List.mem_range.1 h1, h2, rfl⟩
  · rintro ⟨j, h1, h2, rfl⟩
    exact ⟨j, List.mem_filter.2 ⟨List.mem_range.2 h1, h2⟩, rfl⟩
end Go.Proofs.YtnfalbdnkgaelaaDoor
end
section
set_option linter.unusedVariables false
set_option linter.unusedSimpArgs false
namespace Go.Ab
open Go Go.WideShapes
def laidB (P : Program) : List Field → Nat → Option Nat
  | [], o => some o
  | f :: r, o => match Nat.beq f.offset o with
    | true => laidB P r (o + P.cellsOf f.type)
    | false => none
mutual
def plainB (P : Program) : Nat → TypeId → Bool
  | 0, _ => false
  | n + 1, t => match P.underlying t with
    | some .bool => Nat.beq (P.cellsOf t) 1
    | some (.int _) => Nat.beq (P.cellsOf t) 1
    | some .string => Nat.beq (P.cellsOf t) 1
    | some (.slice e) => match Nat.beq (P.cellsOf t) 1, Nat.beq (P.cellsOf e) 0 with
      | true, false => plainB P n e
      | _, _ => false
    | some (.struct fs) => match laidB P fs.toList 0 with
      | some m => match Nat.beq (P.cellsOf t) m with
        | true => plainAll P n fs.toList
        | false => false
      | none => false
    | _ => false
def plainAll (P : Program) : Nat → List Field → Bool
  | 0, _ => false
  | n + 1, fs => match fs with
    | [] => true
    | f :: r => match plainB P n f.type with
      | true => plainAll P n r
      | false => false
end
inductive RdD (P : Program) {H : Type} : TypeId → DataW H → AV → Prop
  | bool {t b} (ht : P.underlying t = some .bool) : RdD P t (.lit (.bool b)) (.bool b)
  | int {t k n} (ht : P.underlying t = some (.int k)) (hw : (Lit.int k n).wf = true) : RdD P t (.lit (.int k n)) (.int k n)
  | str {t s} (ht : P.underlying t = some .string) (hs : s.length ≤ maxLen) : RdD P t (.lit (.string s)) (.str s)
  | nils {t e} (ht : P.underlying t = some (.slice e)) : RdD P t .nil (.sl true false (P.cellsOf e) [])
  | sl {t e} {ds rest : List (DataW H)} {xs : List AV} (ht : P.underlying t = some (.slice e)) (hl : xs.length = ds.length) (hm : xs.length ≤ maxLen) (h : ∀ i (h1 : i < ds.length) (h2 : i < xs.length), RdD P e ds[i] xs[i]) : RdD P t (.slice ds rest) (.sl true false (P.cellsOf e) xs)
  | st {t} {fs : Array Field} {ds : List (DataW H)} {xs : List AV} (ht : P.underlying t = some (.struct fs)) (hd : ds.length = fs.size) (hx : xs.length = fs.size) (h : ∀ i (h1 : i < ds.length) (h2 : i < xs.length) (h3 : i < fs.size), RdD P fs[i].type ds[i] xs[i]) : RdD P t (.agg ds) (.agg (xs.flatMap AV.cells))
def CellsV (w : World) (cs : List Value) (az : List AV) : Prop := cs.length = az.length ∧ ∀ i (h1 : i < cs.length) (h2 : i < az.length), VRel (Rl.old w) w cs[i] az[i]
theorem CellsV.one {w : World} {v : Value} {a : AV} (h : VRel (Rl.old w) w v a) : CellsV w [v] [a] := by
  refine ⟨rfl, fun i h1 h2 => ?_⟩
  obtain rfl : i = 0 := by simpa using h1
  exact h
theorem laidB_flat {P : Program} : ∀ (fs : List Field) (o m : Nat) (w : World) (cs : List Value) (xs : List AV), laidB P fs o = some m → xs.length = fs.length → (∀ i (h1 : i < fs.length) (h2 : i < xs.length), CellsV w ((cs.drop fs[i].offset).take (P.cellsOf fs[i].type)) xs[i].cells ∧ xs[i].cells.length = P.cellsOf fs[i].type) →
    cs.length = m → o ≤ m ∧ CellsV w (cs.drop o) (xs.flatMap AV.cells)
  | [], o, m, w, cs, xs, h, hl, hc, hm => by
    simp only [laidB, Option.some.injEq] at h
    obtain rfl : xs = [] := List.eq_nil_of_length_eq_zero hl
    subst h
    refine ⟨Nat.le_refl _, ?_⟩
    rw [List.drop_of_length_le (by omega)]
    exact ⟨rfl, fun i h => absurd h (by simp)⟩
  | f :: r, o, m, w, cs, xs, h, hl, hc, hm => by
    rw [laidB] at h
    split at h
    case h_2 => cases h
    rename_i hb
    have ho := Nat.eq_of_beq_eq_true hb
    obtain ⟨x, xs, rfl⟩ : ∃ x xs', xs = x :: xs' := by
      cases xs with
      | nil => simp at hl
      | cons x xs => exact ⟨x, xs, rfl⟩
    have h0 := hc 0 (by simp) (by simp)
    simp only [List.getElem_cons_zero] at h0
    obtain ⟨h1, h2⟩ := laidB_flat r (o + P.cellsOf f.type) m w cs xs h (by simpa using hl) (fun i k1 k2 => hc (i + 1) (Nat.succ_lt_succ k1) (Nat.succ_lt_succ k2)) hm
    refine ⟨by omega, ?_⟩
    obtain ⟨⟨e1, e2⟩, e3⟩ := h0
    rw [ho] at e1 e2
    rw [List.flatMap_cons]
    have hsplit : cs.drop o = (cs.drop o).take (P.cellsOf f.type) ++ cs.drop (o + P.cellsOf f.type) := by
      rw [← List.drop_drop, List.take_append_drop]
    rw [hsplit]
    refine ⟨by rw [List.length_append, List.length_append, e1, h2.1], fun i k1 k2 => ?_⟩
    by_cases hi : i < x.cells.length
    · rw [List.getElem_append_left (by omega), List.getElem_append_left hi]
      exact e2 i (by omega) hi
    · rw [List.getElem_append_right (by omega), List.getElem_append_right (by omega)]
      have : i - ((cs.drop o).take (P.cellsOf f.type)).length = i - x.cells.length := by omega
      simp only [this]
      exact h2.2 _ _ _
theorem read_cells {H : Type} {enc : TypeId × Value → H} {P : Program} {W : World} : ∀ (fuel n : Nat) (t : TypeId) (cs : List Value) (d : DataW H) (ps : List MemPlace), DataW.trod enc P W 0 (fun _ => true) true fuel t cs = some (d, ps) → plainB P n t = true →
    ∃ a, RdD P t d a ∧ a.cells.length = P.cellsOf t ∧ CellsV W cs a.cells ∧ (∀ v, (∃ xs, v = .agg xs ∧ xs.toList = cs ∧ aggT P t = some true) ∨ ([v] = cs ∧ aggT P t = some false) → VRel (Rl.old W) W v a) := by
  intro fuel
  induction fuel with
  | zero => intro n t cs d ps h _; simp [DataW.trod] at h
  | succ fuel ih =>
    intro n t cs d ps h hp
    have hall : ∀ (n : Nat) (fs : List Field), plainAll P n fs = true → ∀ i (hi : i < fs.length), ∃ m, plainB P m fs[i].type = true := by
      intro n
      induction n with
      | zero => intro fs h; simp [plainAll] at h
      | succ n ihn =>
        intro fs h i hi
        cases fs with
        | nil => simp at hi
        | cons f r =>
          rw [plainAll] at h
          split at h
          · rename_i hb
            cases i with
            | zero => exact ⟨n, hb⟩
            | succ i => exact ihn r h i (by simpa using hi)
          · cases h
    cases n with
    | zero => simp [plainB] at hp
    | succ n =>
      rw [plainB] at hp
      split at hp
      ·
        rename_i ht
        obtain ⟨b, rfl, hx⟩ := DataW.trod_bool ht h
        cases hx
        refine ⟨.bool b, .bool ht, (Nat.eq_of_beq_eq_true hp).symm, .one .bool, ?_⟩
        rintro v (⟨xs, rfl, h1, h2⟩ | ⟨h1, h2⟩)
        · simp [aggT, ht] at h2
        · cases h1; exact .bool
      · rename_i k ht
        obtain ⟨m, rfl, hx, hw⟩ := DataW.trod_int ht h
        cases hx
        refine ⟨.int _ m, .int ht hw, (Nat.eq_of_beq_eq_true hp).symm, .one .int, ?_⟩
        rintro v (⟨xs, rfl, h1, h2⟩ | ⟨h1, h2⟩)
        · simp [aggT, ht] at h2
        · cases h1; exact .int
      · rename_i ht
        obtain ⟨s, rfl, hx, hw⟩ := DataW.trod_string ht h
        cases hx
        refine ⟨.str s.data.toList, .str ht (by rw [Array.length_toList]; exact hw), (Nat.eq_of_beq_eq_true hp).symm, .one (.str rfl), ?_⟩
        rintro v (⟨xs, rfl, h1, h2⟩ | ⟨h1, h2⟩)
        · simp [aggT, ht] at h2
        · cases h1; exact .str rfl
      ·
        rename_i e ht
        split at hp
        case h_2 => cases hp
        rename_i hc1 hc0
        have hc1 := Nat.eq_of_beq_eq_true hc1
        have hpos : 0 < P.cellsOf e := by
          rcases Nat.eq_zero_or_pos (P.cellsOf e) with h0 | h0
          · rw [h0] at hc0; cases hc0
          · exact h0
        rcases DataW.trod_slice ht h with ⟨rfl, hx⟩ | ⟨a, len, cap, elems, rest, fu, hfu, rfl, hx, _, hl, hm, hlen, hel, hsp, hns⟩
        · cases hx
          refine ⟨_, .nils ht, hc1.symm, .one (.sl0 (fun h => by cases h)), ?_⟩
          rintro v (⟨xs, rfl, h1, h2⟩ | ⟨h1, h2⟩)
          · simp [aggT, ht] at h2
          · cases h1; exact .sl0 (fun h => by cases h)
        · cases hx
          obtain rfl : fuel = fu := by omega
          have each : ∀ i (hi : i < elems.length), ∃ x, RdD P e (elems[i]).1 x ∧ x.cells.length = P.cellsOf e ∧ ∃ ecs : List Value, W.cells? 0 (a.add (i * P.cellsOf e)) (P.cellsOf e) = some ecs ∧ CellsV W ecs x.cells := by
            intro i hi
            have h1 := hel i (by omega)
            rw [List.getElem?_eq_getElem hi, Option.bind_eq_some_iff] at h1
            obtain ⟨ecs, h2, h3⟩ := h1
            obtain ⟨x, k1, k2, k3, _⟩ := ih n e ecs (elems[i]).1 (elems[i]).2 h3 hp
            exact ⟨x, k1, k2, ecs, h2, k3⟩
          have : ∃ xs : List AV, xs.length = elems.length ∧ ∀ i (hi : i < elems.length) (hx : i < xs.length), RdD P e (elems[i]).1 xs[i] ∧ xs[i].cells.length = P.cellsOf e ∧ ∃ ecs : List Value, W.cells? 0 (a.add (i * P.cellsOf e)) (P.cellsOf e) = some ecs ∧ CellsV W ecs xs[i].cells := by
            refine ⟨(List.finRange elems.length).map fun i => Classical.choose (each i.1 i.2), by simp, fun i hi hx => ?_⟩
            simp only [List.getElem_map, List.getElem_finRange]
            exact Classical.choose_spec (each i hi)
          obtain ⟨xs, hxl, hxs⟩ := this
          have hv : VRel (Rl.old W) W (.slice (some a) len cap) (.sl true false (P.cellsOf e) xs) := by
            rcases Nat.eq_zero_or_pos len with h0 | h0
            · subst h0
              obtain rfl : xs = [] := List.eq_nil_of_length_eq_zero (by omega)
              exact .sl0 (fun h => by cases h)
            · obtain ⟨b, o, sp⟩ := a
              obtain ⟨_, _, ecs0, hc, _⟩ := hxs 0 (by omega) (by omega)
              obtain ⟨_, hcl, hcc⟩ := World.cells?_some hc
              have hcell0 := hcc 0 hpos
              rw [List.getElem?_eq_getElem (by omega)] at hcell0
              have hsp : sp = none := by
                cases sp with
                | none => rfl
                | some s =>
                  simp [Addr.add, World.cell?] at hcell0
                  split at hcell0 <;> cases hcell0
              subst hsp
              have hb : b < W.heap.size := by
                rw [Addr.add_lit] at hcell0
                rcases Nat.lt_or_ge b W.heap.size with h | h
                · exact h
                · simp [World.cell?, Addr.add, Array.getElem?_eq_none h] at hcell0
              have hcel : ∀ i, i < xs.length → ∀ j, j < P.cellsOf e → ∃ v, W.cell? ⟨b, o + i * P.cellsOf e + j, none⟩ = some v ∧ ∀ (hi : i < xs.length) (hj : j < (AV.cells xs[i]).length), VRel (Rl.old W) W v (AV.cells xs[i])[j] := by
                intro i hi j hj
                obtain ⟨_, hxc, ecs, hc, hcv⟩ := hxs i (by omega) hi
                obtain ⟨_, hcl, hcc⟩ := World.cells?_some hc
                have h1 := hcc j hj
                rw [List.getElem?_eq_getElem (by omega)] at h1
                rw [Addr.add_lit, Addr.add_lit] at h1
                refine ⟨ecs[j], h1, fun _ hj' => hcv.2 j _ hj'⟩
              refine .sl (by omega) hl (fun h => by cases h) hb (fun _ => hb) (fun x hx => ?_) (fun i j => (W.cell? ⟨b, o + i * P.cellsOf e + j, none⟩).getD undef) (fun i hi j hj => ?_) (fun i hi j hj => ?_)
              · obtain ⟨i, hi, rfl⟩ := List.getElem_of_mem hx
                exact (hxs i (by omega) hi).2.1
              · obtain ⟨v, h1, _⟩ := hcel i hi j hj
                rw [h1]; rfl
              · obtain ⟨v, h1, h2⟩ := hcel i hi j (by rw [(hxs i (by omega) hi).2.1] at hj; exact hj)
                rw [h1]
                exact h2 hi hj
          refine ⟨.sl true false (P.cellsOf e) xs, .sl ht (by simp [hxl]) (by omega) (fun i h1 h2 => by simpa using (hxs i (by simpa using h1) h2).1), hc1.symm, .one hv, ?_⟩
          rintro v (⟨ys, rfl, h1, h2⟩ | ⟨h1, h2⟩)
          · simp [aggT, ht] at h2
          · cases h1; exact hv
      ·
        rename_i fs ht
        split at hp
        case h_2 => cases hp
        rename_i m hm
        split at hp
        case h_2 => cases hp
        rename_i hcm
        have hcm := Nat.eq_of_beq_eq_true hcm
        obtain ⟨ys, fu, hfu, hx, hl, hyl, hy⟩ := DataW.trod_struct ht h
        obtain rfl : fuel = fu := by omega
        cases hx
        have each : ∀ i (hi : i < fs.toList.length) (hi' : i < ys.length), ∃ x, RdD P (fs.toList[i]).type (ys[i]).1 x ∧ x.cells.length = P.cellsOf (fs.toList[i]).type ∧ CellsV W ((cs.drop (fs.toList[i]).offset).take (P.cellsOf (fs.toList[i]).type)) x.cells := by
          intro i hi hi'
          have h1 := hy i (fs.toList[i]) (by simp at hi; simp [hi])
          rw [List.getElem?_eq_getElem hi'] at h1
          obtain ⟨k, hk⟩ := hall n fs.toList hp i hi
          obtain ⟨x, k1, k2, k3, _⟩ := ih k _ _ (ys[i]).1 (ys[i]).2 h1 hk
          exact ⟨x, k1, k2, k3⟩
        have hfl : fs.toList.length = ys.length := by simp [hyl]
        have : ∃ xs : List AV, xs.length = fs.toList.length ∧ ∀ i (hi : i < fs.toList.length) (hi' : i < ys.length) (hx : i < xs.length), RdD P (fs.toList[i]).type (ys[i]).1 xs[i] ∧ xs[i].cells.length = P.cellsOf (fs.toList[i]).type ∧ CellsV W ((cs.drop (fs.toList[i]).offset).take (P.cellsOf (fs.toList[i]).type)) xs[i].cells := by
          refine ⟨(List.finRange fs.toList.length).map fun i => Classical.choose (each i.1 i.2 (by omega)), by simp, fun i hi hi' hx => ?_⟩
          simp only [List.getElem_map, List.getElem_finRange]
          exact Classical.choose_spec (each i hi hi')
        obtain ⟨xs, hxl, hxs⟩ := this
        obtain ⟨_, hcv⟩ := laidB_flat fs.toList 0 m W cs xs hm hxl (fun i h1 h2 => ⟨(hxs i h1 (by omega) h2).2.2, (hxs i h1 (by omega) h2).2.1⟩) (by omega)
        rw [List.drop_zero] at hcv
        refine ⟨.agg (xs.flatMap AV.cells), .st ht (by simp [hyl]) (by simpa using hxl) (fun i h1 h2 h3 => by
          have := (hxs i (by simpa using h3) (by simpa using h1) h2).1
          simp only [Array.getElem_toList, List.getElem_map] at this ⊢
          exact this), by show (xs.flatMap AV.cells).length = _; rw [← hcv.1]; omega, hcv, ?_⟩
        rintro v (⟨zs, rfl, h1, h2⟩ | ⟨h1, h2⟩)
        · refine .agg (by rw [← hcv.1, ← h1]; simp) (fun i hi => ?_)
          have h3 : i < cs.length := by rw [hcv.1]; exact hi
          have := hcv.2 i h3 hi
          subst h1
          rw [Array.getD_eq_getD_getElem?, Array.getElem?_eq_getElem (by simpa using h3)]
          simpa using this
        · simp [aggT, ht] at h2
      · cases hp
theorem read_plain {H : Type} {enc : TypeId × Value → H} {P : Program} {W : World} {r : Reach} {base : Nat} {n : Nat} {t : TypeId} {v : Value} {d : DataW H} {ps : List MemPlace} (hp : plainB P n t = true) (hv : Value.okWide P W r base t v)
    (h : DataW.Trod enc P W 0 (fun _ => true) true t v d ps) : ∃ a, VRel (Rl.old W) W v a ∧ RdD P t d a := by
  obtain ⟨fuel, hf⟩ := h
  obtain ⟨a, h1, _, _, h2⟩ := read_cells fuel n t _ d ps hf hp
  refine ⟨a, h2 v ?_, h1⟩
  cases n with
  | zero => simp [plainB] at hp
  | succ n =>
    rw [plainB] at hp
    split at hp
    · rename_i ht
      obtain ⟨b, rfl⟩ := okWide_bool ht hv
      exact .inr ⟨rfl, by simp [aggT, ht]⟩
    · rename_i k ht
      obtain ⟨b, rfl⟩ := okWide_int ht hv
      exact .inr ⟨rfl, by simp [aggT, ht]⟩
    · rename_i ht
      obtain ⟨b, rfl⟩ := okWide_string ht hv
      exact .inr ⟨rfl, by simp [aggT, ht]⟩
    · rename_i e ht
      obtain ⟨a, len, cap, rfl⟩ := okWide_slice ht hv
      exact .inr ⟨rfl, by simp [aggT, ht]⟩
    · rename_i fs ht
      obtain ⟨cs, rfl, _⟩ := okWide_struct ht hv
      exact .inl ⟨cs, rfl, rfl, by simp [aggT, ht]⟩
    · cases hp
def RdDAll (P : Program) {H : Type} : List Field → List (DataW H) → List AV → Prop
  | [], [], [] => True
  | f :: fs, d :: ds, x :: xs => RdD P f.type d x ∧ RdDAll P fs ds xs
  | _, _, _ => False
theorem RdDAll.of {P : Program} {H : Type} : ∀ {fs : List Field} {ds : List (DataW H)} {xs : List AV}, ds.length = fs.length → xs.length = fs.length → (∀ i (h1 : i < ds.length) (h2 : i < xs.length) (h3 : i < fs.length), RdD P fs[i].type ds[i] xs[i]) → RdDAll P fs ds xs
  | [], ds, xs, h1, h2, _ => by
    obtain rfl : ds = [] := List.eq_nil_of_length_eq_zero h1
    obtain rfl : xs = [] := List.eq_nil_of_length_eq_zero h2
    trivial
  | f :: fs, ds, xs, h1, h2, h => by
    cases ds with
    | nil => simp at h1
    | cons d ds =>
      cases xs with
      | nil => simp at h2
      | cons x xs =>
        exact ⟨h 0 (by simp) (by simp) (by simp), RdDAll.of (by simpa using h1) (by simpa using h2) (fun i k1 k2 k3 => h (i + 1) (Nat.succ_lt_succ k1) (Nat.succ_lt_succ k2) (Nat.succ_lt_succ k3))⟩
theorem RdDAll.cons {P : Program} {H : Type} {f : Field} {fs : List Field} {ds : List (DataW H)} {xs : List AV} (h : RdDAll P (f :: fs) ds xs) : ∃ d ds' x xs', ds = d :: ds' ∧ xs = x :: xs' ∧ RdD P f.type d x ∧ RdDAll P fs ds' xs' := by
  match ds, xs, h with
  | d :: ds', x :: xs', ⟨h1, h2⟩ => exact ⟨d, ds', x, xs', rfl, rfl, h1, h2⟩
theorem RdDAll.nil {P : Program} {H : Type} {ds : List (DataW H)} {xs : List AV} (h : RdDAll P [] ds xs) : ds = [] ∧ xs = [] := by
  match ds, xs, h with
  | [], [], _ => exact ⟨rfl, rfl⟩
section
variable {P : Program} {H : Type} {t : TypeId} {d : DataW H} {a : AV}
theorem RdD.inv_st {fs : Array Field} (h : RdD P t d a) (ht : P.underlying t = some (.struct fs)) : ∃ ds xs, d = .agg ds ∧ a = .agg (xs.flatMap AV.cells) ∧ RdDAll P fs.toList ds xs := by
  cases h with
  | st ht' hd hx h =>
    rw [ht] at ht'
    cases ht'
    exact ⟨_, _, rfl, rfl, .of (by simpa using hd) (by simpa using hx) (fun i h1 h2 h3 => by simpa using h i h1 h2 (by simpa using h3))⟩
  | bool ht' => rw [ht] at ht'; cases ht'
  | str ht' => rw [ht] at ht'; cases ht'
  | int ht' => rw [ht] at ht'; cases ht'
  | nils ht' => rw [ht] at ht'; cases ht'
  | sl ht' => rw [ht] at ht'; cases ht'
theorem RdD.inv_str (h : RdD P t d a) (ht : P.underlying t = some .string) : ∃ s, d = .lit (.string s) ∧ a = .str s ∧ s.length ≤ maxLen := by
  cases h with
  | str ht' hs => exact ⟨_, rfl, rfl, hs⟩
  | bool ht' => rw [ht] at ht'; cases ht'
  | int ht' => rw [ht] at ht'; cases ht'
  | nils ht' => rw [ht] at ht'; cases ht'
  | sl ht' => rw [ht] at ht'; cases ht'
  | st ht' => rw [ht] at ht'; cases ht'
theorem RdD.inv_bool (h : RdD P t d a) (ht : P.underlying t = some .bool) : ∃ b, d = .lit (.bool b) ∧ a = .bool b := by
  cases h with
  | bool ht' => exact ⟨_, rfl, rfl⟩
  | int ht' => rw [ht] at ht'; cases ht'
  | str ht' => rw [ht] at ht'; cases ht'
  | nils ht' => rw [ht] at ht'; cases ht'
  | sl ht' => rw [ht] at ht'; cases ht'
  | st ht' => rw [ht] at ht'; cases ht'
theorem RdD.inv_sl {e : TypeId} (h : RdD P t d a) (ht : P.underlying t = some (.slice e)) :
    ∃ (ds : List (DataW H)) (xs : List AV), a = .sl true false (P.cellsOf e) xs ∧ xs.length = ds.length ∧ xs.length ≤ maxLen ∧ (∀ i (h1 : i < ds.length) (h2 : i < xs.length), RdD P e ds[i] xs[i]) ∧ ((d = .nil ∧ ds = []) ∨ ∃ rest, d = .slice ds rest) := by
  cases h with
  | nils ht' => rw [ht] at ht'; cases ht'; exact ⟨[], [], rfl, rfl, Nat.zero_le _, fun i h => absurd h (by simp), .inl ⟨rfl, rfl⟩⟩
  | sl ht' hl hm h => rw [ht] at ht'; cases ht'; exact ⟨_, _, rfl, hl, hm, h, .inr ⟨_, rfl⟩⟩
  | bool ht' => rw [ht] at ht'; cases ht'
  | int ht' => rw [ht] at ht'; cases ht'
  | str ht' => rw [ht] at ht'; cases ht'
  | st ht' => rw [ht] at ht'; cases ht'
theorem RdD.each {α : Type} {e : TypeId} (f : α → AV) (g : α → DataW H → Prop) {ds : List (DataW H)} {xs : List AV} (hl : xs.length = ds.length) (h : ∀ i (h1 : i < ds.length) (h2 : i < xs.length), RdD P e ds[i] xs[i])
    (hf : ∀ d x, RdD P e d x → ∃ y, x = f y ∧ g y d) : ∃ ys : List α, xs = ys.map f ∧ ys.length = ds.length ∧ ∀ i (h1 : i < ds.length) (h2 : i < ys.length), g ys[i] ds[i] := by
  induction xs generalizing ds with
  | nil =>
    obtain rfl : ds = [] := List.eq_nil_of_length_eq_zero (by simpa using hl.symm)
    exact ⟨[], rfl, rfl, fun i h => absurd h (by simp)⟩
  | cons x xs ih =>
    cases ds with
    | nil => simp at hl
    | cons d ds =>
      obtain ⟨y, hy, hg⟩ := hf d x (h 0 (by simp) (by simp))
      obtain ⟨ys, h1, h2, h3⟩ := ih (ds := ds) (by simpa using hl) (fun i k1 k2 => h (i + 1) (Nat.succ_lt_succ k1) (Nat.succ_lt_succ k2))
      refine ⟨y :: ys, by rw [hy, h1]; rfl, by simp [h2], fun i k1 k2 => ?_⟩
      cases i with
      | zero => exact hg
      | succ i => exact h3 i (Nat.lt_of_succ_lt_succ k1) (Nat.lt_of_succ_lt_succ k2)
end
end Go.Ab
end
section
set_option linter.unusedVariables false
set_option linter.unusedSimpArgs false
namespace Go.Ab
open Go Go.WideShapes
mutual
def avB : AV → Nat
  | .str s => s.length
  | .sl _ _ _ xs => avS xs
  | .agg cs => avC cs
  | _ => 0
def avS : List AV → Nat
  | [] => 0
  | x :: r => avB x + 1 + avS r
def avC : List AV → Nat
  | [] => 0
  | x :: r => avB x + avC r
end
theorem avC_append (a b : List AV) : avC (a ++ b) = avC a + avC b := by
  induction a with
  | nil => simp [avC]
  | cons x a ih => simp only [List.cons_append, avC, ih]; omega
theorem avC_cells (x : AV) : avC x.cells ≤ avB x := by
  cases x <;> simp [AV.cells, avC, avB]
theorem avC_flat (xs : List AV) : avC (xs.flatMap AV.cells) ≤ avC xs := by
  induction xs with
  | nil => simp
  | cons x xs ih =>
    have := avC_cells x
    simp only [List.flatMap_cons, avC_append, avC]; omega
theorem avC_le_avS (xs : List AV) : avC xs ≤ avS xs := by
  induction xs with
  | nil => simp [avC, avS]
  | cons x xs ih => simp only [avC, avS]; omega
theorem avS_mem {x : AV} : ∀ {xs : List AV}, x ∈ xs → avB x + 1 ≤ avS xs
  | y :: ys, h => by
    rcases List.mem_cons.1 h with rfl | h
    · simp only [avS]; omega
    · have := avS_mem h; simp only [avS]; omega
theorem bulk_all {P : Program} {H : Type} {B : DataW H → Nat} {BA : List (DataW H) → Nat} (hn : BA [] = 0) (hc : ∀ d r, BA (d :: r) = B d + BA r) : ∀ {ds : List (DataW H)} {xs : List AV}, xs.length = ds.length →
    (∀ i (h1 : i < ds.length) (h2 : i < xs.length), avB xs[i] + 1 ≤ B ds[i]) → avS xs ≤ BA ds
  | [], xs, hl, h => by
    obtain rfl : xs = [] := List.eq_nil_of_length_eq_zero (by simpa using hl)
    simp [avS]
  | d :: ds, xs, hl, h => by
    cases xs with
    | nil => simp at hl
    | cons x xs =>
      have h0 := h 0 (by simp) (by simp)
      have := bulk_all (P := P) (B := B) hn hc (ds := ds) (xs := xs) (by simpa using hl) (fun i h1 h2 => h (i + 1) (Nat.succ_lt_succ h1) (Nat.succ_lt_succ h2))
      simp only [avS, hc]
      simp only [List.getElem_cons_zero] at h0
      omega
theorem RdD.bulk {P : Program} {H : Type} {B : DataW H → Nat} {BA : List (DataW H) → Nat} (hn : BA [] = 0) (hc : ∀ d r, BA (d :: r) = B d + BA r) (h1 : ∀ d, 1 ≤ B d) (hs : ∀ s, B (.lit (.string s)) = s.length + 1)
    (hsl : ∀ a b, B (.slice a b) = BA a + BA b + 1) (hag : ∀ a, B (.agg a) = BA a + 1) {t : TypeId} {d : DataW H} {a : AV} (h : RdD P t d a) : avB a + 1 ≤ B d := by
  induction h with
  | bool => simpa [avB] using h1 _
  | int => simpa [avB] using h1 _
  | str => simp [avB, hs]
  | nils => simpa [avB, avS] using h1 _
  | sl ht hl hm h ih =>
    have := bulk_all (P := P) (B := B) hn hc hl ih
    rw [hsl]; simp only [avB]; omega
  | st ht hd hx h ih =>
    have := bulk_all (P := P) (B := B) hn hc (by omega) (fun i a b => ih i a b (by omega))
    rw [hag]; simp only [avB]
    rename_i t fs ds xs
    have k1 := avC_flat xs
    have k2 := avC_le_avS xs
    omega
end Go.Ab
end
section
set_option linter.unusedVariables false
set_option linter.unusedSimpArgs false
set_option maxRecDepth 20000
set_option maxHeartbeats 1000000
namespace Go.Proofs.YtnfalbdnkgaelaaDoor
open Go Go.Ab
theorem text_avB {x : List (List UInt8)} : ∀ s ∈ x, s.length ≤ avS (texts x) := fun s hs => by
  have : avB (.str s) + 1 ≤ avS (texts x) := avS_mem (by simp [texts, hs])
  simp only [avB] at this; omega
theorem len_avS : ∀ (xs : List AV), xs.length ≤ avS xs
  | [] => Nat.zero_le _
  | x :: r => by have := len_avS r; simp only [avS, List.length_cons]; omega
theorem tg_of {l : List Tg} {k : Nat} (h : avB (.sl true false 5 (tgs true l)) ≤ k) : l.length ≤ k ∧ ∀ t ∈ l, t.name.length ≤ k ∧ t.needs.length ≤ k ∧ t.outs.length ≤ k ∧ t.srcs.length ≤ k ∧ t.cmd.length ≤ k ∧ (∀ s ∈ t.srcs, s.length ≤ k) ∧ (∀ s ∈ t.outs, s.length ≤ k) := by
  have h : avS (tgs true l) ≤ k := h
  refine ⟨by have := len_avS (tgs true l); rw [tgs_len] at this; omega, fun t ht => ?_⟩
  have h1 : avB (tgA true t) + 1 ≤ avS (tgs true l) := avS_mem (List.mem_map_of_mem ht)
  have h2 : avB (AV.agg [.str t.name, .sl true false 1 (texts t.srcs), .sl true false 1 (texts t.needs), .sl true false 1 (texts t.outs), .sl true false 1 (texts t.cmd)]) + 1 ≤ avS (tgs true l) := h1
  simp only [avB, avC] at h2
  have e1 := len_avS (texts t.srcs)
  have e2 := len_avS (texts t.needs)
  have e3 := len_avS (texts t.outs)
  have e4 := len_avS (texts t.cmd)
  rw [texts_len] at e1 e2 e3 e4
  refine ⟨by omega, by omega, by omega, by omega, by omega, fun s hs => ?_, fun s hs => ?_⟩
  · have := text_avB s hs; omega
  · have := text_avB s hs; omega
theorem tgSz_of {l : List Tg} (h : avB (.sl true false 5 (tgs true l)) ≤ 1048576) : l.length ≤ 1000000000 ∧ TgSz l := by
  obtain ⟨h1, h2⟩ := tg_of h
  exact ⟨by omega, fun t ht => by have := (h2 t ht).1; omega, fun t ht => (h2 t ht).2.1⟩
theorem ord_full {l : List Tg} (hok : NmOk l) (P : Nat → Bool) (hcl : ∀ n ∈ smG l P l.length, ∀ k ∈ ndT l n, k ∈ smG l P l.length) : (ordG (ndT l) (smG l P l.length) (smG l P l.length).length []).length = (smG l P l.length).length ↔ hcG l P = false := by
  obtain ⟨g1, g2, g3⟩ := ord_good (needs := ndT l) (sm := smG l P l.length) (smG l P l.length).length [] .nil (fun n hn => by cases hn) (by simp)
  have h1 := ord_all hcl
  have h2 : (∀ c ∈ smG l P l.length, ¬ Way (NeedR (ndT l)) c c) ↔ hcG l P = false := by
    rw [hcG, List.any_eq_false]
    constructor
    · intro h i hi hh
      obtain ⟨p1, p2⟩ := Bool.and_eq_true_iff.1 hh
      have hi := List.mem_range.1 hi
      exact h (nmAt l i) (smG_mem.2 ⟨i, hi, p1, rfl⟩) ((rch_nm hok hi hi).1 p2)
    · intro h c hc hw
      obtain ⟨i, hi, p1, rfl⟩ := smG_mem.1 hc
      exact h i (List.mem_range.2 hi) (by rw [p1, (rch_nm hok hi hi).2 hw]; rfl)
  rw [← h2, ← h1]
  generalize ordG (ndT l) (smG l P l.length) (smG l P l.length).length [] = od at *
  constructor
  · intro hlen n hn
    refine Classical.byContradiction fun hno => ?_
    have := List.Nodup.length_le_of_subset (List.nodup_cons.2 ⟨hno, g1.nodup⟩) (l₂ := smG l P l.length) (fun x hx => by
      rcases List.mem_cons.1 hx with rfl | hx
      · exact hn
      · exact g2 x hx)
    rw [List.length_cons] at this; omega
  · intro hall
    have h3 := List.Nodup.length_le_of_subset g1.nodup (l₂ := smG l P l.length) g2
    have h4 := List.Nodup.length_le_of_subset (smG_nodup hok.nd P) (l₂ := od) hall
    omega
theorem sm_all (l : List Tg) : smG l (fun _ => true) l.length = nmsG l := by
  unfold smG
  rw [List.filter_eq_self.2 (fun _ _ => rfl)]
  refine List.ext_getElem (by simp [nms_len]) fun i h1 h2 => ?_
  have hi : i < l.length := by simpa using h1
  rw [List.getElem_map, List.getElem_range, nmAt_get hi, nms_get hi]
theorem oE_is {l : List Tg} (h : nmE l = 0) : oE l = if hcG l (fun _ => true) = true then 10 else 0 := by
  have hok := nmE_ok.1 h
  have := ord_full hok (fun _ => true) (by rw [sm_all]; exact hok.ndT)
  rw [sm_all] at this
  unfold oE ordL
  rw [if_pos h]
  rw [nms_len] at this
  cases hc : hcG l (fun _ => true) with
  | true =>
    rw [hc] at this
    rw [nms_len, if_neg (fun e => by cases this.1 e), if_pos rfl]
  | false =>
    rw [nms_len, if_pos (this.2 hc), if_neg (by simp)]
theorem begun_ok {σ : Heap} : ∃ args', Calc cx 17 args' (.bool true) ∧ Frzs σ [] args' := ⟨[], graphBegun_ok, .nil _⟩
end Go.Proofs.YtnfalbdnkgaelaaDoor
end
section
set_option linter.unusedVariables false
set_option linter.unusedSimpArgs false
set_option maxRecDepth 20000
set_option maxHeartbeats 1000000
namespace Go.Proofs.YtnfalbdnkgaelaaDoor
open Go Go.Ab
theorem Good.need {nd : Nm → List Nm} {c : List Nm} (h : Good nd c) : ∀ i (hi : i < c.length), ∀ k ∈ nd c[i], k ∈ c.take i := by
  induction h with
  | nil => intro i hi; cases hi
  | @snoc p b h hb hn ih =>
    intro i hi k hk
    rw [List.length_append] at hi
    by_cases h1 : i < p.length
    · rw [List.getElem_append_left h1] at hk
      rw [List.take_append_of_le_length (Nat.le_of_lt h1)]
      exact ih i h1 k hk
    · have hi : i < p.length + 1 := hi
      have e : i = p.length := by omega
      subst e
      rw [List.getElem_append_right (Nat.le_refl _)] at hk
      simp only [Nat.sub_self, List.getElem_cons_zero] at hk
      rw [List.take_append_of_le_length (Nat.le_refl _), List.take_length]
      exact hn k hk
theorem Good.pre {nd : Nm → List Nm} {c : List Nm} (h : Good nd c) : ∀ i, Good nd (c.take i) := by
  induction h with
  | nil => intro i; rw [List.take_nil]; exact .nil
  | @snoc p b h hb hn ih =>
    intro i
    by_cases h1 : i ≤ p.length
    · rw [List.take_append_of_le_length h1]; exact ih i
    · rw [List.take_of_length_le (by rw [List.length_append]; show p.length + 1 ≤ i; omega)]
      exact .snoc h hb hn
section
variable {l : List Tg} {a : Nm} (h0 : cE l a = 0)
include h0
end
end Go.Proofs.YtnfalbdnkgaelaaDoor
end
section
set_option linter.unusedVariables false
set_option linter.unusedSimpArgs false
set_option maxRecDepth 20000
set_option maxHeartbeats 4000000
namespace Go.Proofs.YtnfalbdnkgaelaaDoor
open Go Go.Ab
def atF (l : List Fil) (p : List UInt8) : Int := match l.findIdx? (fun f => f.path == p) with
  | some i => (i : Nat)
  | none => -1
theorem atF_at {l : List Fil} {p : List UInt8} {i : Nat} (hi : i < l.length) (h : (l[i].path == p) = true) (hn : ∀ j (hj : j < l.length), j < i → (l[j].path == p) = false) : atF l p = (i : Nat) := by
  have : l.findIdx? (fun f => f.path == p) = some i := by
    rw [List.findIdx?_eq_some_iff_getElem]
    exact ⟨hi, h, fun j hj => by simp [hn j (by omega) hj]⟩
  unfold atF; rw [this]
theorem atF_no {l : List Fil} {p : List UInt8} (hn : ∀ j (hj : j < l.length), (l[j].path == p) = false) : atF l p = -1 := by
  have : l.findIdx? (fun f => f.path == p) = none := by
    rw [List.findIdx?_eq_none_iff]
    intro f hf
    obtain ⟨j, hj, rfl⟩ := List.getElem_of_mem hf
    exact hn j hj
  unfold atF; rw [this]
theorem atF_cases (l : List Fil) (p : List UInt8) : (atF l p = -1 ∧ ∀ f ∈ l, f.path ≠ p) ∨ ∃ i, ∃ h : i < l.length, atF l p = (i : Nat) ∧ l[i].path = p := by
  unfold atF
  cases hq : l.findIdx? (fun f => f.path == p) with
  | none =>
    rw [List.findIdx?_eq_none_iff] at hq
    exact .inl ⟨rfl, fun f hf e => by have := hq f hf; simp [e] at this⟩
  | some i =>
    rw [List.findIdx?_eq_some_iff_getElem] at hq
    obtain ⟨h1, h2, _⟩ := hq
    exact .inr ⟨i, h1, rfl, by simpa using h2⟩
theorem FileAt_ok {st fl : Bool} (l : List Fil) (p : List UInt8) (hl : l.length ≤ 1000000000) : Calc cx 51 [.sl st fl 3 (fils l), .str p] (.int .i64 (atF l p)) :=
  pure_intro (fun a w => Tryd.call51 a w) Tryd.func51 rfl Tryd.ntmps51 rfl .int fun B => by
    have hll := fils_len l
    refine pB [] rfl ?_
    refine S_while (α := Nat) (fun i => [(0, .sl st fl 3 (fils l)), (1, .str p), (5, .int .i64 (i : Nat))]) (fun _ => []) (fun i => i ≤ l.length ∧ ∀ j (hj : j < l.length), j < i → (l[j].path == p) = false) (fun i => l.length - i) 0
      ⟨Nat.zero_le _, fun j hj h => absurd h (Nat.not_lt_zero _)⟩ (.cons rfl (.cons rfl (.cons rfl (.nil _)))) rfl ?_
    rintro i ⟨hi, hn⟩
    have hi : i ≤ l.length := hi
    by_cases hlt : i < l.length
    · have e1 : decide ((i : Int) < (((fils l).length : Nat) : Int)) = true := decide_eq_true (by omega)
      have g1 : (fils l)[(i : Int).toNat]? = some (filA l[i]) := fils_get hlt
      cases h : l[i].path == p with
      | true =>
        rw [atF_at hlt h hn]
        refine pB [.b true, .v (filA l[i]), .b true] rfl ?_
        exact S_retc .int rfl trivial rfl
      | false =>
        refine pB [.b true, .v (filA l[i]), .b false] rfl ?_
        exact S_round (i + 1) (by show l.length - (i + 1) < l.length - i; omega) ⟨hlt, fun j hj h' => by
          by_cases hji : j < i
          · exact hn j hj hji
          · have : j = i := by omega
            subst this; exact h⟩ (.cons rfl (.cons rfl (.cons (nX (by omega)) (.nil _)))) rfl
    · have hil : i = l.length := by omega
      subst hil
      have e1 : decide ((l.length : Int) < (((fils l).length : Nat) : Int)) = false := decide_eq_false (by omega)
      rw [atF_no (fun j hj => hn j hj hj)]
      refine pB [.b false] rfl ?_
      exact S_retc .int rfl trivial rfl
end Go.Proofs.YtnfalbdnkgaelaaDoor
end
section
set_option linter.unusedVariables false
set_option linter.unusedSimpArgs false
namespace Go.Ab
open Go
section
variable {cx : Cx} {n : Nat} {B : Bs} {k : List AI} {Q : Post} {fr : Fr} {σ : Heap}
theorem S_doB {all : Array Oper} {o : Oper} {l : List Oper} {K : List Nat} (I : Bool → Prop) (hg : guardA all o K fr = some true) (hd : dstOk n o.dst = true)
    (h : ∀ r a w, Inv cx r σ w → FRel r w n fr a → ∃ b, I b ∧ OpRes cx r σ w ((execOp a.eval o).run cx.P w) (.bool b) σ) (hk : ∀ b, I b → S cx n B (.ops all l K :: k) Q (setA o.dst (.bool b) fr) σ) : S cx n B (.ops all (o :: l) K :: k) Q fr σ := by
  intro r a w hi hf hdf hx
  have hw := guardA_wanted (cx := cx) hf hg
  obtain ⟨b, hI, r', w', v', hrun, hv, hi', hx'⟩ := h r a w hi hf
  unfold wpList
  rw [if_pos hw]
  refine .inl ?_
  unfold Oper.wp
  have hf' : FRel r' w' n (setA o.dst (.bool b) fr) (a.put o.dst v') := (hf.mono (hx'.grow hi)).setA hd hv
  have hgo := hk b hI r' (a.put o.dst v') w' hi' hf' (hdf.put _ _) (hx.trans hx')
  rcases hrun with hrun | ⟨hrun, hu⟩
  · rw [hrun]; exact hgo
  · rw [hrun]; subst hu; exact hgo
def nilB (neg : Bool) (xs : List AV) (b : Bool) : Prop := xs ≠ [] → b = neg
theorem nil_run {o : Oper} {t e t' : TypeId} {x y : Operand} {st fl neg : Bool} {sz : Nat} {xs : List AV} (ho : o.op = .binOp (if neg then .neq else .eql) t x y t') (hu : cx.P.underlying t = some (.slice e)) (hx : ev cx fr x = .sl st fl sz xs) (hy : ev cx fr y = .nils)
    (r : Rl) (ac : Act) (w : World) (hi : Inv cx r σ w) (hf : FRel r w n fr ac) : ∃ b, nilB neg xs b ∧ OpRes cx r σ w ((execOp ac.eval o).run cx.P w) (.bool b) σ := by
  have h1 := ev_rel hi hf x
  have h2 := ev_rel hi hf y
  rw [hx] at h1
  rw [hy] at h2
  obtain ⟨dst, op, ty, pos, after, guard⟩ := o
  simp only at ho
  subst ho
  have fin : ∀ (u v : Value) (b : Bool), (eqGuard (if neg then .neq else .eql) t x y u v = pure ()) → (binOp (if neg then .neq else .eql) t u v = (do pure (.bool ((← Op.equal t u v) != neg)))) → (∀ d, (Op.equalIn (d + 1) t u v).run cx.P w = .ok b w) → (do eqGuard (if neg then .neq else .eql) t x y u v; binOp (if neg then .neq else .eql) t u v : Sem Value).run cx.P w = .ok (.bool (b != neg)) w := by
    intro u v b q1 q2 q3
    have q4 : (Op.equal t u v).run cx.P w = .ok b w := q3 9999
    rw [q1, q2]
    simp only [Sem.run_bind, Sem.run_pure, Result.andThen_ok, q4]
  have bo : ∀ p nn cc, binOp (if neg then .neq else .eql) t (.slice p nn cc) (.slice none 0 0) = (do pure (.bool ((← Op.equal t (.slice p nn cc) (.slice none 0 0)) != neg)) : Sem Value) := by
    intro p nn cc
    cases neg
    · show (do pure (.bool (← Op.equal t _ _)) : Sem Value) = _
      congr 1; funext b; cases b <;> rfl
    · show (do pure (.bool !(← Op.equal t _ _)) : Sem Value) = _
      congr 1; funext b; cases b <;> rfl
  have key : ∀ (u v : Value), VRel r w u (.sl st fl sz xs) → VRel r w v .nils → ∃ b, nilB neg xs b ∧ (do eqGuard (if neg then .neq else .eql) t x y u v; binOp (if neg then .neq else .eql) t u v : Sem Value).run cx.P w = .ok (.bool b) w := by
    intro u v hu' hv'
    cases hv'
    have eg : ∀ p nn cc, eqGuard (if neg then .neq else .eql) t x y (.slice p nn cc) (.slice none 0 0) = pure () := by
      intro p nn cc
      cases neg <;> rfl
    cases hu' with
    | sl0 hff =>
      rename_i a cap
      cases a with
      | none => exact ⟨_, (fun h => absurd rfl h), fin _ _ true (eg ..) (bo ..) fun d => by simp [Op.equalIn, run_underlying hu]⟩
      | some p => exact ⟨_, (fun h => absurd rfl h), fin _ _ false (eg ..) (bo ..) fun d => by simp [Op.equalIn, run_underlying hu]⟩
    | sl hn hc0 hff hI hS hsz f hc hv =>
      refine ⟨_, ?_, fin _ _ false (eg ..) (bo ..) fun d => by simp [Op.equalIn, run_underlying hu]⟩
      intro _
      cases neg <;> rfl
  obtain ⟨b, hb, hrun⟩ := key _ _ h1 h2
  refine ⟨b, hb, r, w, .bool b, .inl ?_, .bool, hi, Ext.refl _ _ _⟩
  simp only [execOp]
  exact exec_v hrun
theorem S_nilQ {all : Array Oper} {o : Oper} {l : List Oper} {K : List Nat} {t e t' : TypeId} {x y : Operand} {st fl : Bool} {sz : Nat} {xs : List AV} (neg : Bool) (ho : o.op = .binOp (if neg then .neq else .eql) t x y t') (hu : cx.P.underlying t = some (.slice e)) (hx : ev cx fr x = .sl st fl sz xs) (hy : ev cx fr y = .nils)
    (hg : guardA all o K fr = some true) (hd : dstOk n o.dst = true) (hk : ∀ b, (xs ≠ [] → b = neg) → S cx n B (.ops all l K :: k) Q (setA o.dst (.bool b) fr) σ) : S cx n B (.ops all (o :: l) K :: k) Q fr σ :=
  S_doB (nilB neg xs) hg hd (nil_run ho hu hx hy) hk
end
theorem CallOk.frameR {ι : Type} {cx : Cx} {f : FuncId} {args args' : List AV} {σ σs : Heap} {I : ι → Prop} {x x' : ι → AV} {σs' es : ι → Heap} (ids : List Nat) (h : CallOk cx f args σs (fun e s => ∃ p, I p ∧ e = .ret (x p) ∧ s = σs' p)) (ha : Rns ids args args') (hp : Part ids σs σ)
    (hes : ∀ p, I p → RnH (ids ++ newIds σ.length ((es p).length - ids.length)) (σs' p) (es p)) (hx : ∀ p, I p → Rn (ids ++ newIds σ.length ((es p).length - ids.length)) (x p) (x' p)) : CallOk cx f args' σ (fun e s => ∃ p, I p ∧ e = .ret (x' p) ∧ s = putAll σ ids (es p)) := by
  refine ⟨h.1, fun r w vs hi hv => ?_⟩
  have hsub := frame_down hi hp
  have hvs : VRels (r.sub ids) w vs args := by
    refine ⟨hv.1.trans ha.1.symm, fun i hi' => ?_⟩
    refine (ha.2 i hi' (by rw [← ha.1]; exact hi')).down (r := r) (r' := r.sub ids) (fun _ h => h) (fun _ h => h) hi.SI (fun i j ver p h1 h2 => ?_) (hv.2 i (by rw [← ha.1]; exact hi'))
    simp only [Rl.sub, h1]; exact h2
  refine (h.2 _ w vs hsub hvs).mono fun e w' ⟨out, σ1, r1, hRo, ho, hi1, hx1⟩ => ?_
  obtain ⟨p, hI, rfl, rfl⟩ := hRo
  obtain ⟨q1, q2, q3⟩ := frame_up hi hp hi1 hx1 rfl (hes p hI)
  cases e with
  | returned u => exact ⟨.ret (x' p), _, _, ⟨p, hI, rfl, rfl⟩, q3 _ _ _ (hx p hI) ho, q1, q2⟩
  | panicked chain => exact ho.elim
  | outgrown => exact ho.elim
end Go.Ab
end
section
set_option linter.unusedVariables false
set_option linter.unusedSimpArgs false
set_option maxRecDepth 20000
set_option maxHeartbeats 4000000
namespace Go.Proofs.YtnfalbdnkgaelaaDoor
open Go Go.Ab
theorem avS_fils (l : List Fil) : l.length ≤ avS (fils l) ∧ ∀ f ∈ l, f.path.length + f.text.length ≤ avS (fils l) := by
  induction l with
  | nil => exact ⟨Nat.zero_le _, fun f hf => by cases hf⟩
  | cons g r ih =>
    have e : avS (fils (g :: r)) = (g.path.length + (g.text.length + (0 + 0))) + 1 + avS (fils r) := by
      show avS (filA g :: fils r) = _
      simp only [avS, filA, avB, avC]
    rw [e]
    refine ⟨by rw [List.length_cons]; omega, fun f hf => ?_⟩
    rcases List.mem_cons.1 hf with rfl | hf
    · omega
    · have := ih.2 f hf; omega
theorem fils_of {l : List Fil} (hk : avB (.sl true false 3 (fils l)) ≤ 1048576) : FilsOk l := by
  have h : avS (fils l) ≤ 1048576 := by simpa only [avB] using hk
  have := avS_fils l
  exact ⟨by omega, fun f hf => by have := this.2 f hf; omega, fun f hf => by have := this.2 f hf; omega⟩
theorem meet_comm (a b : List UInt8) : meetT a b = meetT b a := by
  unfold meetT
  rw [Bool.or_assoc, Bool.or_assoc, Bool.or_comm (insT a b)]
  congr 1
  rw [Bool.eq_iff_iff]; simp only [beq_iff_eq]
  exact ⟨Eq.symm, Eq.symm⟩
end Go.Proofs.YtnfalbdnkgaelaaDoor
end
section
set_option linter.unusedVariables false
set_option linter.unusedSimpArgs false
set_option maxRecDepth 20000
set_option maxHeartbeats 1000000
namespace Go.Proofs.YtnfalbdnkgaelaaDoor
open Go Go.Ab
theorem txFz {st : Bool} {σ : Heap} {id ver : Nat} {xs : List Nm} {g : Tag} (h : boxAt σ id = some (ver, texts xs, g)) : Frz st σ (.ms id ver 0 xs.length 1 false) (.sl st false 1 (texts xs)) := by
  have hf : (texts xs).flatMap AV.cells = texts xs := ones_flat (texts_one _)
  refine .ms h (by rw [texts_len]; omega) ?_ (fun x hx => by obtain ⟨t, _, rfl⟩ := List.mem_map.1 hx; rfl) (texts_len _) (texts_any _)
  rw [hf, List.drop_zero]
  exact List.take_of_length_le (by rw [texts_len]; omega)
theorem Clone_ok (st fl : Bool) (xs : List Nm) (hl : xs.length ≤ 1000000000) : Calc cx 44 [.sl st fl 1 (texts xs)] (.sl true false 1 (texts xs)) :=
  pure_intro (fun a w => Tryd.call44 a w) Tryd.func44 rfl Tryd.ntmps44 rfl (.sl (fun _ => rfl) (texts_any xs)) fun B => by
    have hfa : flatA 1 (texts xs) = texts xs := rfl
    have htl := texts_len xs
    refine pB [] rfl ?_
    refine S_nilQ false rfl Tryd.underlying23 rfl rfl rfl rfl fun b hb => ?_
    cases b with
    | true =>
      have : xs = [] := by
        cases xs with
        | nil => rfl
        | cons a r => exact absurd (hb (by simp [texts])) (by simp)
      subst this
      refine pB [.b true] rfl ?_
      exact S_ret ⟨_, _, rfl, trivial, _, rfl, .nils⟩
    | false =>
      refine pa [.b false] rfl ?_ ?_
      · (repeat' with_reducible apply AllP_cons) <;> try exact aC
        · exact texts_one xs
        · exact texts_one xs
        · exact .inr rfl
        · show ((0 : Nat) + (texts xs).length) * 16 ≤ 140737488355328
          omega
      refine S_ret ⟨_, _, rfl, trivial, _, rfl, ?_⟩
      have e : (0 : Nat) + (texts xs).length = xs.length := by omega
      show Frz true [(0, some (.cells (texts xs) _))] (.ms 0 0 0 (0 + (texts xs).length) 1 false) _
      rw [e]
      exact txFz rfl
def outF : List Nm → List Nm → Bool
  | _, [] => false
  | tk, o :: r => tk.any (fun q => meetT q o) || outF (tk ++ [o]) r
def ftG (P tk : List Nm) (t : Tg) : Nat :=
  if (t.srcs.all fun s => decide (s ∈ P)) = false then 5 else if t.outs.all isPathB = false then 1
  else if 60 < t.srcs.length ∨ 60 < t.outs.length ∨ 60 < t.cmd.length then 2 else if outF tk t.outs = true then 6 else 0
def ckG (P : List Nm) : List Nm → List Tg → Nm × Nat
  | _, [] => ([], 0)
  | tk, t :: r => if ftG P tk t ≠ 0 then (t.name, ftG P tk t) else ckG P (tk ++ t.outs) r
theorem ft_src {P tk : List Nm} {t : Tg} {k : Nat} (hk : k < t.srcs.length) (h : t.srcs[k] ∉ P) : ftG P tk t = 5 := by
  unfold ftG
  rw [if_pos]
  exact Bool.eq_false_iff.2 fun e => h (of_decide_eq_true (List.all_eq_true.1 e _ (List.getElem_mem hk)))
theorem ft_path {P tk : List Nm} {t : Tg} (h0 : ∀ s ∈ t.srcs, s ∈ P) (h : t.outs.all isPathB = false) : ftG P tk t = 1 := by
  unfold ftG
  rw [if_neg, if_pos h]
  rw [List.all_eq_true.2 fun s hs => decide_eq_true (h0 s hs)]; simp
theorem ft_many {P tk : List Nm} {t : Tg} (h0 : ∀ s ∈ t.srcs, s ∈ P) (h1 : t.outs.all isPathB = true) (h : 60 < t.srcs.length ∨ 60 < t.outs.length ∨ 60 < t.cmd.length) : ftG P tk t = 2 := by
  unfold ftG
  rw [if_neg, if_neg (by rw [h1]; simp), if_pos h]
  rw [List.all_eq_true.2 fun s hs => decide_eq_true (h0 s hs)]; simp
theorem ft_out {P tk : List Nm} {t : Tg} (h0 : ∀ s ∈ t.srcs, s ∈ P) (h1 : t.outs.all isPathB = true) (h : ¬ (60 < t.srcs.length ∨ 60 < t.outs.length ∨ 60 < t.cmd.length)) : ftG P tk t = if outF tk t.outs = true then 6 else 0 := by
  unfold ftG
  rw [if_neg, if_neg (by rw [h1]; simp), if_neg h]
  rw [List.all_eq_true.2 fun s hs => decide_eq_true (h0 s hs)]; simp
theorem out_next {tk : List Nm} {os : List Nm} {k : Nat} (hk : k < os.length) : outF (tk ++ os.take k) (os.drop k) = ((tk ++ os.take k).any (fun q => meetT q os[k]) || outF (tk ++ os.take (k + 1)) (os.drop (k + 1))) := by
  rw [List.drop_eq_getElem_cons hk, outF, List.take_succ_eq_append_getElem hk, List.append_assoc]
theorem ck_next {P tk : List Nm} {l : List Tg} {i : Nat} (hi : i < l.length) : ckG P tk (l.drop i) = if ftG P tk l[i] ≠ 0 then (l[i].name, ftG P tk l[i]) else ckG P (tk ++ l[i].outs) (l.drop (i + 1)) := by
  rw [List.drop_eq_getElem_cons hi, ckG]
def tkG (P : List Nm) (l : List Tg) (i : Nat) : List Nm := P ++ (l.take i).flatMap Tg.outs
theorem tk_next {P : List Nm} {l : List Tg} {i : Nat} (hi : i < l.length) : tkG P l (i + 1) = tkG P l i ++ l[i].outs := by
  unfold tkG
  rw [List.take_succ_eq_append_getElem hi, List.flatMap_append, List.append_assoc]
  simp
def chE (fs : List Fil) (l : List Tg) : Nm × Nat :=
  if chkT fs ≠ 0 then ([], chkT fs) else if nmE l ≠ 0 then ([], nmE l)
  else if (ckG (fs.map Fil.path) (fs.map Fil.path) l).2 ≠ 0 then ckG (fs.map Fil.path) (fs.map Fil.path) l else ([], oE l)
end Go.Proofs.YtnfalbdnkgaelaaDoor
end
section
set_option linter.unusedVariables false
set_option linter.unusedSimpArgs false
set_option maxRecDepth 20000
set_option maxHeartbeats 1000000
namespace Go.Proofs.YtnfalbdnkgaelaaDoor
open Go Go.Ab
structure TgZ (l : List Tg) : Prop where
  sz : ∀ t ∈ l, t.outs.length ≤ 1048576 ∧ t.srcs.length ≤ 1048576 ∧ t.cmd.length ≤ 1048576 ∧ (∀ s ∈ t.srcs, s.length ≤ 1048576) ∧ ∀ s ∈ t.outs, s.length ≤ 1048576
def tgBx (st : Bool) (v : Nat) (t : Tg) : Nat × Option Box := (v, some (.cells [.str t.name, lsA st t.srcs, lsA st t.needs, lsA st t.outs, lsA st t.cmd] ⟨false, some 44⟩))
theorem CheckGraph_ok (st st' fl st2 fl2 : Bool) (l : List Tg) (fs : List Fil) (hl : l.length ≤ 1000000000) (hz : TgSz l) (hy : TgZ l) (hf : FilsOk fs) :
    Calc cx 30 [.sl st' fl 5 (tgs st l), .sl st2 fl2 3 (fils fs)] (.tup [.str (chE fs l).1, .int .i64 ((chE fs l).2 : Nat)]) :=
  pure_intro (fun a w => Tryd.call30 a w) Tryd.func30 rfl Tryd.ntmps30 rfl (.tup (fun a ha => by rcases List.mem_cons.1 ha with rfl | ha; exact .str; rw [List.mem_singleton.1 ha]; exact .int)) fun B => by
    have hC := CheckTree_ok (st := st2) (fl := fl2) fs hf
    have hN := CheckNames_ok st st' fl l hl hz
    have hff : ∀ σ : Heap, Frz false σ (.sl st2 fl2 3 (fils fs)) (.sl st2 fl2 3 (fils fs)) := fun σ => .refl (.sl (fun h => by cases h) (fils_free fs))
    have hrt : ∀ {n : Nm} {e : Nat}, Free true (.tup [.str n, .int .i64 (e : Nat)]) := fun {n e} => .tup (fun a ha => by rcases List.mem_cons.1 ha with rfl | ha; exact .str; rw [List.mem_singleton.1 ha]; exact .int)
    by_cases h0 : chkT fs = 0
    case neg =>
      have hne := i64_ne h0
      have he : chE fs l = ([], chkT fs) := by unfold chE; rw [if_pos h0]
      have hne2 : (((chkT fs : Nat) : Int) == 0) = false := by simpa using h0
      rw [he]
      refine pa [.v (.int .i64 (chkT fs : Nat)), .b false, .b true] rfl ?_ ?_
      · (repeat' with_reducible apply AllP_cons) <;> try exact aC
        · exact ⟨_, hC, .cons (hff _) (.nil _)⟩
      exact S_ret ⟨_, _, rfl, trivial, _, rfl, .refl hrt⟩
    rw [h0] at hC
    by_cases h1 : nmE l = 0
    case neg =>
      have hne := i64_ne h1
      have he : chE fs l = ([], nmE l) := by unfold chE; rw [if_neg (by simpa using h0), if_pos h1]
      rw [he]
      refine pa [.v (.int .i64 0), .b true, .v (.int .i64 (nmE l : Nat)), .b true] rfl ?_ ?_
      · (repeat' with_reducible apply AllP_cons) <;> try exact aC
        · exact ⟨_, hC, .cons (hff _) (.nil _)⟩
        · exact ⟨_, hN, .cons (tgs_arg ..) (.nil _)⟩
      exact S_ret ⟨_, _, rfl, trivial, _, rfl, .refl hrt⟩
    rw [h1] at hN
    have hok := nmE_ok.1 h1
    have hl60 := hok.len
    have hll := tgs_len st l
    have hfl := fils_len fs
    have hlen := hf.len
    obtain ⟨P, hP⟩ : ∃ P, P = fs.map Fil.path := ⟨_, rfl⟩
    have hce : ∀ {x : Nm × Nat}, x.2 ≠ 0 → ckG P P l = x → chE fs l = x := fun {x} hx e => by
      unfold chE
      rw [if_neg (by simpa using h0), if_neg (by simpa using h1), ← hP, e, if_pos hx]
    have hce0 : (ckG P P l).2 = 0 → chE fs l = ([], oE l) := fun e => by
      unfold chE
      rw [if_neg (by simpa using h0), if_neg (by simpa using h1), ← hP, e, if_neg (by simp)]
    have hil : ∀ (i : Nat), i < l.length → decide ((i : Int) < (((tgs st l).length : Nat) : Int)) = true := fun i h => decide_eq_true (by omega)
    have hget : ∀ (i : Nat) (h : i < l.length), (tgs st l)[(i : Int).toNat]? = some (tgA st l[i]) := fun i h => by rw [Int.toNat_natCast]; exact tgs_get h
    refine pa [.v (.int .i64 0), .b true, .v (.int .i64 0), .b false] rfl ?_ ?_
    · (repeat' with_reducible apply AllP_cons) <;> try exact aC
      · exact ⟨_, hC, .cons (hff _) (.nil _)⟩
      · exact ⟨_, hN, .cons (tgs_arg ..) (.nil _)⟩
    refine S_dead ?_ ⟨_, _, .inl rfl⟩
    refine S_while (α := Nat × Nat) (fun s => [(0, .sl st' fl 5 (tgs st l)), (1, .sl st2 fl2 3 (fils fs)), (7, .int .i64 (s.1 : Nat))]) (fun s => [(s.2, none)]) (fun s => s.1 ≤ l.length ∧ ckG P P l = ckG P (tkG P l s.1) (l.drop s.1)) (fun s => l.length - s.1) (0, 0) ⟨Nat.zero_le _, by simp [tkG]⟩ (.cons rfl (.cons rfl (.cons rfl (.nil _)))) rfl ?_
    rintro ⟨i, v⟩ ⟨hi, hck⟩
    simp only at hi hck
    by_cases hlt : i < l.length
    · have c1 := hil i hlt
      have c2 := hget i hlt
      rw [ck_next hlt] at hck
      obtain ⟨z1, z2, z3, z4, z5⟩ := hy.sz _ (List.getElem_mem hlt)
      have hn := hz.nm _ (List.getElem_mem hlt)
      have htn := tk_next (P := P) hlt
      obtain ⟨tk, htk⟩ : ∃ tk, tk = tkG P l i := ⟨_, rfl⟩
      rw [← htk] at hck
      have hli : ∀ h, l[i]'h = l[i] := fun _ => rfl
      obtain ⟨t, ht⟩ : ∃ t, t = l[i] := ⟨_, rfl⟩
      rw [← ht] at hck z1 z2 z3 z4 z5 hn htn c2
      have ls1 := texts_len t.srcs
      have ls2 := texts_len t.outs
      have ls3 := texts_len t.cmd
      have hfault : ∀ {e : Nat}, ftG P tk t = e → e ≠ 0 → chE fs l = (t.name, e) := fun {e} h h' => hce (x := (t.name, e)) h' (by rw [hck, h, if_pos h'])
      refine pB [.b true, .v (tgA st t)] rfl ?_
      refine S_while (α := Nat) (fun k => [(0, .sl st' fl 5 (tgs st l)), (1, .sl st2 fl2 3 (fils fs)), (7, .int .i64 (i : Nat)), (8, .ptr 0 (v + 1) 0), (9, .int .i64 (k : Nat))]) (fun k => [tgBx st (v + 1) t]) (fun k => k ≤ t.srcs.length ∧ ∀ s ∈ t.srcs.take k, s ∈ P) (fun k => t.srcs.length - k) 0 ⟨Nat.zero_le _, fun s hs => by cases hs⟩ (.cons rfl (.cons rfl (.cons rfl (.cons rfl (.cons rfl (.nil _)))))) rfl ?_
      rintro k ⟨hk, hsk⟩
      by_cases hkl : k < t.srcs.length
      · have d1 : decide ((k : Int) < (((texts t.srcs).length : Nat) : Int)) = true := decide_eq_true (by omega)
        have d2 : (texts t.srcs)[(k : Int).toNat]? = some (.str t.srcs[k]) := by rw [Int.toNat_natCast]; exact texts_get hkl
        have hFA := FileAt_ok (st := st2) (fl := fl2) fs t.srcs[k] (by omega)
        rcases atF_cases fs t.srcs[k] with ⟨e1, e2⟩ | ⟨q, hq, e1, e2⟩
        · have hnP : t.srcs[k] ∉ P := fun h => by
            rw [hP] at h
            obtain ⟨f, hf1, hf2⟩ := List.mem_map.1 h
            exact e2 f hf1 hf2
          rw [e1] at hFA
          rw [hfault (ft_src hkl hnP) (by decide)]
          refine pa [.b true, .v (.str t.srcs[k]), .v (.int .i64 (-1)), .b true] rfl ?_ ?_
          · (repeat' with_reducible apply AllP_cons) <;> try exact aC
            · exact ⟨_, hFA, .cons (hff _) (.cons (.refl .str) (.nil _))⟩
          exact S_ret ⟨_, _, rfl, trivial, _, rfl, .refl hrt⟩
        · have hmP : t.srcs[k] ∈ P := by rw [hP]; exact List.mem_map.2 ⟨_, List.getElem_mem hq, e2⟩
          rw [e1] at hFA
          have d3 : decide ((q : Int) < 0) = false := decide_eq_false (by omega)
          refine pa [.b true, .v (.str t.srcs[k]), .v (.int .i64 (q : Nat)), .b false] rfl ?_ ?_
          · (repeat' with_reducible apply AllP_cons) <;> try exact aC
            · exact ⟨_, hFA, .cons (hff _) (.cons (.refl .str) (.nil _))⟩
          refine S_round (k + 1) (by show t.srcs.length - (k + 1) < t.srcs.length - k; omega) ⟨hkl, fun s hs => ?_⟩ (.cons rfl (.cons rfl (.cons rfl (.cons rfl (.cons (ai64 (by omega) (by omega)) (.nil _)))))) rfl
          rw [List.take_succ_eq_append_getElem hkl] at hs
          rcases List.mem_append.1 hs with hs | hs
          · exact hsk s hs
          · rw [List.mem_singleton.1 hs]; exact hmP
      · have hk : k ≤ t.srcs.length := hk
        have hke : k = t.srcs.length := by omega
        have d1 : decide ((k : Int) < (((texts t.srcs).length : Nat) : Int)) = false := decide_eq_false (by omega)
        rw [hke, List.take_length] at hsk
        clear hkl
        refine pB [.b false] rfl ?_
        refine S_while (α := Nat) (fun k => [(0, .sl st' fl 5 (tgs st l)), (1, .sl st2 fl2 3 (fils fs)), (7, .int .i64 (i : Nat)), (8, .ptr 0 (v + 1) 0), (10, .int .i64 (k : Nat))]) (fun k => [tgBx st (v + 1) t]) (fun k => k ≤ t.outs.length ∧ ∀ s ∈ t.outs.take k, isPathB s = true) (fun k => t.outs.length - k) 0 ⟨Nat.zero_le _, fun s hs => by cases hs⟩ (.cons rfl (.cons rfl (.cons rfl (.cons rfl (.cons rfl (.nil _)))))) rfl ?_
        rintro k ⟨hk, hok2⟩
        by_cases hkl : k < t.outs.length
        · have d1 : decide ((k : Int) < (((texts t.outs).length : Nat) : Int)) = true := decide_eq_true (by omega)
          have d2 : (texts t.outs)[(k : Int).toNat]? = some (.str t.outs[k]) := by rw [Int.toNat_natCast]; exact texts_get hkl
          have hIP := IsPath_ok t.outs[k] (by have := z5 _ (List.getElem_mem hkl); omega)
          cases hb : isPathB t.outs[k] with
          | false =>
            rw [hb] at hIP
            rw [hfault (ft_path hsk (List.all_eq_false.2 ⟨_, List.getElem_mem hkl, by rw [hb]; simp⟩)) (by decide)]
            refine pa [.b true, .v (.str t.outs[k]), .v (.bool false), .b true] rfl ?_ ?_
            · (repeat' with_reducible apply AllP_cons) <;> try exact aC
              · exact ⟨_, hIP, .cons (.refl .str) (.nil _)⟩
            exact S_ret ⟨_, _, rfl, trivial, _, rfl, .refl hrt⟩
          | true =>
            rw [hb] at hIP
            refine pa [.b true, .v (.str t.outs[k]), .v (.bool true), .b false] rfl ?_ ?_
            · (repeat' with_reducible apply AllP_cons) <;> try exact aC
              · exact ⟨_, hIP, .cons (.refl .str) (.nil _)⟩
            refine S_round (k + 1) (by show t.outs.length - (k + 1) < t.outs.length - k; omega) ⟨hkl, fun s hs => ?_⟩ (.cons rfl (.cons rfl (.cons rfl (.cons rfl (.cons (ai64 (by omega) (by omega)) (.nil _)))))) rfl
            rw [List.take_succ_eq_append_getElem hkl] at hs
            rcases List.mem_append.1 hs with hs | hs
            · exact hok2 s hs
            · rw [List.mem_singleton.1 hs]; exact hb
        · have hk : k ≤ t.outs.length := hk
          have hke : k = t.outs.length := by omega
          have d1 : decide ((k : Int) < (((texts t.outs).length : Nat) : Int)) = false := decide_eq_false (by omega)
          rw [hke, List.take_length] at hok2
          have hall : t.outs.all isPathB = true := List.all_eq_true.2 hok2
          clear hkl
          have g60 : ∀ {x : Nat}, 60 < x → decide ((x : Int) > 60) = true := fun h => decide_eq_true (by omega)
          have l60 : ∀ {x : Nat}, ¬ 60 < x → decide ((x : Int) > 60) = false := fun h => decide_eq_false (by omega)
          by_cases h6 : 60 < t.srcs.length ∨ 60 < t.outs.length ∨ 60 < t.cmd.length
          · rw [hfault (ft_many hsk hall h6) (by decide)]
            by_cases m1 : 60 < t.srcs.length
            · have k1 := g60 (x := (texts t.srcs).length) (by omega)
              refine pB [.b false, .b true, .b true, .b true] rfl ?_
              exact S_ret ⟨_, _, rfl, trivial, _, rfl, .refl hrt⟩
            have k1 := l60 (x := (texts t.srcs).length) (by omega)
            by_cases m2 : 60 < t.outs.length
            · have k2 := g60 (x := (texts t.outs).length) (by omega)
              refine pB [.b false, .b false, .b true, .b true] rfl ?_
              exact S_ret ⟨_, _, rfl, trivial, _, rfl, .refl hrt⟩
            have k2 := l60 (x := (texts t.outs).length) (by omega)
            have k3 := g60 (x := (texts t.cmd).length) (by omega)
            refine pB [.b false, .b false, .b false, .b true] rfl ?_
            exact S_ret ⟨_, _, rfl, trivial, _, rfl, .refl hrt⟩
          have k1 := l60 (x := (texts t.srcs).length) (by omega)
          have k2 := l60 (x := (texts t.outs).length) (by omega)
          have k3 := l60 (x := (texts t.cmd).length) (by omega)
          have hft := ft_out (tk := tk) hsk hall h6
          have hol : t.outs.length ≤ 60 := by omega
          refine pB [.b false, .b false, .b false, .b false] rfl ?_
          refine S_while (α := Nat) (fun k => [(0, .sl st' fl 5 (tgs st l)), (1, .sl st2 fl2 3 (fils fs)), (7, .int .i64 (i : Nat)), (8, .ptr 0 (v + 1) 0), (11, .int .i64 (k : Nat))]) (fun k => [tgBx st (v + 1) t]) (fun k => k ≤ t.outs.length ∧ outF tk t.outs = outF (tk ++ t.outs.take k) (t.outs.drop k)) (fun k => t.outs.length - k) 0 ⟨Nat.zero_le _, by simp⟩ (.cons rfl (.cons rfl (.cons rfl (.cons rfl (.cons rfl (.nil _)))))) rfl ?_
          rintro k ⟨hk, hou⟩
          by_cases hkl : k < t.outs.length
          · have d1 : decide ((k : Int) < (((texts t.outs).length : Nat) : Int)) = true := decide_eq_true (by omega)
            have d2 : (texts t.outs)[(k : Int).toNat]? = some (.str t.outs[k]) := by rw [Int.toNat_natCast]; exact texts_get hkl
            rw [out_next hkl] at hou
            have hoz := z5 _ (List.getElem_mem hkl)
            obtain ⟨o, ho⟩ : ∃ o, o = t.outs[k] := ⟨_, rfl⟩
            rw [← ho] at d2 hou hoz
            have htk2 : t.outs.take (k + 1) = t.outs.take k ++ [o] := by rw [List.take_succ_eq_append_getElem hkl, ho]
            have hmf : ∀ {q : Nm}, q ∈ tk ++ t.outs.take k → meetT q o = true → chE fs l = (t.name, 6) := fun {q} hq hm => by
              have : outF tk t.outs = true := by
                rw [hou, List.any_eq_true.2 ⟨q, hq, hm⟩]; rfl
              exact hfault (by rw [hft, if_pos this]) (by decide)
            refine pB [.b true] rfl ?_
            refine S_while (α := Nat) (fun j => [(0, .sl st' fl 5 (tgs st l)), (1, .sl st2 fl2 3 (fils fs)), (7, .int .i64 (i : Nat)), (8, .ptr 0 (v + 1) 0), (11, .int .i64 (k : Nat)), (12, .int .i64 (j : Nat))]) (fun _ => [tgBx st (v + 1) t]) (fun j => j ≤ fs.length ∧ ∀ f ∈ fs.take j, meetT f.path o = false) (fun j => fs.length - j) 0 ⟨Nat.zero_le _, fun f h => by cases h⟩ (.cons rfl (.cons rfl (.cons rfl (.cons rfl (.cons rfl (.cons rfl (.nil _))))))) rfl ?_
            rintro j ⟨hj, hjf⟩
            by_cases hjl : j < fs.length
            · have f1 : decide ((j : Int) < (((fils fs).length : Nat) : Int)) = true := decide_eq_true (by omega)
              have f2 : (fils fs)[(j : Int).toNat]? = some (filA fs[j]) := fils_get hjl
              have hpz := hf.path _ (List.getElem_mem hjl)
              have hM := MeetsR_ok fs[j].path o hpz (by omega)
              cases hb : meetT fs[j].path o with
              | true =>
                rw [hb] at hM
                rw [hmf (q := fs[j].path) (List.mem_append_left _ (by rw [htk]; unfold tkG; rw [hP]; exact List.mem_append_left _ (List.mem_map.2 ⟨_, List.getElem_mem hjl, rfl⟩))) hb]
                refine pa [.b true, .v (filA fs[j]), .v (.str o), .v (.bool true), .b true] rfl ?_ ?_
                · (repeat' with_reducible apply AllP_cons) <;> try exact aC
                  · exact ⟨_, hM, .cons (.refl .str) (.cons (.refl .str) (.nil _))⟩
                exact S_ret ⟨_, _, rfl, trivial, _, rfl, .refl hrt⟩
              | false =>
                rw [hb] at hM
                refine pa [.b true, .v (filA fs[j]), .v (.str o), .v (.bool false), .b false] rfl ?_ ?_
                · (repeat' with_reducible apply AllP_cons) <;> try exact aC
                  · exact ⟨_, hM, .cons (.refl .str) (.cons (.refl .str) (.nil _))⟩
                refine S_round (j + 1) (by show fs.length - (j + 1) < fs.length - j; omega) ⟨hjl, fun f hf => ?_⟩ (.cons rfl (.cons rfl (.cons rfl (.cons rfl (.cons rfl (.cons (ai64 (by omega) (by omega)) (.nil _))))))) rfl
                rw [List.take_succ_eq_append_getElem hjl] at hf
                rcases List.mem_append.1 hf with hf | hf
                · exact hjf f hf
                · rw [List.mem_singleton.1 hf]; exact hb
            · have hj : j ≤ fs.length := hj
              have hje : j = fs.length := by omega
              have f1 : decide ((j : Int) < (((fils fs).length : Nat) : Int)) = false := decide_eq_false (by omega)
              rw [hje, List.take_length] at hjf
              have hPn : ∀ q ∈ P, meetT q o = false := fun q hq => by
                rw [hP] at hq
                obtain ⟨f, hf1, rfl⟩ := List.mem_map.1 hq
                exact hjf f hf1
              clear hjl
              refine pB [.b false] rfl ?_
              refine S_while (α := Nat) (fun j => [(0, .sl st' fl 5 (tgs st l)), (1, .sl st2 fl2 3 (fils fs)), (7, .int .i64 (i : Nat)), (8, .ptr 0 (v + 1) 0), (11, .int .i64 (k : Nat)), (13, .int .i64 (j : Nat))]) (fun _ => [tgBx st (v + 1) t])
                (fun j => j ≤ i + 1 ∧ (j ≤ i → ∀ q ∈ tkG P l j, meetT q o = false) ∧ (j = i + 1 → ∀ q ∈ tk ++ t.outs.take k, meetT q o = false)) (fun j => i + 1 - j) 0 ⟨Nat.zero_le _, (fun _ q hq => hPn q (by simpa [tkG] using hq)), fun h => by cases h⟩ (.cons rfl (.cons rfl (.cons rfl (.cons rfl (.cons rfl (.cons rfl (.nil _))))))) rfl ?_
              rintro j ⟨hj, hj1, hj2⟩
              by_cases hji : j ≤ i
              · have hj1 := hj1 hji
                have hjl : j < l.length := by omega
                have f1 : decide ((j : Int) ≤ (i : Int)) = true := decide_eq_true (by omega)
                have f2 := hget j hjl
                obtain ⟨y1, _, _, _, y5⟩ := hy.sz _ (List.getElem_mem hjl)
                have htn2 := tk_next (P := P) hjl
                obtain ⟨u, hu⟩ : ∃ u, u = l[j] := ⟨_, rfl⟩
                rw [← hu] at f2 y1 y5 htn2
                have hul := texts_len u.outs
                have hut : j = i → u = t := fun e => by subst e; rw [hu, ht]
                refine pB [.b true] rfl ?_
                refine S_while (α := Nat) (fun n => [(0, .sl st' fl 5 (tgs st l)), (1, .sl st2 fl2 3 (fils fs)), (7, .int .i64 (i : Nat)), (8, .ptr 0 (v + 1) 0), (11, .int .i64 (k : Nat)), (13, .int .i64 (j : Nat)), (14, .int .i64 (n : Nat))]) (fun _ => [tgBx st (v + 1) t])
                  (fun n => n ≤ u.outs.length ∧ (j = i → n ≤ k) ∧ ∀ q ∈ u.outs.take n, meetT q o = false) (fun n => u.outs.length - n) 0 ⟨Nat.zero_le _, (fun _ => Nat.zero_le _), fun q h => by cases h⟩ (.cons rfl (.cons rfl (.cons rfl (.cons rfl (.cons rfl (.cons rfl (.cons rfl (.nil _)))))))) rfl ?_
                rintro n ⟨hn1, hn2, hn3⟩
                have hn1 : n ≤ u.outs.length := hn1
                have hnext : (j = i → n = k) → (j < i → n = u.outs.length) → (j + 1 ≤ i + 1 ∧ (j + 1 ≤ i → ∀ q ∈ tkG P l (j + 1), meetT q o = false) ∧ (j + 1 = i + 1 → ∀ q ∈ tk ++ t.outs.take k, meetT q o = false)) := fun e1 e2 => by
                  refine ⟨by omega, fun h q hq => ?_, fun h q hq => ?_⟩
                  · rw [e2 (by omega), List.take_length] at hn3
                    rw [htn2] at hq
                    rcases List.mem_append.1 hq with hq | hq
                    · exact hj1 q hq
                    · exact hn3 q hq
                  · have hje : j = i := by omega
                    rw [e1 hje, hut hje] at hn3
                    rw [htk, ← hje] at hq
                    rcases List.mem_append.1 hq with hq | hq
                    · exact hj1 q hq
                    · exact hn3 q hq
                by_cases hnl : n < u.outs.length
                · have g1 : decide ((n : Int) < (((texts u.outs).length : Nat) : Int)) = true := decide_eq_true (by omega)
                  have g2 : (texts u.outs)[(n : Int).toNat]? = some (.str u.outs[n]) := by rw [Int.toNat_natCast]; exact texts_get hnl
                  have hM := MeetsR_ok u.outs[n] o (by have := y5 _ (List.getElem_mem hnl); omega) (by omega)
                  by_cases hjk : j = i ∧ n = k
                  · have g3 : decide ((j : Int) < (i : Int)) = false := decide_eq_false (by omega)
                    have g4 : decide ((n : Int) < (k : Int)) = false := decide_eq_false (by omega)
                    refine pB [.v (tgA st u), .b true, .b false, .b false] rfl ?_
                    exact S_round (j + 1) (by show i + 1 - (j + 1) < i + 1 - j; omega) (hnext (fun _ => hjk.2) (fun h => by omega)) (.cons rfl (.cons rfl (.cons rfl (.cons rfl (.cons rfl (.cons (ai64 (by omega) (by omega)) (.nil _))))))) rfl
                  · have hstep : ∀ (h : meetT u.outs[n] o = false), (n + 1 ≤ u.outs.length ∧ (j = i → n + 1 ≤ k) ∧ ∀ q ∈ u.outs.take (n + 1), meetT q o = false) := fun h => by
                      refine ⟨hnl, fun e => by have := hn2 e; omega, fun q hq => ?_⟩
                      rw [List.take_succ_eq_append_getElem hnl] at hq
                      rcases List.mem_append.1 hq with hq | hq
                      · exact hn3 q hq
                      · rw [List.mem_singleton.1 hq]; exact h
                    have hmem : u.outs[n] ∈ tk ++ t.outs.take k := by
                      by_cases e : j = i
                      · refine List.mem_append_right _ ?_
                        have := hut e
                        have h2 := hn2 e
                        subst this
                        exact List.mem_take_iff_getElem.2 ⟨n, by omega, rfl⟩
                      · refine List.mem_append_left _ ?_
                        rw [htk]
                        refine List.mem_append_right _ (List.mem_flatMap.2 ⟨u, ?_, List.getElem_mem hnl⟩)
                        rw [hu]
                        exact List.mem_take_iff_getElem.2 ⟨j, by omega, rfl⟩
                    by_cases e : j < i
                    · have g3 : decide ((j : Int) < (i : Int)) = true := decide_eq_true (by omega)
                      cases hb : meetT u.outs[n] o with
                      | true =>
                        rw [hb] at hM
                        rw [hmf hmem hb]
                        refine pa [.v (tgA st u), .b true, .b true, .b true, .v (tgA st u), .v (.str u.outs[n]), .v (.str o), .v (.bool true), .b true] rfl ?_ ?_
                        · (repeat' with_reducible apply AllP_cons) <;> try exact aC
                          · exact ⟨_, hM, .cons (.refl .str) (.cons (.refl .str) (.nil _))⟩
                        exact S_ret ⟨_, _, rfl, trivial, _, rfl, .refl hrt⟩
                      | false =>
                        rw [hb] at hM
                        refine pa [.v (tgA st u), .b true, .b true, .b true, .v (tgA st u), .v (.str u.outs[n]), .v (.str o), .v (.bool false), .b false] rfl ?_ ?_
                        · (repeat' with_reducible apply AllP_cons) <;> try exact aC
                          · exact ⟨_, hM, .cons (.refl .str) (.cons (.refl .str) (.nil _))⟩
                        exact S_round (n + 1) (by show u.outs.length - (n + 1) < u.outs.length - n; omega) (hstep hb) (.cons rfl (.cons rfl (.cons rfl (.cons rfl (.cons rfl (.cons rfl (.cons (ai64 (by omega) (by omega)) (.nil _)))))))) rfl
                    · have hje : j = i := by omega
                      have h2 := hn2 hje
                      have g3 : decide ((j : Int) < (i : Int)) = false := decide_eq_false (by omega)
                      have g4 : decide ((n : Int) < (k : Int)) = true := decide_eq_true (by omega)
                      cases hb : meetT u.outs[n] o with
                      | true =>
                        rw [hb] at hM
                        rw [hmf hmem hb]
                        refine pa [.v (tgA st u), .b true, .b false, .b true, .v (tgA st u), .v (.str u.outs[n]), .v (.str o), .v (.bool true), .b true] rfl ?_ ?_
                        · (repeat' with_reducible apply AllP_cons) <;> try exact aC
                          · exact ⟨_, hM, .cons (.refl .str) (.cons (.refl .str) (.nil _))⟩
                        exact S_ret ⟨_, _, rfl, trivial, _, rfl, .refl hrt⟩
                      | false =>
                        rw [hb] at hM
                        refine pa [.v (tgA st u), .b true, .b false, .b true, .v (tgA st u), .v (.str u.outs[n]), .v (.str o), .v (.bool false), .b false] rfl ?_ ?_
                        · (repeat' with_reducible apply AllP_cons) <;> try exact aC
                          · exact ⟨_, hM, .cons (.refl .str) (.cons (.refl .str) (.nil _))⟩
                        exact S_round (n + 1) (by show u.outs.length - (n + 1) < u.outs.length - n; omega) (hstep hb) (.cons rfl (.cons rfl (.cons rfl (.cons rfl (.cons rfl (.cons rfl (.cons (ai64 (by omega) (by omega)) (.nil _)))))))) rfl
                · have g1 : decide ((n : Int) < (((texts u.outs).length : Nat) : Int)) = false := decide_eq_false (by omega)
                  refine pB [.v (tgA st u), .b false, .b false] rfl ?_
                  refine S_round (j + 1) (by show i + 1 - (j + 1) < i + 1 - j; omega) (hnext (fun e => ?_) (fun h => by omega)) (.cons rfl (.cons rfl (.cons rfl (.cons rfl (.cons rfl (.cons (ai64 (by omega) (by omega)) (.nil _))))))) rfl
                  have h1 := hn2 e
                  have h2 := hut e
                  rw [h2] at hnl hn1
                  omega
              · have f1 : decide ((j : Int) ≤ (i : Int)) = false := decide_eq_false (by omega)
                have hno := hj2 (by omega)
                refine pB [.b false] rfl ?_
                refine S_round (k + 1) (by show t.outs.length - (k + 1) < t.outs.length - k; omega) ⟨hkl, ?_⟩ (.cons rfl (.cons rfl (.cons rfl (.cons rfl (.cons (ai64 (by omega) (by omega)) (.nil _)))))) rfl
                rw [hou, List.any_eq_false.2 (fun q hq => by rw [hno q hq]; simp), Bool.false_or]
          · have hk : k ≤ t.outs.length := hk
            have hke : k = t.outs.length := by omega
            have d1 : decide ((k : Int) < (((texts t.outs).length : Nat) : Int)) = false := decide_eq_false (by omega)
            have hou : outF tk t.outs = false := by rw [hou, hke, List.drop_length]; rfl
            rw [hft, if_neg (by rw [hou]; simp)] at hck
            refine pB [.b false, .s] rfl ?_
            refine S_drop (id := 0) rfl ?_ ⟨.skip, _, .inr ⟨_, _, _, rfl⟩⟩
            refine pB [] rfl ?_
            exact S_round (i + 1, v + 1) (by show l.length - (i + 1) < l.length - i; omega) ⟨hlt, by rw [hck, htn, htk]⟩ (.cons rfl (.cons rfl (.cons (ai64 (by omega) (by omega)) (.nil _)))) rfl
    · have hie : i = l.length := by omega
      have c1 : decide ((i : Int) < (((tgs st l).length : Nat) : Int)) = false := decide_eq_false (by omega)
      rw [hie, List.drop_length] at hck
      have hce := hce0 (by rw [hck]; rfl)
      rw [oE_is h1] at hce
      have hE := Everyone_ok st st' fl l (by omega)
      have hH := HasCircle_ok st st' fl true false l (fun _ => true) hok hz
      have hbo : ∀ σ : Heap, Frz false σ (.sl true false 1 (booA l.length fun _ => true)) (.sl true false 1 (booA l.length fun _ => true)) := fun σ => .refl (.sl (fun h => by cases h) (boo_free _ _))
      cases hb : hcG l fun _ => true with
      | true =>
        rw [hb] at hH hce
        rw [if_pos rfl] at hce
        rw [hce]
        refine pa [.b false, .v (.sl true false 1 (booA l.length fun _ => true)), .v (.bool true), .b true] rfl ?_ ?_
        · (repeat' with_reducible apply AllP_cons) <;> try exact aC
          · exact ⟨_, hE, .cons (tgs_arg ..) (.nil _)⟩
          · exact ⟨_, hH, .cons (tgs_arg ..) (.cons (hbo _) (.nil _))⟩
        exact S_ret ⟨_, _, rfl, trivial, _, rfl, .refl hrt⟩
      | false =>
        rw [hb] at hH hce
        rw [if_neg (by simp)] at hce
        rw [hce]
        refine pa [.b false, .v (.sl true false 1 (booA l.length fun _ => true)), .v (.bool false), .b false] rfl ?_ ?_
        · (repeat' with_reducible apply AllP_cons) <;> try exact aC
          · exact ⟨_, hE, .cons (tgs_arg ..) (.nil _)⟩
          · exact ⟨_, hH, .cons (tgs_arg ..) (.cons (hbo _) (.nil _))⟩
        exact S_ret ⟨_, _, rfl, trivial, _, rfl, .refl hrt⟩
end Go.Proofs.YtnfalbdnkgaelaaDoor
end
section
set_option linter.unusedVariables false
set_option linter.unusedSimpArgs false
set_option maxRecDepth 20000
set_option maxHeartbeats 1000000
namespace Go.Proofs.YtnfalbdnkgaelaaDoor
open Go Go.Ab
def mtH (e0 : Nat × Option Box) (n : Nat) (tk : List Nm) (e2 : Nat × Option Box) (w : Nat) (o : Nm) : Heap :=
  [e0, (n, some (.cells (texts tk) ⟨false, none⟩)), e2, (w, some (.cells [.str o] ⟨false, none⟩))]
theorem Check1_ok (σ : Heap) (p : Nm) (hp : p.length ≤ 1048576) : CallOk cx 46 ([] ++ [.str p] ++ []) σ (fun e s' => e = .ret (.bool (!isPathB p)) ∧ s' = σ) :=
  callOk_intro (fun a w => Tryd.call46 a w) Tryd.func46 rfl Tryd.ntmps46 rfl fun B => by
    have hI := isPath_ok p (by omega)
    refine pas [.v (.bool (isPathB p))] rfl ?_ ?_
    · (repeat' with_reducible apply AllP_cons) <;> try exact aC
      · exact ⟨_, hI, .cons (.refl .str) (.nil _)⟩
    exact S_ret ⟨_, _, rfl, trivial, rfl, rfl⟩
theorem Check2_ok (e0 : Nat × Option Box) (n : Nat) (tk : List Nm) (e2 : Nat × Option Box) (w : Nat) (o q : Nm) (ho : o.length ≤ 1000000000000) (hq : q.length ≤ 1000000000000) :
    CallOk cx 48 [.str q, .ptr 3 w 0] (mtH e0 n tk e2 w o) (fun e s' => e = .ret (.bool (meetT o q)) ∧ s' = mtH e0 n tk e2 w o) :=
  callOk_intro (fun a w => Tryd.call48 a w) Tryd.func48 rfl Tryd.ntmps48 rfl fun B => by
    have hM := Meets_ok o q ho hq
    refine pa [.v (.bool (meetT o q))] rfl ?_ ?_
    · (repeat' with_reducible apply AllP_cons) <;> try exact aC
      · exact ⟨_, hM, .cons (.refl .str) (.cons (.refl .str) (.nil _))⟩
    exact S_ret ⟨_, _, rfl, trivial, rfl, rfl⟩
theorem IndexFuncM_ok (e0 : Nat × Option Box) (n : Nat) (tk : List Nm) (e2 : Nat × Option Box) (w : Nat) (o : Nm) (ho : o.length ≤ 1000000000000) (hq : ∀ q ∈ tk, q.length ≤ 1000000000000) (hl : tk.length ≤ 1000000000) :
    CallOk cx 60 [.ms 1 n 0 tk.length 1 false, .func (.func 48) [] [.ptr 3 w 0]] (mtH e0 n tk e2 w o) (fun e s' => e = .ret (.int .i64 (match tk.findIdx? (fun q => meetT o q) with | some i => (i : Int) | none => -1)) ∧ s' = mtH e0 n tk e2 w o) :=
  callOk_intro (fun a w => Tryd.call60 a w) Tryd.func60 rfl Tryd.ntmps60 rfl fun B => by
    refine pB [] rfl ?_
    refine S_while (α := Nat) (fun i => [(0, .ms 1 n 0 tk.length 1 false), (1, .func (.func 48) [] [.ptr 3 w 0]), (7, .int .i64 (tk.length : Nat)), (8, .int .i64 (i : Nat))]) (fun _ => mtH e0 n tk e2 w o) (fun i => i ≤ tk.length ∧ ∀ k (hk : k < tk.length), k < i → meetT o tk[k] = false) (fun i => tk.length - i) 0
      ⟨Nat.zero_le _, fun k hk h => absurd h (Nat.not_lt_zero _)⟩ (.cons rfl (.cons rfl (.cons rfl (.cons rfl (.nil _))))) rfl ?_
    rintro i ⟨hi, hN⟩
    have hi : i ≤ tk.length := hi
    by_cases hlt : i < tk.length
    · have e1 : decide ((i : Int) < (tk.length : Int)) = true := decide_eq_true (by omega)
      have hC := Check2_ok e0 n tk e2 w o tk[i] ho (hq _ (List.getElem_mem hlt))
      have hd : (List.drop (offN 0 (mulN ((i : Int)).toNat 1)) (texts tk))[0]? = some (.str tk[i]) := by
        rw [offN_eq, mulN_eq, Int.toNat_natCast, List.getElem?_drop]
        have e : 0 + i * 1 + 0 = i := by omega
        rw [e]; exact texts_get hlt
      cases hb : meetT o tk[i] with
      | true =>
        rw [hb] at hC
        refine pB [.b true, .v .top, .v (.str tk[i]), .k (.bool true), .b true] rfl ?_
        refine S_ret ⟨_, _, rfl, trivial, ?_, rfl⟩
        have : tk.findIdx? (fun q => meetT o q) = some i := by
          rw [List.findIdx?_eq_some_iff_getElem]
          exact ⟨hlt, by simpa using hb, fun j hj => by have := hN j (by omega) hj; simpa using this⟩
        rw [this]; rfl
      | false =>
        rw [hb] at hC
        refine pB [.b true, .v .top, .v (.str tk[i]), .k (.bool false), .b false] rfl ?_
        refine S_round (i + 1) (by show tk.length - (i + 1) < tk.length - i; omega) ⟨hlt, fun k hk h => ?_⟩ (.cons rfl (.cons rfl (.cons rfl (.cons (ai64 (by omega) (by omega)) (.nil _))))) rfl
        have h : k < i + 1 := h
        by_cases hki : k < i
        · exact hN k hk hki
        · have : k = i := by omega
          subst this; exact hb
    · have e1 : decide ((i : Int) < (tk.length : Int)) = false := decide_eq_false (by omega)
      refine pB [.b false] rfl ?_
      refine S_ret ⟨_, _, rfl, trivial, ?_, rfl⟩
      have : tk.findIdx? (fun q => meetT o q) = none := by
        rw [List.findIdx?_eq_none_iff]
        intro x hx
        obtain ⟨k, hk, rfl⟩ := List.getElem_of_mem hx
        have := hN k hk (by omega)
        simpa using this
      rw [this]; rfl
theorem ContainsFuncM_ok (e0 : Nat × Option Box) (n : Nat) (tk : List Nm) (e2 : Nat × Option Box) (w : Nat) (o : Nm) (ho : o.length ≤ 1000000000000) (hq : ∀ q ∈ tk, q.length ≤ 1000000000000) (hl : tk.length ≤ 1000000000) :
    CallOk cx 40 [.ms 1 n 0 tk.length 1 false, .func (.func 48) [] [.ptr 3 w 0]] (mtH e0 n tk e2 w o) (fun e s' => e = .ret (.bool (tk.any fun q => meetT q o)) ∧ s' = mtH e0 n tk e2 w o) :=
  callOk_intro (fun a w => Tryd.call40 a w) Tryd.func40 rfl Tryd.ntmps40 rfl fun B => by
    have hI := IndexFuncM_ok e0 n tk e2 w o ho hq hl
    refine pB [.k (.int .i64 (match tk.findIdx? (fun q => meetT o q) with | some i => (i : Int) | none => -1))] rfl ?_
    refine S_ret ⟨_, _, rfl, trivial, ?_, rfl⟩
    show Out.ret (AV.bool (decide ((match tk.findIdx? (fun q => meetT o q) with | some i => (i : Int) | none => -1) ≥ 0))) = _
    congr 2
    rw [show (fun q => meetT q o) = fun q => meetT o q from funext fun q => meet_comm q o]
    cases h : tk.findIdx? (fun q => meetT o q) with
    | none =>
      rw [List.findIdx?_eq_none_iff] at h
      rw [List.any_eq_false.2 (fun x hx => by have := h x hx; rw [this]; simp)]; rfl
    | some i =>
      rw [List.findIdx?_eq_some_iff_getElem] at h
      obtain ⟨h1, h2, _⟩ := h
      rw [List.any_eq_true.2 ⟨_, List.getElem_mem h1, h2⟩]
      simp
end Go.Proofs.YtnfalbdnkgaelaaDoor
end
section
set_option linter.unusedVariables false
set_option linter.unusedSimpArgs false
set_option maxRecDepth 20000
namespace Go.Proofs.YtnfalbdnkgaelaaDoor
open Go Go.Ab
def firstOf {α : Type} [DecidableEq α] (l : List α) (x : α) : Int := match l.idxOf? x with | some i => i | none => -1
theorem firstOf_no {α : Type} [DecidableEq α] {l : List α} {x : α} (h : x ∉ l) : firstOf l x = -1 := by
  unfold firstOf
  rw [List.idxOf?_eq_none_iff.2 h]
theorem firstOf_at {α : Type} [DecidableEq α] {l : List α} {x : α} {i : Nat} (hi : i < l.length) (h : l[i] = x) (hn : x ∉ l.take i) : firstOf l x = i := by
  unfold firstOf
  have : l.idxOf? x = some i := by
    rw [List.idxOf?, List.findIdx?_eq_some_iff_getElem]
    refine ⟨hi, by simp [h], fun j hj => ?_⟩
    intro hb
    refine hn ?_
    have : l[j] = x := by simpa using hb
    rw [← this]
    exact List.mem_take_iff_getElem.2 ⟨j, by omega, rfl⟩
  rw [this]
theorem firstOf_ge {α : Type} [DecidableEq α] {l : List α} {x : α} : (0 ≤ firstOf l x) ↔ x ∈ l := by
  unfold firstOf
  constructor
  · intro h
    by_cases hm : x ∈ l
    · exact hm
    · rw [List.idxOf?_eq_none_iff.2 hm] at h; simp at h
  · intro h
    cases hh : l.idxOf? x with
    | none => exact absurd h (List.idxOf?_eq_none_iff.1 hh)
    | some i => simp
theorem IndexS_ok {st fl : Bool} (l : List (List UInt8)) (s : List UInt8) (hl : l.length ≤ 1000000) : Calc cx 55 [.sl st fl 1 (texts l), .str s] (.int .i64 (firstOf l s)) :=
  pure_intro (fun a w => Tryd.call55 a w) Tryd.func55 rfl Tryd.ntmps55 rfl .int fun B => by
    have htl := texts_len l
    refine ab 1000 rfl trivial ?_
    refine S_while (α := Nat) (fun i => [(0, .sl st fl 1 (texts l)), (1, .str s), (7, .int .i64 (l.length : Nat)), (8, .int .i64 (i : Nat))]) (fun _ => []) (fun i => i ≤ l.length ∧ s ∉ l.take i) (fun i => l.length - i) 0
      ⟨Nat.zero_le _, by simp⟩ (.cons rfl (.cons rfl (.cons (by show AV.int .i64 ((texts l).length : Nat) = _; rw [htl]) (.cons rfl (.nil _))))) rfl ?_
    rintro i ⟨hi, hN⟩
    have hi : i ≤ l.length := hi
    by_cases hlt : i < l.length
    · have e1 : (texts l)[(i : Int).toNat]? = some (.str l[i]) := texts_get hlt
      by_cases he : s = l[i]
      · refine pa [.b true, .v (.str l[i]), .b true] rfl ?_ ?_
        · (repeat' with_reducible apply AllP_cons) <;> try exact aC
          exact beq_iff_eq.2 he
        refine S_retc .int rfl trivial ?_
        rw [firstOf_at hlt he.symm hN]; rfl
      · refine pa [.b true, .v (.str l[i]), .b false] rfl ?_ ?_
        · (repeat' with_reducible apply AllP_cons) <;> try exact aC
          exact beq_false_of_ne he
        refine S_round (i + 1) (by show l.length - (i + 1) < l.length - i; omega) ⟨hlt, fun hm => ?_⟩ (.cons rfl (.cons rfl (.cons rfl (.cons (ai64 rfl (by omega)) (.nil _))))) rfl
        rw [List.take_succ_eq_append_getElem hlt] at hm
        rcases List.mem_append.1 hm with hm | hm
        · exact hN hm
        · simp at hm; exact he hm
    · obtain rfl : i = l.length := by omega
      rw [List.take_length] at hN
      refine pB [.b false] rfl ?_
      refine S_retc .int rfl trivial ?_
      rw [firstOf_no hN]; rfl
theorem ContainsS_ok {st fl : Bool} (l : List (List UInt8)) (s : List UInt8) (hl : l.length ≤ 1000000) : Calc cx 45 [.sl st fl 1 (texts l), .str s] (.bool (decide (s ∈ l))) :=
  pure_intro (fun a w => Tryd.call45 a w) Tryd.func45 rfl Tryd.ntmps45 rfl .bool fun B => by
    refine pa [.v (.int .i64 (firstOf l s))] rfl ?_ ?_
    · (repeat' with_reducible apply AllP_cons) <;> try exact aC
      exact ⟨_, IndexS_ok l s hl, .cons (.refl (.sl (fun h => by cases h) (texts_any l))) (.cons (.refl .str) (.nil _))⟩
    refine S_retc .bool rfl trivial ?_
    exact congrArg AV.bool (decide_eq_decide.2 firstOf_ge)
end Go.Proofs.YtnfalbdnkgaelaaDoor
end
section
set_option linter.unusedVariables false
set_option linter.unusedSimpArgs false
set_option maxRecDepth 20000
set_option maxHeartbeats 1000000
namespace Go.Proofs.YtnfalbdnkgaelaaDoor
open Go Go.Ab
theorem Checks_ok (st st' fl st2 fl2 : Bool) (l : List Tg) (fs : List Fil) (hl : l.length ≤ 1000000000) (hz : TgSz l) (hy : TgZ l) (hf : FilsOk fs) (h0 : chkT fs = 0) (h1 : nmE l = 0) :
    Calc cx 29 [.sl st' fl 5 (tgs st l), .sl st2 fl2 3 (fils fs)] (.tup [.str (chE fs l).1, .int .i64 ((chE fs l).2 : Nat)]) :=
  pure_intro (fun a w => Tryd.call29 a w) Tryd.func29 rfl Tryd.ntmps29 rfl (.tup (fun a ha => by rcases List.mem_cons.1 ha with rfl | ha; exact .str; rw [List.mem_singleton.1 ha]; exact .int)) fun B => by
    have hC := Check_ok (st := st2) (fl := fl2) fs hf
    have hff : ∀ σ : Heap, Frz false σ (.sl st2 fl2 3 (fils fs)) (.sl st2 fl2 3 (fils fs)) := fun σ => .refl (.sl (fun h => by cases h) (fils_free fs))
    have hrt : ∀ {n : Nm} {e : Nat}, Free true (.tup [.str n, .int .i64 (e : Nat)]) := fun {n e} => .tup (fun a ha => by rcases List.mem_cons.1 ha with rfl | ha; exact .str; rw [List.mem_singleton.1 ha]; exact .int)
    have hn := named_ok st st' fl l hl hz
    have hR : nmR l = .tup [.map 0 0, .int .i64 0] := by unfold nmR; rw [h1]; rfl
    have hH : nmH st l = [(0, nmM st l)] := by unfold nmH; rw [if_pos h1]
    rw [hR, hH] at hn
    have hok := nmE_ok.1 h1
    have hl60 := hok.len
    have hll := tgs_len st l
    have hfl := fils_len fs
    rw [h0] at hC
    have hf60 : fs.length ≤ 60 := by
      by_cases h : 60 < fs.length
      · unfold chkT at h0
        rw [if_pos h] at h0; cases h0
      · omega
    obtain ⟨P, hP⟩ : ∃ P, P = fs.map Fil.path := ⟨_, rfl⟩
    have hPl : P.length = fs.length := by rw [hP, List.length_map]
    have hPz : ∀ q ∈ P, q.length ≤ 1000000000000 := fun q hq => by
      rw [hP] at hq
      obtain ⟨f, hf1, rfl⟩ := List.mem_map.1 hq
      exact hf.path f hf1
    have hce : ∀ {x : Nm × Nat}, x.2 ≠ 0 → ckG P P l = x → chE fs l = x := fun {x} hx e => by
      unfold chE
      rw [if_neg (by simpa using h0), if_neg (by simpa using h1), ← hP, e, if_pos hx]
    have hce0 : (ckG P P l).2 = 0 → chE fs l = ([], oE l) := fun e => by
      unfold chE
      rw [if_neg (by simpa using h0), if_neg (by simpa using h1), ← hP, e, if_neg (by simp)]
    have hil : ∀ (i : Nat), i < l.length → decide ((i : Int) < (((tgs st l).length : Nat) : Int)) = true := fun i h => decide_eq_true (by omega)
    have hget : ∀ (i : Nat) (h : i < l.length), (tgs st l)[(i : Int).toNat]? = some (tgA st l[i]) := fun i h => by rw [Int.toNat_natCast]; exact tgs_get h
    refine pa [.v (.int .i64 0), .b false, .f (.tup [.map 0 0, .int .i64 0]) (fun _ => [(0, nmM st l)]), .b false] rfl ?_ ?_
    · (repeat' with_reducible apply AllP_cons) <;> try exact aC
      · exact ⟨_, hC, .cons (hff _) (.nil _)⟩
    refine S_ghostF (t := 9) (gid := 1) (gver := 0) (σ' := [(0, nmM st l), (0, some (.cells [] ⟨false, none⟩))]) 1 ⟨false, none⟩ rfl rfl ⟨_, _, .inl rfl⟩ ?_
    refine S_dead ?_ ⟨_, _, .inl rfl⟩
    refine S_while (α := Nat × Option Box) (fun s => [(0, .sl st' fl 5 (tgs st l)), (7, .map 0 0), (9, .ms 1 s.1 0 s.1 1 false), (34, .sl st2 fl2 3 (fils fs)), (35, .int .i64 ((fils fs).length : Nat)), (36, .int .i64 (s.1 : Nat))]) (fun s => [(0, nmM st l), (s.1, some (.cells (texts (P.take s.1)) ⟨false, none⟩)), (s.1, s.2)]) (fun s => s.1 ≤ fs.length) (fun s => fs.length - s.1) (0, none) (Nat.zero_le _) (.cons rfl (.cons rfl (.cons rfl (.cons rfl (.cons rfl (.cons rfl (.nil _))))))) rfl ?_
    rintro ⟨j, y⟩ hj
    have hj : j ≤ fs.length := hj
    refine S_drop (id := 2) rfl ?_ ⟨_, _, .inl rfl⟩
    by_cases hjl : j < fs.length
    · have f1 : decide ((j : Int) < (((fils fs).length : Nat) : Int)) = true := decide_eq_true (by omega)
      have f2 : (fils fs)[(j : Int).toNat]? = some (filA fs[j]) := fils_get hjl
      have htk : P.take (j + 1) = P.take j ++ [fs[j].path] := by
        rw [List.take_succ_eq_append_getElem (by omega)]
        simp only [hP, List.getElem_map]
      have htl : (texts (P.take j)).length = j := by rw [texts_len, List.length_take]; omega
      refine pa [.b true, .v (filA fs[j])] rfl ?_ ?_
      · (repeat' with_reducible apply AllP_cons) <;> try exact aC
        · show 0 + j * 1 = (texts (P.take j)).length
          omega
        · show (j + 1) * 16 ≤ 140737488355328
          omega
      refine S_round (j + 1, (filBx (j + 1) fs[j]).2) (by show fs.length - (j + 1) < fs.length - j; omega) hjl (.cons rfl (.cons rfl (.cons rfl (.cons rfl (.cons rfl (.cons (ai64 (by omega) (by omega)) (.nil _))))))) ?_
      show [_, (j + 1, some (Box.cells (texts (P.take j) ++ [.str fs[j].path]) ⟨false, none⟩)), _] = [_, (j + 1, some (Box.cells (texts (P.take (j + 1))) ⟨false, none⟩)), _]
      rw [htk, show texts (P.take j ++ [fs[j].path]) = texts (P.take j) ++ [.str fs[j].path] by simp [texts]]
      rfl
    have hje : j = fs.length := by omega
    subst hje
    have f1 : decide ((fs.length : Int) < (((fils fs).length : Nat) : Int)) = false := decide_eq_false (by omega)
    clear hj hjl
    rw [← hPl]
    refine S_heap [(0, nmM st l), (P.length, some (.cells (texts P) ⟨false, none⟩)), (P.length, none)] (by rw [List.take_length]; rfl) ?_
    have hCl := Clone_ok false false P (by omega)
    refine pa [.b false, .v (.sl true false 1 (texts P))] rfl ?_ ?_
    · (repeat' with_reducible apply AllP_cons) <;> try exact aC
      · refine ⟨_, hCl, .cons ?_ (.nil _)⟩
        exact txFz rfl
    refine S_dead ?_ ⟨_, _, .inl rfl⟩
    have hPS : ∀ s : Nm, Calc cx 45 [.sl true false 1 (texts P), .str s] (.bool (decide (s ∈ P))) := fun s => ContainsS_ok P s (by omega)
    have htkz : ∀ i, ∀ q ∈ tkG P l i, q.length ≤ 1000000000000 := fun i q hq => by
      rcases List.mem_append.1 hq with hq | hq
      · exact hPz q hq
      · obtain ⟨t, ht, hq⟩ := List.mem_flatMap.1 hq
        have := (hy.sz t (List.mem_of_mem_take ht)).2.2.2.2 q hq
        omega
    have ht0 : tkG P l 0 = P := by simp [tkG]
    refine S_while (α := (Nat × Nat × Option Box) × Nat × Option Box) (fun s => [(0, .sl st' fl 5 (tgs st l)), (7, .map 0 0), (9, .ms 1 (tkG P l s.1.1).length 0 (tkG P l s.1.1).length 1 false), (12, .sl true false 1 (texts P)), (48, .sl st' fl 5 (tgs st l)), (49, .int .i64 ((tgs st l).length : Nat)), (50, .int .i64 (s.1.1 : Nat))])
      (fun s => [(0, nmM st l), ((tkG P l s.1.1).length, some (.cells (texts (tkG P l s.1.1)) ⟨false, none⟩)), (s.1.2.1, s.1.2.2), (s.2.1, s.2.2)]) (fun s => s.1.1 ≤ l.length ∧ ckG P P l = ckG P (tkG P l s.1.1) (l.drop s.1.1) ∧ (tkG P l s.1.1).length ≤ 60 + 60 * s.1.1) (fun s => l.length - s.1.1) ((0, P.length, none), 0, none)
      ⟨Nat.zero_le _, by rw [ht0]; rfl, by rw [ht0, hPl]; omega⟩ (.cons rfl (.cons rfl (.cons (by show AV.ms 1 P.length 0 P.length 1 false = .ms 1 (tkG P l 0).length 0 (tkG P l 0).length 1 false; rw [ht0]) (.cons rfl (.cons rfl (.cons rfl (.cons rfl (.nil _)))))))) (by
        show [(0, nmM st l), (P.length, some (Box.cells (texts P) ⟨false, none⟩)), (P.length, none), (0, none)] = [(0, nmM st l), ((tkG P l 0).length, some (.cells (texts (tkG P l 0)) ⟨false, none⟩)), _, _]
        rw [ht0]) ?_
    rintro ⟨⟨i, v, y2⟩, w, y3⟩ ⟨hi, hck, htl⟩
    simp only at hi hck htl
    refine S_drop (id := 2) rfl ?_ ⟨_, _, .inl rfl⟩
    refine S_drop (id := 3) rfl ?_ ⟨_, _, .inl rfl⟩
    by_cases hlt : i < l.length
    · have c1 := hil i hlt
      have c2 := hget i hlt
      rw [ck_next hlt] at hck
      obtain ⟨z1, z2, z3, z4, z5⟩ := hy.sz _ (List.getElem_mem hlt)
      have hn := hz.nm _ (List.getElem_mem hlt)
      have htn := tk_next (P := P) hlt
      have htz := htkz i
      obtain ⟨tk, htk⟩ : ∃ tk, tk = tkG P l i := ⟨_, rfl⟩
      rw [← htk] at hck htl htn htz
      obtain ⟨t, ht⟩ : ∃ t, t = l[i] := ⟨_, rfl⟩
      rw [← ht] at hck z1 z2 z3 z4 z5 hn htn c2
      have ls1 := texts_len t.srcs
      have ls2 := texts_len t.outs
      have ls3 := texts_len t.cmd
      have hfault : ∀ {e : Nat}, ftG P tk t = e → e ≠ 0 → chE fs l = (t.name, e) := fun {e} h h' => hce (x := (t.name, e)) h' (by rw [hck, h, if_pos h'])
      refine S_heap [(0, nmM st l), (tk.length, some (.cells (texts tk) ⟨false, none⟩)), (v, none), (w, none)] (by rw [htk]; rfl) ?_
      refine pB [.b true, .v (tgA st t)] rfl ?_
      refine S_while (α := Nat) (fun k => [(0, .sl st' fl 5 (tgs st l)), (7, .map 0 0), (9, .ms 1 tk.length 0 tk.length 1 false), (12, .sl true false 1 (texts P)), (48, .sl st' fl 5 (tgs st l)), (49, .int .i64 ((tgs st l).length : Nat)), (50, .int .i64 (i : Nat)), (14, .ptr 2 (v + 1) 0), (55, lsA st t.srcs), (56, .int .i64 ((texts t.srcs).length : Nat)), (57, .int .i64 (k : Nat))])
        (fun k => [(0, nmM st l), (tk.length, some (.cells (texts tk) ⟨false, none⟩)), tgBx st (v + 1) t, (w, none)]) (fun k => k ≤ t.srcs.length ∧ ∀ s ∈ t.srcs.take k, s ∈ P) (fun k => t.srcs.length - k) 0 ⟨Nat.zero_le _, fun s hs => by cases hs⟩ (.cons rfl (.cons rfl (.cons (by rw [htk]; rfl) (.cons rfl (.cons rfl (.cons rfl (.cons rfl (.cons rfl (.cons rfl (.cons rfl (.cons rfl (.nil _)))))))))))) rfl ?_
      rintro k ⟨hk, hsk⟩
      by_cases hkl : k < t.srcs.length
      · have d1 : decide ((k : Int) < (((texts t.srcs).length : Nat) : Int)) = true := decide_eq_true (by omega)
        have d2 : (texts t.srcs)[(k : Int).toNat]? = some (.str t.srcs[k]) := by rw [Int.toNat_natCast]; exact texts_get hkl
        have hS := hPS t.srcs[k]
        have hpa : ∀ (σ : Heap) (s : Nm), Frzs σ [.sl true false 1 (texts P), .str s] [.sl true false 1 (texts P), .str s] := fun σ s => .cons (.refl (.sl (fun h => by cases h) (texts_any P))) (.cons (.refl .str) (.nil _))
        by_cases hm : t.srcs[k] ∈ P
        · rw [decide_eq_true hm] at hS
          refine pa [.b true, .v (.str t.srcs[k]), .v (.bool true), .b false] rfl ?_ ?_
          · (repeat' with_reducible apply AllP_cons) <;> try exact aC
            · exact ⟨_, hS, hpa _ _⟩
          refine S_round (k + 1) (by show t.srcs.length - (k + 1) < t.srcs.length - k; omega) ⟨hkl, fun s hs => ?_⟩ (.cons rfl (.cons rfl (.cons rfl (.cons rfl (.cons rfl (.cons rfl (.cons rfl (.cons rfl (.cons rfl (.cons rfl (.cons (ai64 (by omega) (by omega)) (.nil _)))))))))))) rfl
          rw [List.take_succ_eq_append_getElem hkl] at hs
          rcases List.mem_append.1 hs with hs | hs
          · exact hsk s hs
          · rw [List.mem_singleton.1 hs]; exact hm
        · rw [decide_eq_false hm] at hS
          rw [hfault (ft_src hkl hm) (by decide)]
          refine pa [.b true, .v (.str t.srcs[k]), .v (.bool false), .b true] rfl ?_ ?_
          · (repeat' with_reducible apply AllP_cons) <;> try exact aC
            · exact ⟨_, hS, hpa _ _⟩
          exact S_ret ⟨_, _, rfl, trivial, _, rfl, .refl hrt⟩
      · have hk : k ≤ t.srcs.length := hk
        have hke : k = t.srcs.length := by omega
        have d1 : decide ((k : Int) < (((texts t.srcs).length : Nat) : Int)) = false := decide_eq_false (by omega)
        rw [hke, List.take_length] at hsk
        clear hkl
        have hCF : ∀ σ, CallOk cx 40 [.sl st false 1 (texts t.outs), .func (.func 46) [] []] σ (fun e s => e = .ret (.bool (t.outs.any fun p => !isPathB p)) ∧ s = σ) := fun σ =>
          ContainsFuncK_ok (st := st) (fl := false) 46 [] σ (fun p => !isPathB p) t.outs (fun p hp => Check1_ok σ p (z5 p hp)) (by omega)
        cases hb : t.outs.any fun p => !isPathB p with
        | true =>
          rw [hb] at hCF
          obtain ⟨p, hp1, hp2⟩ := List.any_eq_true.1 hb
          rw [hfault (ft_path hsk (List.all_eq_false.2 ⟨p, hp1, by simpa using hp2⟩)) (by decide)]
          refine pa [.b false, .k (.bool true), .b true] rfl ?_ ?_
          · (repeat' with_reducible apply AllP_cons) <;> try exact aC
            · exact hCF _
          exact S_ret ⟨_, _, rfl, trivial, _, rfl, .refl hrt⟩
        | false =>
          rw [hb] at hCF
          have hall : t.outs.all isPathB = true := List.all_eq_true.2 fun p hp => by
            have := List.any_eq_false.1 hb p hp
            simpa using this
          by_cases h6 : 60 < t.srcs.length ∨ 60 < t.outs.length ∨ 60 < t.cmd.length
          · rw [hfault (ft_many hsk hall h6) (by decide)]
            refine pa [.b false, .k (.bool false), .b false, .b true] rfl ?_ ?_
            · (repeat' with_reducible apply AllP_cons) <;> try exact aC
              · exact hCF _
            exact S_ret ⟨_, _, rfl, trivial, _, rfl, .refl hrt⟩
          have hft := ft_out (tk := tk) hsk hall h6
          have hol : t.outs.length ≤ 60 := by omega
          refine pa [.b false, .k (.bool false), .b false, .b false] rfl ?_ ?_
          · (repeat' with_reducible apply AllP_cons) <;> try exact aC
            · exact hCF _
          have hom : ∀ k, (tk ++ t.outs.take k).length ≤ 4000 := fun k => by rw [List.length_append, List.length_take]; omega
          have hoz : ∀ k, ∀ q ∈ tk ++ t.outs.take k, q.length ≤ 1000000000000 := fun k q hq => by
            rcases List.mem_append.1 hq with hq | hq
            · exact htz q hq
            · have := z5 q (List.mem_of_mem_take hq); omega
          refine S_while (α := Nat × Nat × Option Box) (fun s => [(0, .sl st' fl 5 (tgs st l)), (7, .map 0 0), (9, .ms 1 (tk ++ t.outs.take s.1).length 0 (tk ++ t.outs.take s.1).length 1 false), (12, .sl true false 1 (texts P)), (48, .sl st' fl 5 (tgs st l)), (49, .int .i64 ((tgs st l).length : Nat)), (50, .int .i64 (i : Nat)), (14, .ptr 2 (v + 1) 0), (87, lsA st t.outs), (88, .int .i64 ((texts t.outs).length : Nat)), (89, .int .i64 (s.1 : Nat))])
            (fun s => [(0, nmM st l), ((tk ++ t.outs.take s.1).length, some (.cells (texts (tk ++ t.outs.take s.1)) ⟨false, none⟩)), tgBx st (v + 1) t, (s.2.1, s.2.2)]) (fun s => s.1 ≤ t.outs.length ∧ outF tk t.outs = outF (tk ++ t.outs.take s.1) (t.outs.drop s.1)) (fun s => t.outs.length - s.1) (0, w, none) ⟨Nat.zero_le _, by simp⟩
            (.cons rfl (.cons rfl (.cons (by show AV.ms 1 tk.length 0 tk.length 1 false = .ms 1 (tk ++ t.outs.take 0).length 0 (tk ++ t.outs.take 0).length 1 false; rw [List.take_zero, List.append_nil]) (.cons rfl (.cons rfl (.cons rfl (.cons rfl (.cons rfl (.cons rfl (.cons rfl (.cons rfl (.nil _)))))))))))) (by
              show [(0, nmM st l), (tk.length, some (Box.cells (texts tk) ⟨false, none⟩)), tgBx st (v + 1) t, (w, none)] = [(0, nmM st l), ((tk ++ t.outs.take 0).length, some (.cells (texts (tk ++ t.outs.take 0)) ⟨false, none⟩)), _, _]
              rw [List.take_zero, List.append_nil]) ?_
          rintro ⟨k, u, y⟩ ⟨hk, hou⟩
          simp only at hk hou
          refine S_drop (id := 3) rfl ?_ ⟨_, _, .inl rfl⟩
          by_cases hkl : k < t.outs.length
          · have d1 : decide ((k : Int) < (((texts t.outs).length : Nat) : Int)) = true := decide_eq_true (by omega)
            have d2 : (texts t.outs)[(k : Int).toNat]? = some (.str t.outs[k]) := by rw [Int.toNat_natCast]; exact texts_get hkl
            rw [out_next hkl] at hou
            have hzo := z5 _ (List.getElem_mem hkl)
            have htk2 : tk ++ t.outs.take (k + 1) = tk ++ t.outs.take k ++ [t.outs[k]] := by rw [List.take_succ_eq_append_getElem hkl, List.append_assoc]
            have hmk := hom k
            have hzk := hoz k
            rw [htk2] at hou
            generalize htt : tk ++ t.outs.take k = tt at *
            generalize t.outs[k] = o at *
            have hM := ContainsFuncM_ok (0, nmM st l) tt.length tt (tgBx st (v + 1) t) (u + 1) o (by omega) hzk (by omega)
            cases hb2 : tt.any fun q => meetT q o with
            | true =>
              rw [hb2] at hM hou
              rw [hfault (e := 6) (by rw [hft, if_pos (by rw [hou]; rfl)]) (by decide)]
              refine pB [.b true, .v (.str o), .k (.bool true), .b true] rfl ?_
              exact S_ret ⟨_, _, rfl, trivial, _, rfl, .refl hrt⟩
            | false =>
              rw [hb2] at hM hou
              have hel : (tt ++ [o]).length = tt.length + 1 := by rw [List.length_append]; rfl
              have hte : texts (tt ++ [o]) = texts tt ++ [.str o] := by simp [texts]
              have htt3 := texts_len tt
              refine pa [.b true, .v (.str o), .k (.bool false), .b false] rfl ?_ ?_
              · (repeat' with_reducible apply AllP_cons) <;> try exact aC
                · show 0 + tt.length * 1 = (texts tt).length
                  omega
                · show (tt.length + 1) * 16 ≤ 140737488355328
                  omega
              refine S_round (k + 1, u + 1, some (.cells [.str o] ⟨false, none⟩)) (by show t.outs.length - (k + 1) < t.outs.length - k; omega) ⟨hkl, by show _ = outF (tk ++ t.outs.take (k + 1)) _; rw [htk2]; exact hou⟩
                (.cons rfl (.cons rfl (.cons (by show AV.ms 1 (tt.length + 1) 0 (tt.length + 1) 1 false = .ms 1 (tk ++ t.outs.take (k + 1)).length 0 (tk ++ t.outs.take (k + 1)).length 1 false; rw [htk2, hel]) (.cons rfl (.cons rfl (.cons rfl (.cons rfl (.cons rfl (.cons rfl (.cons rfl (.cons (ai64 (by omega) (by omega)) (.nil _)))))))))))) ?_
              show [(0, nmM st l), (tt.length + 1, some (Box.cells (texts tt ++ [.str o]) ⟨false, none⟩)), tgBx st (v + 1) t, _] = [(0, nmM st l), ((tk ++ t.outs.take (k + 1)).length, some (.cells (texts (tk ++ t.outs.take (k + 1))) ⟨false, none⟩)), tgBx st (v + 1) t, _]
              rw [htk2, hel, hte]
              rfl
          · have hke : k = t.outs.length := by omega
            have d1 : decide ((k : Int) < (((texts t.outs).length : Nat) : Int)) = false := decide_eq_false (by omega)
            have hou : outF tk t.outs = false := by rw [hou, hke, List.drop_length]; rfl
            rw [hft, if_neg (by rw [hou]; simp)] at hck
            refine pB [.b false] rfl ?_
            have hto : tk ++ t.outs.take k = tkG P l (i + 1) := by rw [htn, hke, List.take_length, htk]
            refine S_round ((i + 1, v + 1, (tgBx st (v + 1) t).2), u, none) (by show l.length - (i + 1) < l.length - i; omega) ⟨hlt, by show _ = ckG P (tkG P l (i + 1)) _; rw [hck, htn, htk], by show (tkG P l (i + 1)).length ≤ 60 + 60 * (i + 1); rw [htn, List.length_append]; omega⟩
              (.cons rfl (.cons rfl (.cons (by show AV.ms 1 (tk ++ t.outs.take k).length 0 (tk ++ t.outs.take k).length 1 false = .ms 1 (tkG P l (i + 1)).length 0 (tkG P l (i + 1)).length 1 false; rw [hto]) (.cons rfl (.cons rfl (.cons rfl (.cons (nX (by omega)) (.nil _)))))))) ?_
            show [(0, nmM st l), ((tk ++ t.outs.take k).length, some (Box.cells (texts (tk ++ t.outs.take k)) ⟨false, none⟩)), tgBx st (v + 1) t, (u, none)] = [(0, nmM st l), ((tkG P l (i + 1)).length, some (.cells (texts (tkG P l (i + 1))) ⟨false, none⟩)), _, _]
            rw [hto]
            rfl
    · have hie : i = l.length := by omega
      have c1 : decide ((i : Int) < (((tgs st l).length : Nat) : Int)) = false := decide_eq_false (by omega)
      rw [hie, List.drop_length] at hck
      have hce := hce0 (by rw [hck]; rfl)
      refine S_drop (id := 1) rfl ?_ ⟨_, _, .inl rfl⟩
      generalize hN : (tkG P l i).length = n at *
      refine S_heap [(0, nmM st l), (n, none), (v, none), (w, none)] rfl ?_
      have hall := CallOk.frameR (ι := List Nm) (I := fun ps => ps.Perm (nmsG l)) (x := fun _ => .map 1 0) (σs' := fun ps => [(0, mapBx (nmsG l) (ndV st (ndT l))), (0, inBx ps)]) (σ := [(0, nmM st l), (n, none), (v, none), (w, none)]) (es := fun ps => [(0, nmM st l), (0, inBx ps)]) (args' := [.map 0 0]) (x' := fun _ => .map 4 0) [0] (all_ok st 0 (nmsG l) (ndT l) hok.nd) (.cons (.map rfl) (.nil _))
        ⟨by decide, (fun j hj => by rw [List.mem_singleton.1 hj]; exact Nat.lt_of_lt_of_eq (by decide) (rfl : 4 = _)), rfl, (fun i j e hi he => by
          match i, hi, he with
          | 0, hi, he => cases hi; cases he; exact ⟨_, rfl, .live (us_rn ..)⟩
          | i + 1, hi, he => cases hi)⟩ (fun ps _ => .cons (.live (us_rn ..)) (.cons (.live (in_rn ..)) (.nil _))) (fun _ _ => .map rfl)
      have hput : ∀ ps : List Nm, putAll [(0, nmM st l), (n, none), (v, none), (w, none)] [0] [(0, nmM st l), (0, inBx ps)] = [(0, nmM st l), (n, none), (v, none), (w, none), (0, inBx ps)] := fun _ => rfl
      refine pB [.b false] rfl ?_
      refine S_call rfl rfl rfl hall (fun v' σ' hv => ?_) (fun v' σ' hv => ?_)
      case _ =>
        obtain ⟨ps, hp, h2, h3⟩ := hv
        cases h2; subst h3
        rw [hput]
        have hps : ps.length = l.length := by rw [hp.length_eq, nms_len]
        have ho := order_ok st 0 0 (nmsG l) ps (ndT l) hok.nd (hp.nodup_iff.2 hok.nd) (fun n hn => hp.mem_iff.1 hn) (fun n hn k hk => hp.mem_iff.2 (hok.ndT n (hp.mem_iff.1 hn) k hk)) (by rw [nms_len]; omega) hz.ndT
        rw [ordG_perm hp, hp.length_eq, show ordG (ndT l) (nmsG l) (nmsG l).length [] = ordL l from rfl, nms_len] at ho
        have ho2 := CallOk.frame (σ := [(0, nmM st l), (n, none), (v, none), (w, none), (0, inBx ps)]) (es := [(0, nmM st l), (0, inBx ps)]) (args' := [.map 0 0, .map 4 0]) (x' := .tup [.sl true false 1 (texts (ordL l)), .bool (decide ((ordL l).length = l.length))]) [0, 4] ho (.cons (.map rfl) (.cons (.map rfl) (.nil _)))
          ⟨by decide, (fun j hj => by
            rcases List.mem_cons.1 hj with rfl | hj
            · exact Nat.lt_of_lt_of_eq (by decide) (rfl : 5 = _)
            · rw [List.mem_singleton.1 hj]; exact Nat.lt_of_lt_of_eq (by decide) (rfl : 5 = _)), rfl, (fun i j e hi he => by
            match i, hi, he with
            | 0, hi, he => cases hi; cases he; exact ⟨_, rfl, .live (us_rn ..)⟩
            | 1, hi, he => cases hi; cases he; exact ⟨_, rfl, .live (in_rn ..)⟩
            | i + 2, hi, he => cases hi)⟩ (.cons (.live (us_rn ..)) (.cons (.live (in_rn ..)) (.nil _))) (.free (.tup (fun a ha => by rcases List.mem_cons.1 ha with rfl | ha; exact .sl (fun h => by cases h) (texts_any _); rw [List.mem_singleton.1 ha]; exact .bool)))
        have hput2 : putAll [(0, nmM st l), (n, none), (v, none), (w, none), (0, inBx ps)] [0, 4] [(0, nmM st l), (0, inBx ps)] = [(0, nmM st l), (n, none), (v, none), (w, none), (0, inBx ps)] := rfl
        rw [hput2] at ho2
        have hoe : oE l = if (ordL l).length = l.length then 0 else 10 := by unfold oE; rw [if_pos h1]
        rw [hoe] at hce
        by_cases hd : (ordL l).length = l.length
        · rw [decide_eq_true hd] at ho2
          rw [if_pos hd] at hce
          rw [hce]
          refine pB [.k (.tup [.sl true false 1 (texts (ordL l)), .bool true]), .b false] rfl ?_
          exact S_ret ⟨_, _, rfl, trivial, _, rfl, .refl hrt⟩
        · rw [decide_eq_false hd] at ho2
          rw [if_neg hd] at hce
          rw [hce]
          refine pB [.k (.tup [.sl true false 1 (texts (ordL l)), .bool false]), .b true] rfl ?_
          exact S_ret ⟨_, _, rfl, trivial, _, rfl, .refl hrt⟩
      case _ =>
        obtain ⟨ps, hp, h2, h3⟩ := hv
        cases h2
end Go.Proofs.YtnfalbdnkgaelaaDoor
end
section
set_option linter.unusedVariables false
set_option linter.unusedSimpArgs false
set_option maxRecDepth 20000
namespace Go.Proofs.YtnfalbdnkgaelaaDoor
open Go Go.Ab
theorem open_file {H : Type} {d : DataW H} {a : AV} (h : RdD Tryd.prog 73 d a) : ∃ f : Fil, a = filA f := by
  obtain ⟨ds, xs, rfl, rfl, hall⟩ := h.inv_st Tryd.underlying73
  obtain ⟨d0, ds, x0, xs, rfl, rfl, h0, hall⟩ := hall.cons
  obtain ⟨d1, ds, x1, xs, rfl, rfl, h1, hall⟩ := hall.cons
  obtain ⟨d2, ds, x2, xs, rfl, rfl, h2, hall⟩ := hall.cons
  obtain ⟨rfl, rfl⟩ := hall.nil
  obtain ⟨s0, rfl, rfl, _⟩ := h0.inv_str Tryd.underlying9
  obtain ⟨s1, rfl, rfl, _⟩ := h1.inv_str Tryd.underlying9
  obtain ⟨b, rfl, rfl⟩ := h2.inv_bool Tryd.underlying4
  exact ⟨⟨s0, s1, b⟩, rfl⟩
theorem open_F {H : Type} {d : DataW H} {a : AV} (h : RdD Tryd.prog 49 d a) : ∃ l : List Fil, a = .sl true false 3 (fils l) := by
  obtain ⟨ds, xs, rfl, hl, hm, hall, _⟩ := h.inv_sl Tryd.underlying49
  obtain ⟨ys, rfl, hy, hg⟩ := RdD.each filA (fun _ _ => True) hl hall (fun d x h => by
    obtain ⟨f, rfl⟩ := open_file h
    exact ⟨f, rfl, trivial⟩)
  have hc : Tryd.prog.cellsOf 73 = 3 := by kernel_rfl
  exact ⟨ys, by rw [hc]; rfl⟩
end Go.Proofs.YtnfalbdnkgaelaaDoor
end
section
set_option linter.unusedVariables false
set_option linter.unusedSimpArgs false
set_option maxRecDepth 20000
set_option maxHeartbeats 1000000
namespace Go.Proofs.YtnfalbdnkgaelaaDoor
open Go Go.Ab
theorem GrCheck_ok (st st' fl st2 fl2 : Bool) (l : List Tg) (fs : List Fil) (hl : l.length ≤ 1000000000) (hz : TgSz l) (hy : TgZ l) (hf : FilsOk fs) :
    Calc cx 29 [.sl st' fl 5 (tgs st l), .sl st2 fl2 3 (fils fs)] (.tup [.str (chE fs l).1, .int .i64 ((chE fs l).2 : Nat)]) := by
  by_cases h0 : chkT fs = 0
  · by_cases h1 : nmE l = 0
    · exact Checks_ok st st' fl st2 fl2 l fs hl hz hy hf h0 h1
    · have := CheckE_ok st st' fl st2 fl2 l fs hl hz hf h0 h1
      have he : chE fs l = ([], nmE l) := by unfold chE; rw [if_neg (by simpa using h0), if_pos h1]
      rw [he]; exact this
  · have hC := Check_ok (st := st2) (fl := fl2) fs hf
    have he : chE fs l = ([], chkT fs) := by unfold chE; rw [if_pos h0]
    rw [he]
    have hne := i64_ne h0
    have hrt : ∀ {n : Nm} {e : Nat}, Free true (.tup [.str n, .int .i64 (e : Nat)]) := fun {n e} => .tup (fun a ha => by rcases List.mem_cons.1 ha with rfl | ha; exact .str; rw [List.mem_singleton.1 ha]; exact .int)
    exact pure_intro (fun a w => Tryd.call29 a w) Tryd.func29 rfl Tryd.ntmps29 rfl hrt fun B => by
      refine pa [.v (.int .i64 (chkT fs : Nat)), .b true] rfl ?_ ?_
      · (repeat' with_reducible apply AllP_cons) <;> try exact aC
        · exact ⟨_, hC, .cons (.refl (.sl (fun h => by cases h) (fils_free fs))) (.nil _)⟩
      exact S_ret ⟨_, _, rfl, trivial, _, rfl, .refl hrt⟩
theorem GraphChecks_ok (l : List Tg) (fs : List Fil) (hk : avB (.sl true false 5 (tgs true l)) ≤ 1048576) (hf : avB (.sl true false 3 (fils fs)) ≤ 1048576) : Calc cx 8 [.sl true false 5 (tgs true l), .sl true false 3 (fils fs)] (.bool true) :=
  pure_intro (fun a w => Tryd.call8 a w) Tryd.func8 rfl Tryd.ntmps8 rfl .bool fun B => by
    obtain ⟨hl, hz⟩ := tgSz_of hk
    obtain ⟨_, h2⟩ := tg_of hk
    have hy : TgZ l := ⟨fun t ht => by obtain ⟨_, _, a, b, c, d, e⟩ := h2 t ht; exact ⟨a, b, c, d, e⟩⟩
    have hff := fils_of hf
    have hC := GrCheck_ok true true false true false l fs hl hz hy hff
    have hR := CheckGraph_ok true true false true false l fs hl hz hy hff
    have harg : ∀ σ : Heap, Frzs σ [.sl true false 5 (tgs true l), .sl true false 3 (fils fs)] [.sl true false 5 (tgs true l), .sl true false 3 (fils fs)] := fun σ => .cons (tgs_arg ..) (.cons (.refl (.sl (fun h => by cases h) (fils_free fs))) (.nil _))
    generalize chE fs l = x at *
    have e1 : (x.1 == x.1) = true := by simp
    have e2 : ((x.2 : Int) == (x.2 : Int)) = true := by simp
    refine pa [.v (.tup [.str x.1, .int .i64 (x.2 : Nat)]), .v (.tup [.str x.1, .int .i64 (x.2 : Nat)]), .v (.bool true), .b true, .b true] rfl ?_ ?_
    · (repeat' with_reducible apply AllP_cons) <;> try exact aC
      · exact ⟨_, hC, harg _⟩
      · exact ⟨_, hR, harg _⟩
      · exact begun_ok
    refine S_retc .bool rfl trivial ?_
    show AV.bool ((x.2 : Int) == (x.2 : Int)) = _
    rw [e2]
end Go.Proofs.YtnfalbdnkgaelaaDoor
end
section
set_option linter.unusedVariables false
set_option linter.unusedSimpArgs false
set_option maxRecDepth 20000
namespace Go.Proofs.YtnfalbdnkgaelaaDoor
open Go Go.Ab
theorem open_l {H : Type} {d : DataW H} {a : AV} (h : RdD Tryd.prog 23 d a) : ∃ l : List (List UInt8), a = .sl true false 1 (texts l) := by
  obtain ⟨ds, xs, rfl, hl, hm, hall, _⟩ := h.inv_sl Tryd.underlying23
  obtain ⟨ys, rfl, hy, hg⟩ := RdD.each AV.str (fun _ _ => True) hl hall (fun d x h => by
    obtain ⟨s, _, rfl, _⟩ := h.inv_str Tryd.underlying9
    exact ⟨s, rfl, trivial⟩)
  have hc : Tryd.prog.cellsOf 9 = 1 := by kernel_rfl
  exact ⟨ys, by rw [hc]; rfl⟩
end Go.Proofs.YtnfalbdnkgaelaaDoor
end
section
set_option linter.unusedVariables false
set_option linter.unusedSimpArgs false
set_option maxRecDepth 20000
namespace Go.Proofs.YtnfalbdnkgaelaaDoor
open Go Go.Ab
theorem open_tg {H : Type} {d : DataW H} {a : AV} (h : RdD Tryd.prog 44 d a) : ∃ f : Tg, a = tgA true f := by
  obtain ⟨ds, xs, rfl, rfl, hall⟩ := h.inv_st Tryd.underlying44
  obtain ⟨d0, ds, x0, xs, rfl, rfl, h0, hall⟩ := hall.cons
  obtain ⟨d1, ds, x1, xs, rfl, rfl, h1, hall⟩ := hall.cons
  obtain ⟨d2, ds, x2, xs, rfl, rfl, h2, hall⟩ := hall.cons
  obtain ⟨d3, ds, x3, xs, rfl, rfl, h3, hall⟩ := hall.cons
  obtain ⟨d4, ds, x4, xs, rfl, rfl, h4, hall⟩ := hall.cons
  obtain ⟨rfl, rfl⟩ := hall.nil
  obtain ⟨s0, rfl, rfl, _⟩ := h0.inv_str Tryd.underlying9
  obtain ⟨l1, rfl⟩ := open_l h1
  obtain ⟨l2, rfl⟩ := open_l h2
  obtain ⟨l3, rfl⟩ := open_l h3
  obtain ⟨l4, rfl⟩ := open_l h4
  exact ⟨⟨s0, l1, l2, l3, l4⟩, rfl⟩
theorem open_T {H : Type} {d : DataW H} {a : AV} (h : RdD Tryd.prog 22 d a) : ∃ l : List Tg, a = .sl true false 5 (tgs true l) := by
  obtain ⟨ds, xs, rfl, hl, hm, hall, _⟩ := h.inv_sl Tryd.underlying22
  obtain ⟨ys, rfl, hy, hg⟩ := RdD.each (tgA true) (fun _ _ => True) hl hall (fun d x h => by
    obtain ⟨f, rfl⟩ := open_tg h
    exact ⟨f, rfl, trivial⟩)
  have hc : Tryd.prog.cellsOf 44 = 5 := by kernel_rfl
  exact ⟨ys, by rw [hc]; rfl⟩
end Go.Proofs.YtnfalbdnkgaelaaDoor
end
