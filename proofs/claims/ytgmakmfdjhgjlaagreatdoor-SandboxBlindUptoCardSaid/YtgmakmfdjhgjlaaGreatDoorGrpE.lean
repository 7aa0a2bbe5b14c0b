/-
  Texts of our own, in one file.
-/
import Derived.Test.YtgmakmfdjhgjlaaGreatDoorGrpD
import Derived.RangeFuncLeaves
import Derived.RangeFuncGives
import Derived.OwnWalkIn
import Derived.Below
section
set_option linter.unusedVariables false
set_option linter.unusedSimpArgs false
set_option maxRecDepth 20000
set_option maxHeartbeats 4000000
namespace Go.Proofs.YtgmakmfdjhgjlaaGreatDoor
open Go Go.Ab
theorem IndexFuncP_ok {st fl : Bool} (g : FuncId) (P : List UInt8 → Bool) (l : List (List UInt8)) (hg : ∀ s ∈ l, Calc cx g ([] ++ [.str s] ++ []) (.bool (P s))) (hl : l.length ≤ 1000000000000) : Calc cx 73 [.sl st fl 1 (texts l), .func (.func g) [] []] (.int .i64 (match l.findIdx? P with | some i => (i : Int) | none => -1)) :=
  pure_intro (fun a w => Tryz.call73 a w) Tryz.func73 rfl Tryz.ntmps73 rfl .int fun B => by
    have htl : (texts l).length = l.length := by simp [texts]
    refine pB [] rfl ?_
    refine S_while (α := Nat) (fun i => [(0, .sl st fl 1 (texts l)), (1, .func (.func g) [] []), (7, .int .i64 (((texts l).length : Nat) : Int)), (8, .int .i64 (i : Nat))]) (fun _ => []) (fun i => i ≤ l.length ∧ ∀ k (hk : k < l.length), k < i → P l[k] = false) (fun i => l.length - i) 0
      ⟨Nat.zero_le _, fun k hk h => absurd h (Nat.not_lt_zero _)⟩ (.cons rfl (.cons rfl (.cons rfl (.cons rfl (.nil _))))) rfl ?_
    rintro i ⟨hi, hN⟩
    have hi : i ≤ l.length := hi
    by_cases hlt : i < l.length
    · have e1 : decide ((i : Int) < (((texts l).length : Nat) : Int)) = true := decide_eq_true (by omega)
      have g1 : (texts l)[(i : Int).toNat]? = some (.str l[i]) := by rw [Int.toNat_natCast]; simp [texts, List.getElem?_eq_getElem hlt]
      have hF := hg l[i] (List.getElem_mem hlt)
      cases hb : P l[i] with
      | true =>
        rw [hb] at hF
        refine pa [.b true, .v (.str l[i]), .v (.bool true), .b true] rfl ?_ ?_
        · (repeat' with_reducible apply AllP_cons) <;> try exact aC
          · exact ⟨_, hF, .cons (.refl .str) (.nil _)⟩
        refine S_retc .int rfl trivial ?_
        have : l.findIdx? P = some i := by
          rw [List.findIdx?_eq_some_iff_getElem]
          exact ⟨hlt, by simpa using hb, fun j hj => by have := hN j (by omega) hj; simpa using this⟩
        rw [this]; rfl
      | false =>
        rw [hb] at hF
        refine pa [.b true, .v (.str l[i]), .v (.bool false), .b false] rfl ?_ ?_
        · (repeat' with_reducible apply AllP_cons) <;> try exact aC
          · exact ⟨_, hF, .cons (.refl .str) (.nil _)⟩
        refine S_round (i + 1) (by show l.length - (i + 1) < l.length - i; omega) ⟨hlt, fun k hk h => ?_⟩ (.cons rfl (.cons rfl (.cons rfl (.cons (nX (by omega)) (.nil _))))) rfl
        have h : k < i + 1 := h
        by_cases hki : k < i
        · exact hN k hk hki
        · have : k = i := by omega
          subst this; exact hb
    · have e1 : decide ((i : Int) < (((texts l).length : Nat) : Int)) = false := decide_eq_false (by omega)
      refine pB [.b false] rfl ?_
      refine S_retc .int rfl trivial ?_
      have : l.findIdx? P = none := by
        rw [List.findIdx?_eq_none_iff]
        intro x hx
        obtain ⟨k, hk, rfl⟩ := List.getElem_of_mem hx
        have := hN k hk (by omega)
        simpa using this
      rw [this]; rfl
theorem ContainsFuncP_ok {st fl : Bool} (g : FuncId) (P : List UInt8 → Bool) (l : List (List UInt8)) (hg : ∀ s ∈ l, Calc cx g ([] ++ [.str s] ++ []) (.bool (P s))) (hl : l.length ≤ 1000000000000) : Calc cx 34 [.sl st fl 1 (texts l), .func (.func g) [] []] (.bool (l.any P)) :=
  pure_intro (fun a w => Tryz.call34 a w) Tryz.func34 rfl Tryz.ntmps34 rfl .bool fun B => by
    have hI := IndexFuncP_ok (st := st) (fl := fl) g P l hg hl
    refine pa [.v (.int .i64 (match l.findIdx? P with | some i => (i : Int) | none => -1))] rfl ?_ ?_
    · (repeat' with_reducible apply AllP_cons) <;> try exact aC
      · exact ⟨_, hI, .cons (.refl (.sl (fun h => by cases h) (texts_any l))) (.cons (.refl (.func (fun x h => by cases h) (fun x h => by cases h))) (.nil _))⟩
    refine S_retc .bool rfl trivial ?_
    show AV.bool (decide ((match l.findIdx? P with | some i => (i : Int) | none => -1) ≥ 0)) = _
    congr 1
    cases h : l.findIdx? P with
    | none =>
      rw [List.findIdx?_eq_none_iff] at h
      rw [List.any_eq_false.2 (fun x hx => by have := h x hx; rw [this]; simp)]; rfl
    | some i =>
      rw [List.findIdx?_eq_some_iff_getElem] at h
      obtain ⟨h1, h2, _⟩ := h
      rw [List.any_eq_true.2 ⟨_, List.getElem_mem h1, h2⟩]
      show decide ((i : Int) ≥ 0) = true
      exact decide_eq_true (by omega)
theorem prog1_ok (s : List UInt8) : Calc cx 35 [.str s] (.bool (decide (100000 < s.length))) :=
  pure_intro (fun a w => Tryz.call35 a w) Tryz.func35 rfl Tryz.ntmps35 rfl .bool fun B => by
    refine pB [] rfl ?_
    refine S_retc .bool rfl trivial ?_
    show AV.bool (decide ((s.length : Int) > 100000)) = _
    congr 1
    rw [decide_eq_decide]; omega
def lns (l : List Ln) : List AV := l.map lnA
def lnCs (l : List Ln) : List AV := l.flatMap lnC
theorem lns_free {st : Bool} (l : List Ln) : ∀ x ∈ lns l, Free st x := by
  intro x hx
  obtain ⟨y, _, rfl⟩ := List.mem_map.1 hx
  exact lnA_free y
theorem lns_flat (l : List Ln) : (lns l).flatMap AV.cells = lnCs l := by
  unfold lns lnCs
  rw [List.flatMap_map]
  rfl
theorem lnCs_len (l : List Ln) : (lnCs l).length = l.length * 3 := by
  induction l with
  | nil => rfl
  | cons x r ih => unfold lnCs at *; rw [List.flatMap_cons, List.length_append, ih, List.length_cons]; show 3 + r.length * 3 = _; omega
theorem lns_size (l : List Ln) : ∀ x ∈ lns l, (AV.cells x).length = 3 := by
  intro x hx
  obtain ⟨y, _, rfl⟩ := List.mem_map.1 hx
  rfl
theorem lns_len (l : List Ln) : (lns l).length = l.length := by simp [lns]
def proAV (com : List (List UInt8)) : AV := .tup [.sl true false 3 (lns (if comE com = 0 then (progT com.length com).getD [] else [])), .int .i64 (comI com : Nat), .int .i64 (comE com : Nat)]
theorem proAV_free (com : List (List UInt8)) : Free true (proAV com) := .tup (by intro x hx; simp at hx; rcases hx with rfl | rfl | rfl; exact .sl (fun _ => rfl) (lns_free _); exact .int; exact .int)
theorem pro_frz {σ : Heap} {a : AV} {l : List Ln} {i e i' e' : Int} (h : Frz true σ a (.sl true false 3 (lns l))) (hi : i = i') (he : e = e') : Frz true σ (.tup [a, .int .i64 i, .int .i64 e]) (.tup [.sl true false 3 (lns l), .int .i64 i', .int .i64 e']) := by
  subst hi; subst he
  refine .tup rfl fun k h1 h2 => ?_
  match k, h1 with
  | 0, _ => exact h
  | 1, _ => exact .refl .int
  | 2, _ => exact .refl .int
  | k + 3, h => exact absurd h (by simp)
theorem progT_bad (L : Nat) : ∀ (com : List (List UInt8)) (i : Nat) (hi : i < com.length), (∀ j (hj : j < com.length), j < i → (lnOf L com[j]).isSome = true) → lnOf L com[i] = none → progT L com = none ∧ badLn L com = i
  | s :: r, 0, _, _, h => by
    have h : lnOf L s = none := h
    rw [progT, badLn, h]; exact ⟨rfl, rfl⟩
  | s :: r, i + 1, hi, ha, h => by
    have h0 := ha 0 (by simp) (by omega)
    obtain ⟨x, hx⟩ := Option.isSome_iff_exists.1 h0
    have hx : lnOf L s = some x := hx
    obtain ⟨k1, k2⟩ := progT_bad L r i (by simpa using hi) (fun j hj hji => ha (j + 1) (by simpa using hj) (by omega)) h
    rw [progT, badLn, hx, k2]
    show (progT L r).map (x :: ·) = none ∧ i + 1 = i + 1
    rw [k1]; exact ⟨rfl, rfl⟩
theorem progT_take (L : Nat) (com : List (List UInt8)) (xs : List Ln) (hl : xs.length = com.length) (h : ∀ j (hj : j < com.length), lnOf L com[j] = some (xs[j]'(by omega))) : progT L com = some xs := by
  induction com generalizing xs with
  | nil => obtain rfl : xs = [] := List.length_eq_zero_iff.1 (by simpa using hl); rfl
  | cons s r ih =>
    match xs, hl with
    | x :: ys, hl =>
      have h0 : lnOf L s = some x := h 0 (by simp)
      rw [progT, h0]
      show (progT L r).map (x :: ·) = _
      rw [ih ys (by simpa using hl) (fun j hj => h (j + 1) (by simpa using hj))]; rfl
theorem program_ok {st fl : Bool} (com : List (List UInt8)) (hl : com.length ≤ 1000000000000) : Calc cx 22 [.sl st fl 1 (texts com)] (proAV com) :=
  pure_intro (fun a w => Tryz.call22 a w) Tryz.func22 rfl Tryz.ntmps22 rfl (proAV_free com) fun B => by
    have htl : (texts com).length = com.length := by simp [texts]
    have hCF := ContainsFuncP_ok (st := st) (fl := fl) 35 (fun s => decide (100000 < s.length)) com (fun s _ => prog1_ok s) hl
    unfold proAV
    by_cases h60 : 60 < com.length
    · have hE : comE com = 2 := by unfold comE checkL; rw [if_pos h60]; rfl
      have hI : comI com = 0 := by unfold comI; rw [hE]; rfl
      rw [hE, hI, if_neg (by decide)]
      refine pB [.b true, .b true] rfl ?_
      exact S_ret ⟨_, _, rfl, trivial, _, rfl, pro_frz .nils rfl rfl⟩
    cases hlg : com.any (fun s => decide (100000 < s.length)) with
    | true =>
      have hE : comE com = 2 := by unfold comE checkL; rw [if_neg h60, hlg]; rfl
      have hI : comI com = 0 := by unfold comI; rw [hE]; rfl
      rw [hE, hI, if_neg (by decide)]
      rw [hlg] at hCF
      refine pa [.b false, .v (.bool true), .b true] rfl ?_ ?_
      · (repeat' with_reducible apply AllP_cons) <;> try exact aC
        · exact ⟨_, hCF, .cons (.refl (.sl (fun h => by cases h) (texts_any _))) (.cons (.refl (.func (fun x h => by cases h) (fun x h => by cases h))) (.nil _))⟩
      exact S_ret ⟨_, _, rfl, trivial, _, rfl, pro_frz .nils rfl rfl⟩
    | false =>
      rw [hlg] at hCF
      have hck : checkL com 60 = 0 := by unfold checkL; rw [if_neg h60, hlg]; rfl
      have hsl : ∀ j (hj : j < com.length), com[j].length ≤ 100000 := fun j hj => by
        have := List.any_eq_false.1 hlg _ (List.getElem_mem hj)
        simpa using this
      refine pa [.b false, .v (.bool false), .b false] rfl ?_ ?_
      · (repeat' with_reducible apply AllP_cons) <;> try exact aC
        · exact ⟨_, hCF, .cons (.refl (.sl (fun h => by cases h) (texts_any _))) (.cons (.refl (.func (fun x h => by cases h) (fun x h => by cases h))) (.nil _))⟩
      refine S_ghostF (t := 5) 3 ⟨false, none⟩ rfl rfl ⟨_, _, .inl rfl⟩ ?_
      refine S_dead ?_ ⟨_, _, .inl rfl⟩
      refine S_while (α := List Ln) (fun xs => [(0, .sl st fl 1 (texts com)), (5, .ms 0 xs.length 0 xs.length 3 false), (17, .sl st fl 1 (texts com)), (18, .int .i64 (((texts com).length : Nat) : Int)), (19, .int .i64 (xs.length : Nat))])
        (fun xs => [(xs.length, some (.cells (lnCs xs) ⟨false, none⟩)), (xs.length, none)])
        (fun xs => xs.length ≤ com.length ∧ ∀ j (hj : j < com.length) (hx : j < xs.length), lnOf com.length com[j] = some xs[j]) (fun xs => com.length - xs.length) []
        ⟨Nat.zero_le _, fun j hj hx => absurd hx (Nat.not_lt_zero _)⟩ (.cons rfl (.cons rfl (.cons rfl (.cons rfl (.cons rfl (.nil _)))))) rfl ?_
      rintro xs ⟨hi, hX⟩
      have hi : xs.length ≤ com.length := hi
      by_cases hlt : xs.length < com.length
      · have e1 : decide ((xs.length : Int) < (((texts com).length : Nat) : Int)) = true := decide_eq_true (by omega)
        have g1 : (texts com)[(xs.length : Int).toNat]? = some (.str com[xs.length]) := by rw [Int.toNat_natCast]; simp [texts, List.getElem?_eq_getElem hlt]
        have hs := hsl _ hlt
        have hR := rdLn_ok com.length com[xs.length] (by omega) (by omega)
        unfold rdAV at hR
        have hP := readP_ln com.length com[xs.length]
        cases hok : (readP com.length com[xs.length]).2 with
        | false =>
          rw [hok] at hP hR
          have hP : lnOf com.length com[xs.length] = none := hP
          obtain ⟨k1, k2⟩ := progT_bad com.length com xs.length hlt (fun j hj hji => by rw [hX j hj hji]; rfl) hP
          have hE : comE com = 1 := by unfold comE; rw [if_pos hck, k1]; rfl
          have hI : comI com = xs.length := by unfold comI; rw [if_pos hE, k2]
          rw [hE, hI, if_neg (by decide)]
          refine pa [.b true, .v (.str com[xs.length]), .v (.tup [lnA (readP com.length com[xs.length]).1, .bool false]), .b true] rfl ?_ ?_
          · (repeat' with_reducible apply AllP_cons) <;> try exact aC
            · rw [htl]; exact ⟨_, hR, .cons (.refl .str) (.cons (.refl .int) (.nil _))⟩
          exact S_ret ⟨_, _, rfl, trivial, _, rfl, pro_frz .nils rfl rfl⟩
        | true =>
          rw [hok] at hP hR
          have hP : lnOf com.length com[xs.length] = some (readP com.length com[xs.length]).1 := hP
          generalize (readP com.length com[xs.length]).1 = x at *
          refine pa [.b true, .v (.str com[xs.length]), .v (.tup [lnA x, .bool true]), .b false, .s] rfl ?_ ?_
          · (repeat' with_reducible apply AllP_cons) <;> try exact aC
            · rw [htl]; exact ⟨_, hR, .cons (.refl .str) (.cons (.refl .int) (.nil _))⟩
          refine pan 4 [] rfl ?_ ?_
          · (repeat' with_reducible apply AllP_cons) <;> try exact aC
            · show 0 + xs.length * 3 = _; rw [lnCs_len]; omega
            · show (xs.length + 1) * 64 ≤ 140737488355328; omega
          refine S_drop (id := 1) rfl ?_ ⟨.skip, _, .inr ⟨_, _, _, rfl⟩⟩
          have hl2 : (xs ++ [x]).length = xs.length + 1 := by rw [List.length_append]; rfl
          have hap : lnCs xs ++ lnC x = lnCs (xs ++ [x]) := by unfold lnCs; rw [List.flatMap_append]; simp
          refine S_heap [((xs ++ [x]).length, some (.cells (lnCs (xs ++ [x])) ⟨false, none⟩)), ((xs ++ [x]).length, none)] ?_ ?_
          · rw [hl2, ← hap]; rfl
          refine pB [] rfl ?_
          refine S_round (xs ++ [x]) (by show com.length - (xs ++ [x]).length < com.length - xs.length; omega) ⟨by show (xs ++ [x]).length ≤ com.length; omega, fun j hj hx => ?_⟩ (.cons rfl (.cons (by show AV.ms 0 (xs.length + 1) 0 (xs.length + 1) 3 false = AV.ms 0 (xs ++ [x]).length 0 (xs ++ [x]).length 3 false; rw [hl2]) (.cons rfl (.cons rfl (.cons (by show AV.int .i64 (IntKind.i64.wrap ((xs.length : Int) + 1)) = .int .i64 (((xs ++ [x]).length : Nat) : Int); rw [hl2]; exact ai64 rfl (by omega)) (.nil _)))))) rfl
          by_cases hjx : j < xs.length
          · rw [List.getElem_append_left hjx]; exact hX j hj hjx
          · obtain rfl : j = xs.length := by omega
            rw [List.getElem_append_right (by omega)]
            simpa using hP
      · have e1 : decide ((xs.length : Int) < (((texts com).length : Nat) : Int)) = false := decide_eq_false (by omega)
        have hPT := progT_take com.length com xs (by omega) (fun j hj => hX j hj (by omega))
        have hE : comE com = 0 := by unfold comE; rw [if_pos hck, hPT]; rfl
        have hI : comI com = 0 := by unfold comI; rw [hE]; rfl
        rw [hE, hI, if_pos rfl, hPT]
        refine pB [.b false] rfl ?_
        exact S_ret ⟨_, _, rfl, trivial, _, rfl, pro_frz (.ms rfl (by rw [lnCs_len]; omega) (by rw [List.drop_zero, lns_flat]; exact List.take_of_length_le (by rw [lnCs_len]; omega)) (lns_size _) (lns_len _) (lns_free _)) rfl rfl⟩
end Go.Proofs.YtgmakmfdjhgjlaaGreatDoor
end
section
set_option linter.unusedVariables false
set_option linter.unusedSimpArgs false
set_option maxRecDepth 20000
set_option maxHeartbeats 4000000
namespace Go.Proofs.YtgmakmfdjhgjlaaGreatDoor
open Go Go.Ab
inductive LnOk (lines : Nat) : Ln → Prop
  | set {c : UInt8} {t : List UInt8} (h1 : 97 ≤ c) (h2 : c ≤ 104) (ht : t.length ≤ 100000) : LnOk lines ⟨kSet, [[c], t], []⟩
  | read {c : UInt8} {p : List UInt8} (h1 : 97 ≤ c) (h2 : c ≤ 104) (hp : isPathB p = true) : LnOk lines ⟨kRead, [[c], p], [0, 0]⟩
  | list {c : UInt8} {p : List UInt8} (h1 : 97 ≤ c) (h2 : c ≤ 104) (hp : p = [46] ∨ isPathB p = true) : LnOk lines ⟨kList, [[c], p], [0, 0]⟩
  | join {c d : UInt8} (h1 : 97 ≤ c) (h2 : c ≤ 104) (h3 : 97 ≤ d) (h4 : d ≤ 104) : LnOk lines ⟨kJoin, [[c], [d]], [0, 0]⟩
  | cut {c : UInt8} {v w : List UInt8} {i j : Nat} (h1 : 97 ≤ c) (h2 : c ≤ 104) (hv : numT v 999999 = some i) (hw : numT w 999999 = some j) : LnOk lines ⟨kCut, [[c], v, w], [0, i, j]⟩
  | size {c d : UInt8} (h1 : 97 ≤ c) (h2 : c ≤ 104) (h3 : 97 ≤ d) (h4 : d ≤ 104) : LnOk lines ⟨kSize, [[c], [d]], [0, 0]⟩
  | sum {c : UInt8} (h1 : 97 ≤ c) (h2 : c ≤ 104) : LnOk lines ⟨kSum, [[c]], [0]⟩
  | make {c : UInt8} {p : List UInt8} (h1 : 97 ≤ c) (h2 : c ≤ 104) (hp : isPathB p = true) : LnOk lines ⟨kMake, [p, [c]], [0, 0]⟩
  | run {c : UInt8} {p : List UInt8} (h1 : 97 ≤ c) (h2 : c ≤ 104) (hp : isPathB p = true) : LnOk lines ⟨kRun, [p, [c]], [0, 0]⟩
  | same {c d : UInt8} {w : List UInt8} {j : Nat} (h1 : 97 ≤ c) (h2 : c ≤ 104) (h3 : 97 ≤ d) (h4 : d ≤ 104) (hw : numT w lines = some j) : LnOk lines ⟨kSame, [[c], [d], w], [0, 0, j]⟩
  | less {c d : UInt8} {w : List UInt8} {j : Nat} (h1 : 97 ≤ c) (h2 : c ≤ 104) (h3 : 97 ≤ d) (h4 : d ≤ 104) (hw : numT w lines = some j) : LnOk lines ⟨kLess, [[c], [d], w], [0, 0, j]⟩
  | goto {w : List UInt8} {j : Nat} (hw : numT w lines = some j) : LnOk lines ⟨kGoto, [w], [j]⟩
  | exit {w : List UInt8} {j : Nat} (hw : numT w 99 = some j) : LnOk lines ⟨kExit, [w], [j]⟩
theorem words_cons {L : Nat} {c : UInt8} {f : List UInt8} {ws : List (List UInt8)} {ns : List Nat} (h : wordsT L (c :: f) ws = some ns) : ∃ w ws' n ns', ws = w :: ws' ∧ ns = n :: ns' ∧ wordT c w L = some n ∧ wordsT L f ws' = some ns' := by
  match ws, h with
  | [], h => cases h
  | w :: ws', h =>
    rw [wordsT] at h
    cases hw : wordT c w L with
    | none => rw [hw] at h; cases h
    | some n =>
      rw [hw] at h
      replace h : (wordsT L f ws').map (n :: ·) = some ns := h
      cases hr : wordsT L f ws' with
      | none => rw [hr] at h; cases h
      | some ns' => rw [hr] at h; cases h; exact ⟨w, ws', n, ns', rfl, rfl, hw, hr⟩
theorem words_nil {L : Nat} {ws : List (List UInt8)} {ns : List Nat} (h : wordsT L [] ws = some ns) : ws = [] ∧ ns = [] := by
  match ws, h with
  | [], h => cases h; exact ⟨rfl, rfl⟩
  | w :: ws', h => cases h
theorem word_r {w : List UInt8} {L n : Nat} (h : wordT 114 w L = some n) : (∃ c : UInt8, w = [c] ∧ 97 ≤ c ∧ c ≤ 104) ∧ n = 0 := by
  unfold wordT at h
  rw [if_pos rfl] at h
  split at h
  · rename_i hr; cases h; exact ⟨regB_one hr, rfl⟩
  · cases h
theorem word_p {w : List UInt8} {L n : Nat} (h : wordT 112 w L = some n) : isPathB w = true ∧ n = 0 := by
  unfold wordT at h
  rw [if_neg (by decide), if_pos rfl] at h
  split at h
  · rename_i hr; cases h; exact ⟨hr, rfl⟩
  · cases h
theorem word_d {w : List UInt8} {L n : Nat} (h : wordT 100 w L = some n) : (w = [46] ∨ isPathB w = true) ∧ n = 0 := by
  unfold wordT at h
  rw [if_neg (by decide), if_neg (by decide), if_pos rfl] at h
  split at h
  · rename_i hr; cases h; exact ⟨by rw [Bool.or_eq_true, beq_iff_eq] at hr; exact hr, rfl⟩
  · cases h
theorem word_n {w : List UInt8} {L n : Nat} (h : wordT 110 w L = some n) : numT w 999999 = some n := by
  unfold wordT at h
  rwa [if_neg (by decide), if_neg (by decide), if_neg (by decide), if_pos rfl] at h
theorem word_l {w : List UInt8} {L n : Nat} (h : wordT 108 w L = some n) : numT w L = some n := by
  unfold wordT at h
  rwa [if_neg (by decide), if_neg (by decide), if_neg (by decide), if_neg (by decide), if_pos rfl] at h
theorem word_e {w : List UInt8} {L n : Nat} (h : wordT 101 w L = some n) : numT w 99 = some n := by
  unfold wordT at h
  rwa [if_neg (by decide), if_neg (by decide), if_neg (by decide), if_neg (by decide), if_neg (by decide), if_pos rfl] at h
theorem lnOk_of {L : Nat} {s : List UInt8} {x : Ln} (h : lnOf L s = some x) (hs : s.length ≤ 100000) : LnOk L x := by
  by_cases h0 : fst32 s = kSet
  · obtain ⟨c, b, t, h1, h2, _, rfl⟩ := ln_set h h0
    exact .set h1 h2 (by rw [List.length_drop]; omega)
  obtain ⟨f, hf, hne, ho, hsp, hw⟩ := ln_other h h0
  obtain ⟨op, ws, ns⟩ := x
  simp only at ho hsp hw
  subst ho
  have hm := formL_mem hf
  generalize fst32 s = w0 at *
  simp only [formL, List.mem_cons, Prod.mk.injEq, List.not_mem_nil, or_false] at hm
  rcases hm with ⟨rfl, rfl⟩ | ⟨rfl, rfl⟩ | ⟨rfl, rfl⟩ | ⟨rfl, rfl⟩ | ⟨rfl, rfl⟩ | ⟨rfl, rfl⟩ | ⟨rfl, rfl⟩ | ⟨rfl, rfl⟩ | ⟨rfl, rfl⟩ | ⟨rfl, rfl⟩ | ⟨rfl, rfl⟩ | ⟨rfl, rfl⟩ | ⟨rfl, rfl⟩
  · exact absurd rfl hne
  · obtain ⟨w1, _, n1, _, rfl, rfl, k1, q1⟩ := words_cons hw
    obtain ⟨w2, _, n2, _, rfl, rfl, k2, q2⟩ := words_cons q1
    obtain ⟨rfl, rfl⟩ := words_nil q2
    obtain ⟨⟨c, rfl, a1, a2⟩, rfl⟩ := word_r k1
    obtain ⟨b1, rfl⟩ := word_p k2
    exact .read a1 a2 b1
  · obtain ⟨w1, _, n1, _, rfl, rfl, k1, q1⟩ := words_cons hw
    obtain ⟨w2, _, n2, _, rfl, rfl, k2, q2⟩ := words_cons q1
    obtain ⟨rfl, rfl⟩ := words_nil q2
    obtain ⟨⟨c, rfl, a1, a2⟩, rfl⟩ := word_r k1
    obtain ⟨b1, rfl⟩ := word_d k2
    exact .list a1 a2 b1
  · obtain ⟨w1, _, n1, _, rfl, rfl, k1, q1⟩ := words_cons hw
    obtain ⟨w2, _, n2, _, rfl, rfl, k2, q2⟩ := words_cons q1
    obtain ⟨rfl, rfl⟩ := words_nil q2
    obtain ⟨⟨c, rfl, a1, a2⟩, rfl⟩ := word_r k1
    obtain ⟨⟨d, rfl, b1, b2⟩, rfl⟩ := word_r k2
    exact .join a1 a2 b1 b2
  · obtain ⟨w1, _, n1, _, rfl, rfl, k1, q1⟩ := words_cons hw
    obtain ⟨w2, _, n2, _, rfl, rfl, k2, q2⟩ := words_cons q1
    obtain ⟨w3, _, n3, _, rfl, rfl, k3, q3⟩ := words_cons q2
    obtain ⟨rfl, rfl⟩ := words_nil q3
    obtain ⟨⟨c, rfl, a1, a2⟩, rfl⟩ := word_r k1
    exact .cut a1 a2 (word_n k2) (word_n k3)
  · obtain ⟨w1, _, n1, _, rfl, rfl, k1, q1⟩ := words_cons hw
    obtain ⟨w2, _, n2, _, rfl, rfl, k2, q2⟩ := words_cons q1
    obtain ⟨rfl, rfl⟩ := words_nil q2
    obtain ⟨⟨c, rfl, a1, a2⟩, rfl⟩ := word_r k1
    obtain ⟨⟨d, rfl, b1, b2⟩, rfl⟩ := word_r k2
    exact .size a1 a2 b1 b2
  · obtain ⟨w1, _, n1, _, rfl, rfl, k1, q1⟩ := words_cons hw
    obtain ⟨rfl, rfl⟩ := words_nil q1
    obtain ⟨⟨c, rfl, a1, a2⟩, rfl⟩ := word_r k1
    exact .sum a1 a2
  · obtain ⟨w1, _, n1, _, rfl, rfl, k1, q1⟩ := words_cons hw
    obtain ⟨w2, _, n2, _, rfl, rfl, k2, q2⟩ := words_cons q1
    obtain ⟨rfl, rfl⟩ := words_nil q2
    obtain ⟨b1, rfl⟩ := word_p k1
    obtain ⟨⟨c, rfl, a1, a2⟩, rfl⟩ := word_r k2
    exact .make a1 a2 b1
  · obtain ⟨w1, _, n1, _, rfl, rfl, k1, q1⟩ := words_cons hw
    obtain ⟨w2, _, n2, _, rfl, rfl, k2, q2⟩ := words_cons q1
    obtain ⟨rfl, rfl⟩ := words_nil q2
    obtain ⟨b1, rfl⟩ := word_p k1
    obtain ⟨⟨c, rfl, a1, a2⟩, rfl⟩ := word_r k2
    exact .run a1 a2 b1
  · obtain ⟨w1, _, n1, _, rfl, rfl, k1, q1⟩ := words_cons hw
    obtain ⟨w2, _, n2, _, rfl, rfl, k2, q2⟩ := words_cons q1
    obtain ⟨w3, _, n3, _, rfl, rfl, k3, q3⟩ := words_cons q2
    obtain ⟨rfl, rfl⟩ := words_nil q3
    obtain ⟨⟨c, rfl, a1, a2⟩, rfl⟩ := word_r k1
    obtain ⟨⟨d, rfl, b1, b2⟩, rfl⟩ := word_r k2
    exact .same a1 a2 b1 b2 (word_l k3)
  · obtain ⟨w1, _, n1, _, rfl, rfl, k1, q1⟩ := words_cons hw
    obtain ⟨w2, _, n2, _, rfl, rfl, k2, q2⟩ := words_cons q1
    obtain ⟨w3, _, n3, _, rfl, rfl, k3, q3⟩ := words_cons q2
    obtain ⟨rfl, rfl⟩ := words_nil q3
    obtain ⟨⟨c, rfl, a1, a2⟩, rfl⟩ := word_r k1
    obtain ⟨⟨d, rfl, b1, b2⟩, rfl⟩ := word_r k2
    exact .less a1 a2 b1 b2 (word_l k3)
  · obtain ⟨w1, _, n1, _, rfl, rfl, k1, q1⟩ := words_cons hw
    obtain ⟨rfl, rfl⟩ := words_nil q1
    exact .goto (word_l k1)
  · obtain ⟨w1, _, n1, _, rfl, rfl, k1, q1⟩ := words_cons hw
    obtain ⟨rfl, rfl⟩ := words_nil q1
    exact .exit (word_e k1)
theorem numT_le {w : List UInt8} {most n : Nat} (h : numT w most = some n) : n ≤ most ∧ n < 1000000 := by
  unfold numT at h
  split at h
  · rename_i hc; cases h; exact ⟨hc.2.2.2.2, valN_len hc.1 hc.2.2.1⟩
  · cases h
structure McI (m : Mc) : Prop where
  ok : McOk m
  pth : ∀ f ∈ m.made, isPathB f.path = true ∧ f.text.length ≤ 100000
  many : (ksP m.made).length ≤ 60
  pc : m.pc ≤ 1000000
  code : m.code ≤ 104
  meet : ∀ p ∈ ksP m.made, ∀ q ∈ ksP m.made, insT p q = false
theorem McI.end_ {m : Mc} (h : McI m) {l k : Nat} (hl : l ≤ 100000) (hk : k ≤ 104) : McI (endM k { m with left := l }) :=
  ⟨⟨⟨h.ok.reg.nd, h.ok.reg.no⟩, h.ok.len, hl⟩, h.pth, h.many, h.pc, hk, h.meet⟩
theorem McI.trip {m : Mc} (h : McI m) {k : Nat} (hk : k ≤ 104) : McI (tripM k m) := by
  unfold tripM
  have := h.ok.left
  split
  · exact h.end_ (by omega) (by omega)
  · exact h.end_ (by omega) hk
theorem McI.set {m : Mc} (h : McI m) (r t : List UInt8) : McI (setM r t m) := by
  unfold setM keepM
  have := h.ok.left
  split
  · exact h.trip (by omega)
  split
  · exact h.end_ (by omega) (by omega)
  · rename_i h1 h2
    refine ⟨⟨⟨?_, fun k hk => ?_⟩, fun k => ?_, by show m.left - _ ≤ 100000; omega⟩, h.pth, h.many, h.pc, h.code, h.meet⟩
    · show (addK m.ks r).Nodup
      exact addU_nodup h.ok.reg.nd
    · have hk : k ∉ addK m.ks r := hk
      have hm : ∀ z, z ∈ addK m.ks r ↔ z ∈ m.ks ∨ z = r := fun z => addU_mem (l := m.ks) (s := r) (x := z)
      show updT m.regs r t k = []
      unfold updT
      rw [if_neg (fun e => hk ((hm k).2 (.inr e)))]
      exact h.ok.reg.no k (fun e => hk ((hm k).2 (.inl e)))
    · show (updT m.regs r t k).length ≤ 100000
      unfold updT
      split
      · omega
      · exact h.ok.len k
theorem McI.jump {m : Mc} (h : McI m) (b : Bool) {to : Nat} (ht : to ≤ 1000000) : McI (jumpM b to m) := by
  unfold jumpM
  have := h.ok.left
  split
  · exact h.end_ (by omega) (by omega)
  split
  · exact ⟨⟨⟨h.ok.reg.nd, h.ok.reg.no⟩, h.ok.len, by show m.left - 1 ≤ 100000; omega⟩, h.pth, h.many, ht, h.code, h.meet⟩
  · exact ⟨⟨⟨h.ok.reg.nd, h.ok.reg.no⟩, h.ok.len, by show m.left - 1 ≤ 100000; omega⟩, h.pth, h.many, h.pc, h.code, h.meet⟩
theorem McI.exit {m : Mc} (h : McI m) {k : Nat} (hk : k ≤ 104) : McI (exitM k m) := by
  unfold exitM
  have := h.ok.left
  split
  · exact h.end_ (by omega) (by omega)
  · exact h.end_ (by omega) hk
theorem badM_no {p : List UInt8} {c : List Fil} (h : badM p c = false) : ∀ q ∈ ksP c, insT p q = false ∧ insT q p = false := by
  intro q hq
  have h1 := List.any_eq_false.1 h q hq
  by_cases he : q = p
  · subst he; exact ⟨ins_self q, ins_self q⟩
  · have h2 : (q != p) = true := by simpa using he
    rw [h2] at h1
    unfold meetT at h1
    simp only [Bool.true_and, Bool.or_eq_true, not_or, Bool.not_eq_true] at h1
    exact ⟨h1.2, h1.1.2⟩
theorem McI.make {m : Mc} (h : McI m) {p t : List UInt8} (run : Bool) (hp : isPathB p = true) : McI (makeM p t run m) := by
  unfold makeM
  split
  · exact h.trip (by omega)
  · rename_i hb
    have hb1 : badM p m.made = false := by
      cases hq : badM p m.made with
      | false => rfl
      | true => exact absurd (.inl hq) hb
    have hno := badM_no hb1
    unfold keepM
    have := h.ok.left
    split
    · exact h.trip (by omega)
    split
    · exact h.end_ (by omega) (by omega)
    · rename_i h1 h2
      have hks : ksP (m.made ++ [⟨p, t, run⟩]) = addU (ksP m.made) p := ksP_add _ _
      refine ⟨⟨⟨h.ok.reg.nd, h.ok.reg.no⟩, h.ok.len, by show m.left - _ ≤ 100000; omega⟩, fun f hf => ?_, ?_, h.pc, h.code, ?_⟩
      · rcases List.mem_append.1 hf with hf | hf
        · exact h.pth f hf
        · obtain rfl := List.mem_singleton.1 hf
          exact ⟨hp, by show t.length ≤ 100000; omega⟩
      · show (ksP (m.made ++ [⟨p, t, run⟩])).length ≤ 60
        rw [hks, addU]
        have hm := h.many
        split
        · exact hm
        · rename_i hin
          have : (ksP m.made).length ≠ 60 := fun e => hb (.inr ⟨hin, e⟩)
          rw [List.length_append]
          show (ksP m.made).length + 1 ≤ 60
          omega
      · intro x hx y hy
        have hx : x ∈ ksP (m.made ++ [⟨p, t, run⟩]) := hx
        have hy : y ∈ ksP (m.made ++ [⟨p, t, run⟩]) := hy
        rw [hks, addU_mem] at hx hy
        rcases hx with hx | hx <;> rcases hy with hy | hy
        · exact h.meet x hx y hy
        · rw [hy]; exact (hno x hx).2
        · rw [hx]; exact (hno y hy).1
        · rw [hx, hy]; exact ins_self _
theorem McI.next {m : Mc} (h : McI m) (hp : m.pc + 1 ≤ 1000000) : McI { m with pc := m.pc + 1 } := ⟨⟨⟨h.ok.reg.nd, h.ok.reg.no⟩, h.ok.len, h.ok.left⟩, h.pth, h.many, hp, h.code, h.meet⟩
theorem McI.step {L : Nat} {fs : List Fil} {x : Ln} {m : Mc} (h : McI m) (hx : LnOk L x) (hL : L ≤ 1000) : McI (stepM fs x m) := by
  cases hx with
  | set => exact h.set _ _
  | @read c p =>
    show McI (match fs.find? (fun f => f.path == p) with | none => tripM 101 m | some f => setM [c] f.text m)
    split
    · exact h.trip (by omega)
    · exact h.set _ _
  | list => exact h.set _ _
  | join => exact h.set _ _
  | cut => exact h.set _ _
  | size => exact h.set _ _
  | sum => exact h.set _ _
  | make _ _ hp => exact h.make _ hp
  | run _ _ hp => exact h.make _ hp
  | same _ _ _ _ hw => exact h.jump _ (Nat.le_trans (numT_le hw).1 (by omega))
  | less _ _ _ _ hw => exact h.jump _ (Nat.le_trans (numT_le hw).1 (by omega))
  | goto hw => exact h.jump _ (Nat.le_trans (numT_le hw).1 (by omega))
  | exit hw => exact h.exit (Nat.le_trans (numT_le hw).1 (by decide))
end Go.Proofs.YtgmakmfdjhgjlaaGreatDoor
end
section
set_option linter.unusedVariables false
set_option linter.unusedSimpArgs false
set_option maxRecDepth 20000
set_option maxHeartbeats 4000000
namespace Go.Proofs.YtgmakmfdjhgjlaaGreatDoor
open Go Go.Ab
def LessM (m m' : Mc) : Prop := m'.done = true ∧ m'.left ≤ m.left ∨ m'.left < m.left
theorem LessM.le {m m' : Mc} (h : LessM m m') : m'.left ≤ m.left := by
  rcases h with ⟨_, h⟩ | h <;> omega
theorem trip_less (k : Nat) (m : Mc) : LessM m (tripM k m) := by
  unfold tripM
  split
  · exact .inl ⟨rfl, Nat.zero_le _⟩
  · exact .inl ⟨rfl, Nat.sub_le _ _⟩
theorem keep_less {t : List UInt8} {k : Mc → Mc} {m : Mc} (hk : ∀ m, (k m).left = m.left) : LessM m (keepM t k m) := by
  unfold keepM
  split
  · exact trip_less _ _
  split
  · exact .inl ⟨rfl, Nat.zero_le _⟩
  · rename_i h; right; rw [hk]; show m.left - _ < m.left; omega
theorem set_less (r t : List UInt8) (m : Mc) : LessM m (setM r t m) := keep_less fun _ => rfl
theorem make_less (p t : List UInt8) (run : Bool) (m : Mc) : LessM m (makeM p t run m) := by
  unfold makeM
  split
  · exact trip_less _ _
  · exact keep_less fun _ => rfl
theorem jump_less (b : Bool) (to : Nat) (m : Mc) : LessM m (jumpM b to m) := by
  unfold jumpM
  split
  · exact .inl ⟨rfl, Nat.zero_le _⟩
  split
  · right; show m.left - 1 < m.left; omega
  · right; show m.left - 1 < m.left; omega
theorem exit_less (k : Nat) (m : Mc) : LessM m (exitM k m) := by
  unfold exitM
  split
  · exact .inl ⟨rfl, Nat.zero_le _⟩
  · exact .inl ⟨rfl, Nat.sub_le _ _⟩
theorem step_less {L : Nat} {fs : List Fil} {x : Ln} {m : Mc} (hx : LnOk L x) : LessM m (stepM fs x m) := by
  cases hx with
  | set => exact set_less _ _ _
  | @read c p =>
    show LessM m (match fs.find? (fun f => f.path == p) with | none => tripM 101 m | some f => setM [c] f.text m)
    split
    · exact trip_less _ _
    · exact set_less _ _ _
  | list => exact set_less _ _ _
  | join => exact set_less _ _ _
  | cut => exact set_less _ _ _
  | size => exact set_less _ _ _
  | sum => exact set_less _ _ _
  | make => exact make_less _ _ _ _
  | run => exact make_less _ _ _ _
  | same => exact jump_less _ _ _
  | less => exact jump_less _ _ _
  | goto => exact jump_less _ _ _
  | exit => exact exit_less _ _
theorem runM_done {fs : List Fil} {prog : List Ln} {m : Mc} (h : m.done = true) : ∀ n, runM fs prog n m = m
  | 0 => rfl
  | n + 1 => by rw [runM, if_pos h]
theorem runM_fuel {L : Nat} {fs : List Fil} {prog : List Ln} (hp : ∀ x ∈ prog, LnOk L x) : ∀ (n : Nat) (m : Mc), m.left < n → runM fs prog n m = runM fs prog (m.left + 1) m := by
  intro n
  induction n using Nat.strongRecOn with
  | _ n ih =>
    intro m hn
    obtain ⟨k, rfl⟩ : ∃ k, n = k + 1 := ⟨n - 1, by omega⟩
    rw [runM, runM]
    split
    · rfl
    split
    · rfl
    · rename_i x hx
      have hless := step_less (fs := fs) (m := { m with pc := m.pc + 1 }) (hp x (List.mem_of_getElem? hx))
      rcases hless with ⟨hd, _⟩ | hl
      · rw [runM_done hd, runM_done hd]
      · have hl : (stepM fs x { m with pc := m.pc + 1 }).left < m.left := hl
        rw [ih k (by omega) _ (by omega)]
        by_cases he : m.left = k
        · subst he
          exact (ih m.left (by omega) _ hl).symm
        · exact (ih m.left (by omega) _ hl).symm
theorem progT_ok {com : List (List UInt8)} {L : Nat} (hs : ∀ s ∈ com, s.length ≤ 100000) {xs : List Ln} (h : progT L com = some xs) : xs.length = com.length ∧ ∀ x ∈ xs, LnOk L x := by
  induction com generalizing xs with
  | nil => cases h; exact ⟨rfl, fun x hx => by cases hx⟩
  | cons s r ih =>
    rw [progT] at h
    cases hq : lnOf L s with
    | none => rw [hq] at h; cases h
    | some x =>
      rw [hq] at h
      replace h : (progT L r).map (x :: ·) = some xs := h
      cases hr : progT L r with
      | none => rw [hr] at h; cases h
      | some ys =>
        rw [hr] at h
        cases h
        obtain ⟨k1, k2⟩ := ih (fun s hs' => hs s (List.mem_cons_of_mem _ hs')) hr
        refine ⟨by simp [k1], fun y hy => ?_⟩
        rcases List.mem_cons.1 hy with rfl | hy
        · exact lnOk_of hq (hs _ (List.mem_cons_self ..))
        · exact k2 y hy
theorem comE_long {com : List (List UInt8)} (h : comE com = 0) : com.length ≤ 60 ∧ (∀ s ∈ com, s.length ≤ 100000) ∧ ∃ xs, progT com.length com = some xs := by
  unfold comE checkL at h
  by_cases h1 : 60 < com.length
  · rw [if_pos h1] at h; simp at h
  · rw [if_neg h1] at h
    cases hq : com.any (fun s => decide (100000 < s.length)) with
    | true => rw [hq] at h; simp at h
    | false =>
      rw [hq] at h
      refine ⟨by omega, fun s hs => by have := List.any_eq_false.1 hq s hs; simpa using this, ?_⟩
      cases hp : progT com.length com with
      | none => rw [hp] at h; simp at h
      | some xs => exact ⟨xs, rfl⟩
theorem mc0_ok {fuel : Nat} (h : fuel ≤ 100000) : McI (mc0 fuel) :=
  ⟨⟨⟨.nil, fun _ _ => rfl⟩, fun r => by show ([] : List UInt8).length ≤ 100000; simp, h⟩, (fun f hf => by cases hf), by show (ksP []).length ≤ 60; simp [ksP], by show 0 ≤ 1000000; omega, by show 0 ≤ 104; omega, (fun p hp => by cases hp)⟩
theorem Values_ok (a b c d e : Nat) (fs : List Fil) (m : Mc) (x y : Nat) : CallOk cx 27 [.map 1 b] (mcH a b c d e fs m [(x, none), (y, none)])
    (fun o s => o = .ret (.func (.func 65) [] [.ptr 5 (x + 1) 0]) ∧ s = mcH a b c d e fs m [(x + 1, some (.cells [.map 1 b] ⟨false, none⟩)), (y, none)]) :=
  callOk_intro (fun a w => Tryz.call27 a w) Tryz.func27 rfl Tryz.ntmps27 rfl fun B => by
    refine pB [] rfl ?_
    exact S_ret ⟨_, _, rfl, trivial, rfl, rfl⟩
end Go.Proofs.YtgmakmfdjhgjlaaGreatDoor
end
section
set_option linter.unusedVariables false
set_option linter.unusedSimpArgs false
set_option maxRecDepth 20000
set_option maxHeartbeats 4000000
namespace Go.Proofs.YtgmakmfdjhgjlaaGreatDoor
open Go Go.Ab
def SortsF : Prop := ∀ (a b c d e x : Nat) (fs : List Fil) (m : Mc) (g : Tag) (τ : Heap), (ksP m.made).length ≤ 1000 → CallOk cx 26 [.func (.func 65) [] [.ptr 5 x 0], .func (.func 28) [] []] (mcH a b c d e fs m ((x, some (.cells [.map 1 b] g)) :: τ))
    (fun o s => o = .ret (.sl true false 3 (fils (ovT m.made))) ∧ s = mcH a b c d e fs m ((x, some (.cells [.map 1 b] g)) :: τ))
theorem call_step {L : Nat} {fs : List Fil} (hf : TrOk fs) {x : Ln} (hx : LnOk L x) (hL : L ≤ 1000) : ∃ (g : FuncId) (i : Nat), findK (.str x.op) stKV 0 = some (some (i, .func (.func g) [] [])) ∧
    ∀ (a b c d e : Nat) (m : Mc) (τ : Heap), McI m → CallOk cx g ([] ++ [.ptr 3 d 0, lnA x] ++ []) (mcH a b c d e fs m τ) (fun o s => o = .ret (.tup []) ∧ s = mcH a b c d e fs (stepM fs x m) τ) := by
  have hpl : ∀ {p : List UInt8}, isPathB p = true → p.length ≤ 10000000 := fun h => by have := (path_fst h).2.1; omega
  have hq : ∀ {m : Mc}, McI m → ∀ q ∈ ksP m.made, q.length ≤ 10000000 := fun hm q hq => by
    obtain ⟨f, hf, rfl⟩ := ksP_mem.1 hq
    exact hpl (hm.pth f hf).1
  cases hx with
  | @set c0 t _ _ ht => exact ⟨_, 0, rfl, fun a b c d e m τ hm => st1_ok fs [c0] t (by omega) a b c d e m τ hm.ok⟩
  | @read c0 p => exact ⟨_, 1, rfl, fun a b c d e m τ hm => st2_ok fs hf [c0] p _ a b c d e m τ hm.ok⟩
  | @list c0 p _ _ hp => exact ⟨_, 2, rfl, fun a b c d e m τ hm => st3_ok fs hf [c0] p (by rcases hp with rfl | hp; decide; exact hpl hp) _ a b c d e m τ hm.ok⟩
  | @join c0 d0 => exact ⟨_, 3, rfl, fun a b c d e m τ hm => st4_ok fs [c0] [d0] _ a b c d e m τ hm.ok⟩
  | @cut c0 v w i j _ _ hv hw => exact ⟨_, 4, rfl, fun a b c d e m τ hm => st5_ok fs [c0] [v, w] 0 i j (by have := (numT_le hv).1; omega) (by have := (numT_le hw).1; omega) a b c d e m τ hm.ok⟩
  | @size c0 d0 => exact ⟨_, 5, rfl, fun a b c d e m τ hm => st6_ok fs [c0] [d0] _ a b c d e m τ hm.ok⟩
  | @sum c0 => exact ⟨_, 6, rfl, fun a b c d e m τ hm => st7_ok fs [c0] _ a b c d e m τ hm.ok⟩
  | @make c0 p _ _ hp => exact ⟨_, 7, rfl, fun a b c d e m τ hm => st8_ok fs p [c0] _ (hpl hp) a b c d e m τ hm.ok (hq hm)⟩
  | @run c0 p _ _ hp => exact ⟨_, 8, rfl, fun a b c d e m τ hm => st9_ok fs p [c0] _ (hpl hp) a b c d e m τ hm.ok (hq hm)⟩
  | @same c0 d0 w j => exact ⟨_, 9, rfl, fun a b c d e m τ hm => st10_ok fs [c0] [d0] [w] 0 0 j a b c d e m τ hm.ok⟩
  | @less c0 d0 w j => exact ⟨_, 10, rfl, fun a b c d e m τ hm => st11_ok fs [c0] [d0] [w] 0 0 j a b c d e m τ hm.ok⟩
  | @goto w j => exact ⟨_, 11, rfl, fun a b c d e m τ hm => st12_ok fs [w] j a b c d e m τ hm.ok⟩
  | @exit w j => exact ⟨_, 12, rfl, fun a b c d e m τ hm => st13_ok fs [w] j a b c d e m τ hm.ok⟩
def runAV (fs : List Fil) (com : List (List UInt8)) (fuel : Int) : AV :=
  .tup [.sl true false 3 (fils (if boxE fs com fuel = 0 then ovT (runT fs com fuel.toNat).made else [])), .int .i64 (if boxE fs com fuel = 0 then (runT fs com fuel.toNat).code else 0 : Nat),
    .int .i64 (if boxE fs com fuel = 0 then fuel.toNat - (runT fs com fuel.toNat).left else 0 : Nat), .int .i64 (boxE fs com fuel : Nat)]
theorem runAV_free (fs : List Fil) (com : List (List UInt8)) (fuel : Int) : Free true (runAV fs com fuel) := .tup (by intro x hx; simp at hx; rcases hx with rfl | rfl | rfl | rfl; exact .sl (fun _ => rfl) (fils_free _); exact .int; exact .int; exact .int)
theorem run_frz {σ : Heap} {a : AV} {l : List AV} {i j e i' j' e' : Int} (h : Frz true σ a (.sl true false 3 l)) (hi : i = i') (hj : j = j') (he : e = e') : Frz true σ (.tup [a, .int .i64 i, .int .i64 j, .int .i64 e]) (.tup [.sl true false 3 l, .int .i64 i', .int .i64 j', .int .i64 e']) := by
  subst hi; subst hj; subst he
  refine .tup rfl fun k h1 h2 => ?_
  match k, h1 with
  | 0, _ => exact h
  | 1, _ => exact .refl .int
  | 2, _ => exact .refl .int
  | 3, _ => exact .refl .int
  | k + 4, h => exact absurd h (by simp)
theorem TrOk.of {fs : List Fil} (h : chkT fs = 0) : TrOk fs := by
  have hd := DirOk.of h
  exact ⟨hd.len, ok_paths hd.ok, fun f hf => (path_fst (hd.path f hf)).2.1, hd.text⟩
theorem ksP_nd {l : List Fil} (h : (l.map Fil.path).Nodup) : ksP l = l.map Fil.path := by
  have key : ∀ (l : List Fil) (a : List (List UInt8)), (a ++ l.map Fil.path).Nodup → l.foldl (fun ks f => addU ks f.path) a = a ++ l.map Fil.path := by
    intro l
    induction l with
    | nil => intro a _; simp
    | cons f r ih =>
      intro a ha
      rw [List.map_cons] at ha
      have hn : f.path ∉ a := fun hm => (List.nodup_append.1 ha).2.2 f.path hm f.path (List.mem_cons_self ..) rfl
      rw [List.foldl_cons, addU, if_neg hn, ih _ (by rw [List.append_assoc]; exact ha), List.map_cons, List.append_assoc]; rfl
  have := key l [] (by simpa using h)
  simpa [ksP] using this
def mcG (e n : Nat) (fs gs : List Fil) (m : Mc) (τ : Heap) : Heap :=
  (0, mapBx (fs.map Fil.path) (vaP fs)) :: (0, mapBx (ksP m.made) (vaP m.made)) :: (0, regX m) :: (0, some (.cells (mcC 0 0 0 n n m) ⟨false, some 54⟩)) :: (e, some (.cells (texts (gs.map Fil.path)) ⟨false, none⟩)) :: τ
theorem Run_ok (hSF : SortsF) {st fl st' fl' : Bool} (fs : List Fil) (com : List (List UInt8)) (fuel : Int) (hfs : FilsOk fs) (hcl : com.length ≤ 1000000000000) (hfu : -9223372036854775808 ≤ fuel ∧ fuel ≤ 9223372036854775807) :
    Calc cx 13 [.sl st fl 3 (fils fs), .sl st' fl' 1 (texts com), .int .i64 fuel] (runAV fs com fuel) :=
  pure_intro (fun a w => Tryz.call13 a w) Tryz.func13 rfl Tryz.ntmps13 rfl (runAV_free fs com fuel) fun B => by
    have hC := Check_ok (st := st) (fl := fl) fs hfs
    have hP := program_ok (st := st') (fl := fl') com hcl
    have hfr1 : ∀ σ : Heap, Frzs σ [.sl st fl 3 (fils fs)] [.sl st fl 3 (fils fs)] := fun σ => .cons (.refl (.sl (fun h => by cases h) (fils_free _))) (.nil _)
    have hfr2 : ∀ σ : Heap, Frzs σ [.sl st' fl' 1 (texts com)] [.sl st' fl' 1 (texts com)] := fun σ => .cons (.refl (.sl (fun h => by cases h) (texts_any _))) (.nil _)
    unfold runAV
    by_cases h0 : chkT fs = 0
    case neg =>
      have hb : boxE fs com fuel = chkT fs := by unfold boxE; rw [if_neg h0]
      rw [hb, if_neg h0, if_neg h0, if_neg h0]
      generalize chkT fs = k at *
      refine pa [.v (.int .i64 (k : Nat)), .b true] rfl ?_ ?_
      · (repeat' with_reducible apply AllP_cons) <;> try exact aC
        · exact ⟨_, hC, hfr1 _⟩
        · simpa using h0
      exact S_ret ⟨_, _, rfl, trivial, _, rfl, run_frz .nils rfl rfl rfl⟩
    rw [h0] at hC
    have hTr := TrOk.of h0
    unfold proAV at hP
    by_cases h1 : comE com = 0
    case neg =>
      have hb : boxE fs com fuel = comE com := by unfold boxE; rw [if_pos h0, if_neg h1]
      rw [hb, if_neg h1, if_neg h1, if_neg h1]
      rw [if_neg h1] at hP
      generalize comE com = k at *
      generalize comI com = k2 at *
      refine pa [.v (.int .i64 ((0 : Nat) : Int)), .b false, .v (.tup [.sl true false 3 (lns []), .int .i64 (k2 : Nat), .int .i64 (k : Nat)]), .b true] rfl ?_ ?_
      · (repeat' with_reducible apply AllP_cons) <;> try exact aC
        · exact ⟨_, hC, hfr1 _⟩
        · exact ⟨_, hP, hfr2 _⟩
        · simpa using h1
      exact S_ret ⟨_, _, rfl, trivial, _, rfl, run_frz .nils rfl rfl rfl⟩
    have hI0 : comI com = 0 := by unfold comI; rw [h1]; rfl
    obtain ⟨hc60, hcs, prog, hpr⟩ := comE_long h1
    obtain ⟨hpl, hpo⟩ := progT_ok hcs hpr
    rw [if_pos h1, h1, hI0, hpr] at hP
    have hP : Calc cx 22 [.sl st' fl' 1 (texts com)] (.tup [.sl true false 3 (lns prog), .int .i64 ((0 : Nat) : Int), .int .i64 ((0 : Nat) : Int)]) := hP
    have hrT : ∀ k, runT fs com k = runM fs prog (k + 1) (mc0 k) := fun k => by unfold runT; rw [hpr]; rfl
    by_cases hlo : fuel < 0
    · have hb : boxE fs com fuel = 3 := by unfold boxE; rw [if_pos h0, if_pos h1, if_pos (.inl hlo)]
      rw [hb, if_neg (by decide), if_neg (by decide), if_neg (by decide)]
      refine pa [.v (.int .i64 ((0 : Nat) : Int)), .b false, .v (.tup [.sl true false 3 (lns prog), .int .i64 ((0 : Nat) : Int), .int .i64 ((0 : Nat) : Int)]), .b false, .b true, .b true] rfl ?_ ?_
      · (repeat' with_reducible apply AllP_cons) <;> try exact aC
        · exact ⟨_, hC, hfr1 _⟩
        · exact ⟨_, hP, hfr2 _⟩
      exact S_ret ⟨_, _, rfl, trivial, _, rfl, run_frz .nils rfl rfl rfl⟩
    by_cases hhi : 100000 < fuel
    · have hb : boxE fs com fuel = 3 := by unfold boxE; rw [if_pos h0, if_pos h1, if_pos (.inr hhi)]
      rw [hb, if_neg (by decide), if_neg (by decide), if_neg (by decide)]
      refine pa [.v (.int .i64 ((0 : Nat) : Int)), .b false, .v (.tup [.sl true false 3 (lns prog), .int .i64 ((0 : Nat) : Int), .int .i64 ((0 : Nat) : Int)]), .b false, .b false, .b true] rfl ?_ ?_
      · (repeat' with_reducible apply AllP_cons) <;> try exact aC
        · exact ⟨_, hC, hfr1 _⟩
        · exact ⟨_, hP, hfr2 _⟩
      exact S_ret ⟨_, _, rfl, trivial, _, rfl, run_frz .nils rfl rfl rfl⟩
    have hb : boxE fs com fuel = 0 := by unfold boxE; rw [if_pos h0, if_pos h1, if_neg (by rintro (h | h) <;> omega)]
    rw [hb, if_pos rfl, if_pos rfl, if_pos rfl, hrT]
    obtain ⟨fu, rfl⟩ : ∃ fu : Nat, fuel = (fu : Int) := ⟨fuel.toNat, by omega⟩
    rw [Int.toNat_natCast]
    refine pa [.v (.int .i64 ((0 : Nat) : Int)), .b false, .v (.tup [.sl true false 3 (lns prog), .int .i64 ((0 : Nat) : Int), .int .i64 ((0 : Nat) : Int)]), .b false, .b false, .b false] rfl ?_ ?_
    · (repeat' with_reducible apply AllP_cons) <;> try exact aC
      · exact ⟨_, hC, hfr1 _⟩
      · exact ⟨_, hP, hfr2 _⟩
    have mE : (0, some (Box.map [] (some ([], 0)))) = ((0, some (.map [] (some ([], 0)))) : Nat × Option Box) := rfl
    refine pa [.f (.map 0 0) (fun _ => [(0, some (.map [] (some ([], 0))))]), .f (.map 1 0) (fun _ => [(0, some (.map [] (some ([], 0)))), (0, some (.map [] (some ([], 0))))]), .f (.map 2 0) (fun _ => [(0, some (.map [] (some ([], 0)))), (0, some (.map [] (some ([], 0)))), (0, some (.map [] (some ([], 0))))])] rfl ?_ ?_
    · (repeat' with_reducible apply AllP_cons) <;> try exact aC
      all_goals exact OpSpec.mapN (C := []) rfl trivial
    refine S_unstamp (id := 0) rfl ?_ ⟨_, _, .inl rfl⟩
    refine S_unstamp (id := 1) rfl ?_ ⟨_, _, .inl rfl⟩
    refine S_unstamp (id := 2) rfl ?_ ⟨_, _, .inl rfl⟩
    refine S_ghost (id := 3) (j := 1) (gid := 4) (gver := 0) 1 ⟨false, none⟩ rfl rfl rfl (by decide) ⟨_, _, .inl rfl⟩ ?_
    refine S_dead ?_ ⟨_, _, .inl rfl⟩
    have hfl := fils_len fs
    have htn := hTr.len
    refine S_while (α := Nat) (fun i => [(2, .int .i64 (fu : Nat)), (11, .sl true false 3 (lns prog)), (14, .ptr 3 0 0), (45, .sl st fl 3 (fils fs)), (46, .int .i64 (((fils fs).length : Nat) : Int)), (47, .int .i64 (i : Nat))])
      (fun i => mcH 0 0 0 0 i (fs.take i) (mc0 fu) [(i, none)]) (fun i => i ≤ fs.length) (fun i => fs.length - i) 0
      (Nat.zero_le _) (.cons rfl (.cons rfl (.cons rfl (.cons rfl (.cons rfl (.cons rfl (.nil _))))))) rfl ?_
    intro i hi
    have hi : i ≤ fs.length := hi
    by_cases hlt : i < fs.length
    · have e1 : decide ((i : Int) < (((fils fs).length : Nat) : Int)) = true := decide_eq_true (by omega)
      have g1 : (fils fs)[(i : Int).toNat]? = some (filA fs[i]) := fils_get hlt
      have htl : (fs.take i).length = i := by rw [List.length_take]; omega
      have htl2 : (fs.take (i + 1)).length = i + 1 := by rw [List.length_take]; omega
      have hnd : ∀ j, ((fs.take j).map Fil.path).Nodup := fun j => by rw [List.map_take]; exact (List.take_sublist ..).nodup hTr.nd
      have hmap : mapBx (addK ((fs.take i).map Fil.path) fs[i].path) (updF (vaP (fs.take i)) fs[i].path (filA fs[i])) = mapBx ((fs.take (i + 1)).map Fil.path) (vaP (fs.take (i + 1))) := by
        have := mapP_add (fs.take i) fs[i]
        rw [← List.take_succ_eq_append_getElem hlt, ksP_nd (hnd i), ksP_nd (hnd (i + 1))] at this
        exact this
      have htx : texts ((fs.take i).map Fil.path) ++ [.str fs[i].path] = texts ((fs.take (i + 1)).map Fil.path) := by
        rw [List.take_succ_eq_append_getElem hlt]; unfold texts; rw [List.map_append, List.map_append]; rfl
      refine S_heap (mcG i i (fs.take i) (fs.take i) (mc0 fu) [(i, none)]) (by unfold mcH mcG; rw [htl]) ?_
      refine pa [.b true, .v (filA fs[i]), .f (.tup []) (fun _ => mcG i i (fs.take (i + 1)) (fs.take i) (mc0 fu) [filBx (i + 1) fs[i]]), .d 8 9 [] (fun _ => mcG (i + 1) i (fs.take (i + 1)) (fs.take (i + 1)) (mc0 fu) [filBx (i + 1) fs[i]]) [.ms 4 (i + 1) 0 (i + 1) 1 false], .s] rfl ?_ ?_
      · (repeat' with_reducible apply AllP_cons) <;> try exact aC
        all_goals first | exact OpSpec.mput (kt := 9) (et := 38) (ks := (fs.take i).map Fil.path) (val := vaP (fs.take i)) (s := fs[i].path) (v := filA fs[i]) rfl (Tryz.underlying51) rfl rfl rfl rfl rfl (hnd i) (by rw [hmap]; rfl) | skip
        · show 0 + i * 1 = (texts ((fs.take i).map Fil.path)).length
          simp [texts]; omega
        · show (i + 1) * 16 ≤ 140737488355328; omega
        · rw [← htx]; rfl
      refine pan 3 [] rfl ?_ ?_
      · (repeat' with_reducible apply AllP_cons) <;> try exact aC
      refine S_drop (id := 5) rfl ?_ ⟨.skip, _, .inr ⟨_, _, _, rfl⟩⟩
      refine S_heap (mcH 0 0 0 0 (i + 1) (fs.take (i + 1)) (mc0 fu) [(i + 1, none)]) (by unfold mcH; rw [htl2]; rfl) ?_
      refine pB [] rfl ?_
      exact S_round (i + 1) (by show fs.length - (i + 1) < fs.length - i; omega) hlt (.cons rfl (.cons rfl (.cons rfl (.cons rfl (.cons rfl (.cons (nX (by omega)) (.nil _))))))) rfl
    · have e1 : decide ((i : Int) < (((fils fs).length : Nat) : Int)) = false := decide_eq_false (by omega)
      obtain rfl : i = fs.length := by omega
      rw [List.take_length]
      obtain ⟨e, he⟩ : ∃ e, e = fs.length := ⟨_, rfl⟩
      rw [← he]
      rw [← he] at e1
      refine pB [.b false] rfl ?_
      refine S_dead ?_ ⟨_, _, .inl rfl⟩
      have hlp := lns_len prog
      have hmc : McI (mc0 fu) := mc0_ok (by omega)
      refine S_while (α := Mc × Nat × Nat) (fun s => [(2, .int .i64 (fu : Nat)), (11, .sl true false 3 (lns prog)), (14, .ptr 3 0 0)])
        (fun s => mcH 0 0 0 0 e fs s.1 [(s.2.1, none), (s.2.2, none)]) (fun s => McI s.1 ∧ s.1.left ≤ fu ∧ runM fs prog (s.1.left + 1) s.1 = runM fs prog (fu + 1) (mc0 fu)) (fun s => if s.1.done then 0 else s.1.left + 1) (mc0 fu, e, 0)
        ⟨hmc, Nat.le_refl _, rfl⟩ (.cons rfl (.cons rfl (.cons rfl (.nil _)))) rfl ?_
      rintro ⟨m, x, y⟩ ⟨hI, hlf, hrun⟩
      have hlf : m.left ≤ fu := hlf
      have hI : McI m := hI
      have hmany := hI.many
      have hrun : runM fs prog (m.left + 1) m = runM fs prog (fu + 1) (mc0 fu) := hrun
      show S _ _ _ _ _ _ (mcH 0 0 0 0 e fs m [(x, none), (y, none)])
      cases hd : m.done with
      | true =>
        rw [← hrun, runM_done hd]
        refine pa [.b false, .b false, .f (.func (.func 65) [] [.ptr 5 (x + 1) 0]) (fun _ => mcH 0 0 0 0 e fs m [(x + 1, some (.cells [.map 1 0] ⟨false, none⟩)), (y, none)]), .k (.sl true false 3 (fils (ovT m.made)))] rfl ?_ ?_
        · (repeat' with_reducible apply AllP_cons) <;> try exact aC
          · rw [hd]; rfl
          · exact Values_ok 0 0 0 0 e fs m x y
          · exact hSF 0 0 0 0 e (x + 1) fs m ⟨false, none⟩ [(y, none)] (by omega)
        exact S_ret ⟨_, _, rfl, trivial, _, rfl, run_frz (.refl (.sl (fun _ => rfl) (fils_free _))) rfl (by
          show IntKind.i64.wrap ((fu : Int) - (m.left : Int)) = ((fu - m.left : Nat) : Int)
          have := hI.ok.left
          rw [IntWalk.i64_in _ ⟨by omega, by omega⟩]; omega) rfl⟩
      | false =>
        by_cases hpl : m.pc < prog.length
        · have e2 : decide ((m.pc : Int) < (((lns prog).length : Nat) : Int)) = true := decide_eq_true (by omega)
          have hxo := hpo _ (List.getElem_mem hpl)
          have g2 : (lns prog)[(m.pc : Int).toNat]? = some (lnA prog[m.pc]) := by rw [Int.toNat_natCast]; simp [lns, List.getElem?_eq_getElem hpl]
          obtain ⟨g, ix, hfk, hcall⟩ := call_step hTr hxo (by omega)
          have hstep : runM fs prog (m.left + 1) m = runM fs prog m.left (stepM fs prog[m.pc] { m with pc := m.pc + 1 }) := by
            rw [runM, hd, List.getElem?_eq_getElem hpl]; rfl
          have hIn := hI.next (by omega : m.pc + 1 ≤ 1000000)
          have hI2 := hIn.step (fs := fs) hxo (by omega)
          have hless := step_less (fs := fs) (m := { m with pc := m.pc + 1 }) hxo
          have hLe : (stepM fs prog[m.pc] { m with pc := m.pc + 1 }).left ≤ fu := Nat.le_trans hless.le hlf
          generalize prog[m.pc] = z at *
          refine pa [.b true, .b true, .v (lnA z)] rfl ?_ ?_
          · (repeat' with_reducible apply AllP_cons) <;> try exact aC
            · rw [hd]; rfl
          refine S_heap (mcH 0 0 0 0 e fs { m with pc := m.pc + 1 } [(x + 1, some (.cells (lnC z) ⟨false, some 57⟩)), (y, none)]) ?_ ?_
          · have hw : IntKind.i64.wrap ((m.pc : Int) + 1) = ((m.pc + 1 : Nat) : Int) := by rw [IntWalk.i64_in _ ⟨by omega, by omega⟩]; omega
            unfold mcH mcC
            show _ = [_, _, _, (0, some (Box.cells [_, _, _, _, .int .i64 ((m.pc + 1 : Nat) : Int), _, _, _] _)), _, _, _]
            rw [← hw]; rfl
          refine S_drawW (mcH 0 0 0 0 e fs { m with pc := m.pc + 1 } [(x + 1, some (.cells (lnC z) ⟨false, some 57⟩)), (y + 1, some (.map stKV none))]) 0 6 [] [.map 6 (y + 1), .func (.func g) [] []] rfl rfl rfl rfl rfl ?_ ?_
          · (repeat' with_reducible apply AllP_cons) <;> try exact aC
            all_goals first | exact steps_ok 0 0 0 0 e fs { m with pc := m.pc + 1 } (x + 1) (.cells (lnC z) ⟨false, some 57⟩) y | exact OpSpec.map (some (ix, .func (.func g) [] [])) (C := [y + 1 = y + 1, findK (.str z.op) stKV 0 = some (some (ix, .func (.func g) [] []))]) rfl ⟨rfl, hfk, trivial⟩
          refine pan 1 [.f (.tup []) (fun _ => mcH 0 0 0 0 e fs (stepM fs z { m with pc := m.pc + 1 }) [(x + 1, some (.cells (lnC z) ⟨false, some 57⟩)), (y + 1, some (.map stKV none))])] rfl ?_ ?_
          · (repeat' with_reducible apply AllP_cons) <;> try exact aC
            · exact hcall 0 0 0 0 e _ _ hIn
          refine S_drop (id := 5) rfl ?_ ⟨.skip, _, .inr ⟨_, _, _, rfl⟩⟩
          refine S_drop (id := 6) rfl ?_ ⟨.skip, _, .inr ⟨_, _, _, rfl⟩⟩
          refine pB [] rfl ?_
          refine S_round (stepM fs z { m with pc := m.pc + 1 }, x + 1, y + 1) ?_ ⟨hI2, hLe, ?_⟩ (.cons rfl (.cons rfl (.cons rfl (.nil _)))) rfl
          · show (if (stepM fs z { m with pc := m.pc + 1 }).done = true then 0 else (stepM fs z { m with pc := m.pc + 1 }).left + 1) < if m.done = true then 0 else m.left + 1
            rw [if_neg (show ¬ m.done = true by rw [hd]; decide)]
            rcases hless with ⟨h1, _⟩ | h1
            · rw [if_pos h1]; omega
            · have h1 : (stepM fs z { m with pc := m.pc + 1 }).left < m.left := h1
              split <;> omega
          · show runM fs prog ((stepM fs z { m with pc := m.pc + 1 }).left + 1) (stepM fs z { m with pc := m.pc + 1 }) = _
            rw [← hrun, hstep]
            rcases hless with ⟨h1, _⟩ | h1
            · rw [runM_done h1, runM_done h1]
            · exact (runM_fuel hpo _ _ h1).symm
        · have e2 : decide ((m.pc : Int) < (((lns prog).length : Nat) : Int)) = false := decide_eq_false (by omega)
          have hm : runM fs prog (m.left + 1) m = m := by rw [runM, hd, List.getElem?_eq_none (by omega)]; rfl
          rw [← hrun, hm]
          refine pa [.b true, .b false, .f (.func (.func 65) [] [.ptr 5 (x + 1) 0]) (fun _ => mcH 0 0 0 0 e fs m [(x + 1, some (.cells [.map 1 0] ⟨false, none⟩)), (y, none)]), .k (.sl true false 3 (fils (ovT m.made)))] rfl ?_ ?_
          · (repeat' with_reducible apply AllP_cons) <;> try exact aC
            · rw [hd]; rfl
            · exact Values_ok 0 0 0 0 e fs m x y
            · exact hSF 0 0 0 0 e (x + 1) fs m ⟨false, none⟩ [(y, none)] (by omega)
          exact S_ret ⟨_, _, rfl, trivial, _, rfl, run_frz (.refl (.sl (fun _ => rfl) (fils_free _))) rfl (by
            show IntKind.i64.wrap ((fu : Int) - (m.left : Int)) = ((fu - m.left : Nat) : Int)
            have := hI.ok.left
            rw [IntWalk.i64_in _ ⟨by omega, by omega⟩]; omega) rfl⟩
end Go.Proofs.YtgmakmfdjhgjlaaGreatDoor
end
section
set_option linter.unusedVariables false
set_option linter.unusedSimpArgs false
namespace Go.Ab
open Go
theorem wpListIn_spec {cx : Cx} {F : Fence} (hF : ∀ f, F.fn f) {nF n : Nat} {ops : Array Oper} {Q : Exit → Act → World → Prop} {rest : List Oper} {o : Oper} {fr : Fr} {σ σ' : Heap} {v : AV} {r : Rl} {a : Act} {w : World}
    (hg : o.guard = none) (hd : dstOk n o.dst = true) (hdf : ∀ c, o.op ≠ .defer c) (hs : OpSpec cx n fr σ o v σ') (hi : Inv cx r σ w) (hf : FRel r w n fr a)
    (hK : ∀ r' w' v', VRel r' w' v' v → Inv cx r' σ' w' → Ext r σ w r' σ' w' → FRel r' w' n (setA o.dst v fr) (a.put o.dst v') → wpListIn F nF cx.P ops Q rest (a.put o.dst v') w') : wpListIn F nF cx.P ops Q (o :: rest) a w := by
  refine wpListIn_plain hg fun K hK' => ⟨fun f _ => hF f, ?_⟩
  rw [Oper.semAt_eq _ _ _ hdf]
  obtain ⟨r', w', v', hrun, hv, hi', hx⟩ := hs r a w hi hf
  have hf' := (hf.mono (hx.grow hi)).setA hd hv
  rcases hrun with hrun | ⟨hrun, rfl⟩
  · rw [hrun]; exact hK' _ _ (hK r' w' v' hv hi' hx hf')
  · rw [hrun]; exact hK' _ _ (hK r' w' undef hv hi' hx hf')
theorem put_defers (a : Act) (d : Option Nat) (v : Value) : (a.put d v).defers = a.defers := by cases d <;> rfl
structure Off (r : Rl) (l : Nat) : Prop where
  ρ : ∀ id ver o, r.ρ id ver ≠ some (l, o)
  I : ¬ r.I l
theorem Off.live {r : Rl} {l : Nat} (h : Off r l) (σ : Heap) : ¬ Live r σ l := by
  rintro ⟨id, ver, x, o, _, h2⟩
  exact h.ρ id ver o h2
theorem Off.ext {r r' : Rl} {σ σ' : Heap} {w w' : World} {l : Nat} (h : Off r l) (hl : l < w.heap.size) (hx : Ext r σ w r' σ' w') : Off r' l := by
  refine ⟨fun id ver o hρ => ?_, fun hI => ?_⟩
  · rcases hx.blk id ver l o hρ with ⟨v, o', h'⟩ | h'
    · exact h.ρ _ _ _ h'
    · omega
  · rcases hx.If l hI with h' | h' | h'
    · exact h.I h'
    · exact h.live σ h'
    · omega
theorem Off.same {r r' : Rl} {σ σ' : Heap} {w w' : World} {l : Nat} (h : Off r l) (hl : l < w.heap.size) (hx : Ext r σ w r' σ' w') : w'.heap[l]? = w.heap[l]? := hx.same l hl (h.live σ)
theorem Off.new {cx : Cx} {r : Rl} {σ : Heap} {w : World} {l : Nat} (hi : Inv cx r σ w) (hl : w.heap.size ≤ l) : Off r l := by
  refine ⟨fun id ver o hρ => ?_, fun hI => ?_⟩
  · have := (hi.lt id ver l o hρ).2; omega
  · have := hi.Ilt l hI; omega
theorem putObj_other {w : World} {l k : Nat} {o : Obj} (h : k ≠ l) : (w.putObj l o).heap[k]? = w.heap[k]? := World.putObj_heap_other h
theorem putObj_size (w : World) (l : Nat) (o : Obj) : (w.putObj l o).heap.size = w.heap.size := by simp [World.putObj]
theorem Inv.poke {cx : Cx} {r : Rl} {σ : Heap} {w : World} {l : Nat} {o0 : Obj} (hi : Inv cx r σ w) (hl : w.heap[l]? = some o0) (hc : ∀ c t f, o0 ≠ .cells c t f) (ho : Off r l) (o : Obj) : Inv cx r σ (w.putObj l o) := by
  have g : Grow r w r (w.putObj l o) := by
    refine ⟨fun _ h => h, fun _ h => h, fun _ _ _ h => h, fun b hb => putObj_other (fun e => ho.I (e ▸ hb)), fun b c t f hb => ⟨c, f, ?_, rfl⟩⟩
    rw [putObj_other (fun e => by subst e; rw [hl] at hb; cases hb; exact hc _ _ _ rfl)]
    exact hb
  refine ⟨fun id ver x hx => ?_, fun id ver b o' hρ => ?_, hi.inj, hi.imm, fun b hb => by rw [putObj_size]; exact hi.Ilt b hb, hi.SI, hi.glob.mono g hi.SI⟩
  · rcases hi.box id ver x hx with ⟨b, o', hρ, hb⟩ | h
    · exact .inl ⟨b, o', hρ, hb.mono g (putObj_other (fun e => ho.ρ id ver o' (e ▸ hρ)))⟩
    · exact .inr h
  · obtain ⟨h1, h2⟩ := hi.lt id ver b o' hρ
    exact ⟨h1, by rw [putObj_size]; exact h2⟩
theorem FRel.poke {r : Rl} {w : World} {n : Nat} {fr : Fr} {a : Act} {l : Nat} {o0 : Obj} (hf : FRel r w n fr a) (hl : w.heap[l]? = some o0) (hc : ∀ c t f, o0 ≠ .cells c t f) (ho : Off r l) (o : Obj) : FRel r (w.putObj l o) n fr a := by
  refine hf.mono ⟨fun _ h => h, fun _ h => h, fun _ _ _ h => h, fun b hb => putObj_other (fun e => ho.I (e ▸ hb)), fun b c t f hb => ⟨c, f, ?_, rfl⟩⟩
  rw [putObj_other (fun e => by subst e; rw [hl] at hb; cases hb; exact hc _ _ _ rfl)]
  exact hb
theorem Ext.poke {r r' : Rl} {σ σ' : Heap} {w w' : World} {l : Nat} {o0 o1 : Obj} (hl : w.heap[l]? = some o0) (hc : ∀ c t f, o0 ≠ .cells c t f) (ho : Off r l) (hx : Ext r σ (w.putObj l o1) r' σ' w') : Ext r σ w r' σ' (w'.putObj l o0) := by
  have hsz := putObj_size w l o1
  have hll : l < w.heap.size := by
    rcases Nat.lt_or_ge l w.heap.size with h | h
    · exact h
    · rw [Array.getElem?_eq_none h] at hl; cases hl
  refine ⟨hx.S, hx.I, fun b h => by rw [← hsz]; exact hx.Sf b h, fun b h => by rw [← hsz]; exact hx.If b h, hx.ρ, by rw [putObj_size, ← hsz]; exact hx.hs, hx.σl, fun b hb hlv => ?_, fun b h => by rw [← hsz]; exact hx.liv b h, fun b c t f hb => ?_, hx.os, hx.output, hx.tape,
    fun id ver b o h => by rw [← hsz]; exact hx.blk id ver b o h⟩
  · by_cases hbl : b = l
    · subst hbl
      rw [hl]
      exact World.putObj_heap_same (by have := hx.hs; omega)
    · rw [putObj_other hbl, hx.same b (by omega) hlv, putObj_other hbl]
  · have hbl : b ≠ l := fun e => by subst e; rw [hl] at hb; cases hb; exact hc _ _ _ rfl
    obtain ⟨c', f', h1, h2⟩ := hx.size b c t f (by rw [putObj_other hbl]; exact hb)
    exact ⟨c', f', by rw [putObj_other hbl]; exact h1, h2⟩
theorem Ext.poke_new {r r' : Rl} {σ σ' : Heap} {w w' : World} {l : Nat} (hl : w.heap.size ≤ l) (hx : Ext r σ w r' σ' w') (o : Obj) : Ext r σ w r' σ' (w'.putObj l o) := by
  refine ⟨hx.S, hx.I, hx.Sf, hx.If, hx.ρ, by rw [putObj_size]; exact hx.hs, hx.σl, fun b hb hlv => ?_, hx.liv, fun b c t f hb => ?_, hx.os, hx.output, hx.tape, hx.blk⟩
  · rw [putObj_other (by omega)]; exact hx.same b hb hlv
  · have hbl : b < w.heap.size := by
      rcases Nat.lt_or_ge b w.heap.size with h | h
      · exact h
      · rw [Array.getElem?_eq_none h] at hb; cases hb
    obtain ⟨c', f', h1, h2⟩ := hx.size b c t f hb
    exact ⟨c', f', by rw [putObj_other (by omega)]; exact h1, h2⟩
theorem Inv.ghostAt {cx : Cx} {r : Rl} {σ σ' : Heap} {w : World} {id cur j gid gver : Nat} {cs : List AV} {g : Tag} (sz : Nat) (g' : Tag) (h : σ[id]? = some (cur, some (.cells cs g))) (hj : cs[j]? = some .nils) (ha : allocH σ (.cells [] g') = (gid, gver, σ')) (hne : id ≠ gid) (hi : Inv cx r σ w) :
    Inv cx r (σ'.set id (cur, some (.cells (cs.set j (.ms gid gver 0 0 sz false)) g))) w ∧ Ext r σ w r (σ'.set id (cur, some (.cells (cs.set j (.ms gid gver 0 0 sz false)) g))) w := by
  obtain ⟨ha1, ha2, ha3⟩ := allocH_spec ha
  obtain ⟨g1, g2⟩ := hi.ghost ha1 ha2 ha3
  obtain ⟨q1, q2⟩ := g1.recast (y := .cells (cs.set j (.ms gid gver 0 0 sz false)) g) (by rw [ha2 id hne]; exact h) (fun b o hb => nils_ms hj hb) (fun ro hro => by cases hro; simp at hj)
  exact ⟨q1, g2.trans q2⟩
def CallX (cx : Cx) (f : FuncId) (args : List AV) (σ : Heap) (X : Rl → World → Prop) (R : Out → Heap → Prop) : Prop :=
  ∀ r w vs, Inv cx r σ w → VRels r w vs args → X r w → Calls cx.P f vs w fun e w' => ∃ o σ' r', R o σ' ∧ ORel r' w' e o ∧ Inv cx r' σ' w' ∧ Ext r σ w r' σ' w'
theorem callX_intro {cx : Cx} {f : FuncId} {fn : Func} {c : Code} {n : Nat} {args : List AV} {σ : Heap} {X : Rl → World → Prop} {R : Out → Heap → Prop} (hf : cx.P.funcs[f]? = some fn) (hb : fn.body = some c) (hn : fn.ntmps = n) (ha : Nat.ble args.length n = true)
    (h : ∀ r w, Inv cx r σ w → X r w → S cx n ⟨r, σ, w, false⟩ [.code c] (retQ cx fn R) (enterFr 0 args) σ) : CallX cx f args σ X R := by
  intro r w vs hi hv hX
  subst hn
  refine calls_of_wp hf hb ?_
  have hwp := h r w hi hX r _ w hi (enter_rel hv (Nat.le_of_ble_eq_true ha)) (fun _ => rfl) (Ext.refl _ _ _)
  refine wp_mono hwp fun e a w' hq => ?_
  obtain ⟨ae, fr', σ', r', hq, he, hi', hf', hd', hx'⟩ := hq
  cases e <;> cases ae <;> first | exact he.elim | skip
  · obtain ⟨C, us, h1, h2, h3⟩ := hq
    obtain ⟨v', h4, h5⟩ := results_run (fn := fn) hi' hf' h1 h2
    exact ⟨hd' rfl, v', h4, _, σ', r', h3, h5, hi', hx'⟩
  · exact hq.elim
  · exact hq.elim
  · obtain ⟨C, us, h1, h2, h3⟩ := hq
    obtain ⟨v', h4, h5⟩ := results_run (fn := fn) hi' hf' h1 h2
    exact ⟨hd' rfl, v', h4, _, σ', r', h3, h5, hi', hx'⟩
  · exact ⟨hd' rfl, _, σ', r', hq, he, hi', hx'⟩
def YieldOk (cx : Cx) (B : Bs) (l : Nat) (cs : List AV) (σ σ' : Heap) : Prop := ∀ (m : Nat) r w v, Inv cx r σ w → Ext B.r B.σ B.w r σ w → VRel r w v (.agg cs) →
  YieldAt Fence.wide m cx.P l #[v] w (fun e w' => e = .returned (.bool true) ∧ ∃ r', Inv cx r' σ' w' ∧ Ext r σ w r' σ' w')
section
variable {cx : Cx} {n : Nat} {B : Bs} {k : List AI} {Q : Post} {fr : Fr} {σ : Heap}
theorem S_yieldR {id : Nat} {o0 o1 o2 o3 : Oper} {l : Nat} {cs : List AV} {σ' : Heap} {d0 d1 : Nat} {tys : Array TypeId} (hops : ∀ o ∈ [o0, o1, o2, o3], o.guard = none ∧ dstOk n o.dst = true) (hdf : ∀ o ∈ [o0, o1, o3], ∀ c, o.op ≠ .defer c)
    (h0 : OpSpec cx n fr σ o0 (.func (.yield l) [] []) σ) (h1 : OpSpec cx n (setA o0.dst (.func (.yield l) [] []) fr) σ o1 (.agg cs) σ) (h2 : o2.op = .call { callee := .value (.tmp d0), args := #[.tmp d1], argTypes := tys })
    (hd0 : (setA o1.dst (.agg cs) (setA o0.dst (.func (.yield l) [] []) fr)).get d0 = .func (.yield l) [] []) (hd1 : (setA o1.dst (.agg cs) (setA o0.dst (.func (.yield l) [] []) fr)).get d1 = .agg cs)
    (hY : YieldOk cx B l cs σ σ') (h3 : OpSpec cx n (setA o2.dst (.bool true) (setA o1.dst (.agg cs) (setA o0.dst (.func (.yield l) [] []) fr))) σ' o3 (.bool false) σ')
    (hk : S cx n B k Q (setA o3.dst (.bool false) (setA o2.dst (.bool true) (setA o1.dst (.agg cs) (setA o0.dst (.func (.yield l) [] []) fr)))) σ') :
    S cx n B (.code (.region id #[o0, o1, o2, o3] false) :: k) Q fr σ := by
  intro r a w hi hf hd hx
  have hw : ∀ f, Fence.wide.fn f := fun _ => trivial
  refine (wpIn_wide (n := 5)).1 (wpIn_region_list ?_)
  refine wpListIn_spec hw (hops o0 (by simp)).1 (hops o0 (by simp)).2 (hdf o0 (by simp)) h0 hi hf fun r1 w1 v1 hv1 hi1 hx1 hf1 => ?_
  refine wpListIn_spec hw (hops o1 (by simp)).1 (hops o1 (by simp)).2 (hdf o1 (by simp)) h1 hi1 hf1 fun r2 w2 v2 hv2 hi2 hx2 hf2 => ?_
  have hE := (hx.trans hx1).trans hx2
  have g0 := hf2.get d0
  have g1 := hf2.get d1
  rw [hd0] at g0
  rw [hd1] at g1
  have e0 : ((a.put o0.dst v1).put o1.dst v2).eval (.tmp d0) = .func (.yield l) #[] #[] := by
    show ((a.put o0.dst v1).put o1.dst v2).tmps.getD d0 undef = _
    generalize ((a.put o0.dst v1).put o1.dst v2).tmps.getD d0 undef = z at g0
    cases g0 with
    | func q1 _ q2 _ =>
      rw [Array.eq_empty_of_size_eq_zero q1, Array.eq_empty_of_size_eq_zero q2]
  have g1' : VRel r2 w2 (((a.put o0.dst v1).put o1.dst v2).eval (.tmp d1)) (.agg cs) := g1
  obtain ⟨fn, tmps, assign, body, hy, hR⟩ := hY (5 - 1) r2 w2 _ hi2 hE g1'
  refine wpListIn_plain (hops o2 (by simp)).1 fun K hK => ⟨fun f _ => trivial, ?_⟩
  rw [Oper.semAt_eq _ _ _ (by rw [h2]; intro c hc; cases hc)]
  have hrun : (execOp ((a.put o0.dst v1).put o1.dst v2).eval o2).run cx.P w2 = .ok (.round l fn tmps assign body) w2 := by
    simp only [execOp, h2, resolve, Sem.run_bind, e0, Deferred.ofValue, Sem.run_pure, Result.andThen_ok, invoke, callFunc, Array.map, Array.append_empty, Array.empty_append]
    first | exact hy | simpa using hy
  rw [hrun]
  refine ⟨(fun h => by cases h), hR.mono ?_⟩
  rintro e w3 ⟨rfl, r3, hi3, hx3⟩
  have hf3 := (hf2.mono (hx3.grow hi2)).setA (hops o2 (by simp)).2 (VRel.bool (b := true))
  refine hK _ _ ?_
  refine wpListIn_spec hw (hops o3 (by simp)).1 (hops o3 (by simp)).2 (hdf o3 (by simp)) h3 hi3 hf3 fun r4 w4 v4 hv4 hi4 hx4 hf4 => ?_
  refine wpListIn_nil (Lift.mk hk trivial hi4 hf4 (fun hb => ?_) ((hE.trans hx3).trans hx4))
  rw [put_defers, put_defers, put_defers, put_defers]
  exact hd hb
end
end Go.Ab
end
section
set_option linter.unusedVariables false
set_option linter.unusedSimpArgs false
set_option maxRecDepth 20000
set_option maxHeartbeats 4000000
namespace Go.Proofs.YtgmakmfdjhgjlaaGreatDoor
open Go Go.Ab
def HJ (a b c d e x : Nat) (fs : List Fil) (m : Mc) (g : Tag) (st : Option (List Nat × Nat)) (pre : List Fil) (τ : Heap) : Heap :=
  mcS a b c d e fs m st ((x, some (.cells [.map 1 b] g)) :: (0, some (.cells [.ms 7 pre.length 0 pre.length 3 false] ⟨false, none⟩)) :: (pre.length, some (.cells (celsF pre) ⟨false, none⟩)) :: τ)
def filC (f : Fil) : List AV := [.str f.path, .str f.text, .bool f.run]
def filD (v : Nat) (f : Fil) : Nat × Option Box := (v, some (.cells (filC f) ⟨false, some 38⟩))
def GathX (a b c d e x : Nat) (fs : List Fil) (m : Mc) (g : Tag) (l : Nat) : Rl → World → Prop := fun r w => ∀ (pre : List Fil) (f h : Fil) (st : Option (List Nat × Nat)) (c0 : Nat) (sn : List Nat) (vf : Nat), pre.length ≤ 1000 →
  YieldOk cx ⟨r, HJ a b c d e x fs m g none [] [], w, false⟩ l (filC f) (HJ a b c d e x fs m g st pre [(0, some (.miter 1 b c0 sn c0)), filD vf h]) (HJ a b c d e x fs m g st (pre ++ [f]) [(0, some (.miter 1 b c0 sn c0)), filD vf h])
theorem Values1_ok (a b c d e x : Nat) (fs : List Fil) (m : Mc) (g : Tag) (l : Nat) (hml : (ksP m.made).length ≤ 1000) :
    CallX cx 65 [.func (.yield l) [] [], .ptr 5 x 0] (HJ a b c d e x fs m g none [] []) (GathX a b c d e x fs m g l)
    (fun o s => o = .ret (.tup []) ∧ ∃ ps : List Fil, ps.Perm ((ksP m.made).map (lastF m.made)) ∧ ∃ u v : Nat, s = HJ a b c d e x fs m g none ps [(u, none), (v, none)]) :=
  callX_intro Tryz.func65 rfl Tryz.ntmps65 rfl fun r w hi hX => by
    refine pB [.s] rfl ?_
    refine S_stamp (id := 1) rfl (fun bs c0 hbl hbn hbc => ?_) ⟨.skip, _, .inr ⟨_, _, _, rfl⟩⟩
    have hbl : bs.length = (ksP m.made).length := by rw [hbl]; unfold mapF; rw [List.length_map]
    refine pa [.f (.ptr 8 0 0) (fun _ => HJ a b c d e x fs m g (some (bs, c0)) [] [(0, some (.miter 1 b c0 [] c0))])] rfl ?_ ?_
    · (repeat' with_reducible apply AllP_cons) <;> try exact aC
      · exact OpSpec.mapN (C := [b = b]) rfl ⟨rfl, trivial⟩
    refine S_dead ?_ ⟨_, _, .inl rfl⟩
    have hnat : ∀ sn : List Nat, sn.Nodup → (∀ x ∈ sn, x ∈ bs) → sn.length ≤ bs.length := fun sn h1 h2 => List.Nodup.length_le_of_subset h1 h2
    obtain ⟨fl, hfl⟩ : ∃ fl : Nat → Fil, ∀ bb, fl bb = lastF m.made ((ksP m.made).getD (bs.idxOf bb) []) := ⟨fun bb => lastF m.made ((ksP m.made).getD (bs.idxOf bb) []), fun _ => rfl⟩
    refine S_while (α := List Nat) (fun sn => [(0, .func (.yield l) [] []), (6, .ptr 8 0 0)]) (fun sn => HJ a b c d e x fs m g (some (bs, c0)) (sn.map fl) [(0, some (.miter 1 b c0 sn c0)), (sn.length, none)])
      (fun sn => sn.Nodup ∧ ∀ x ∈ sn, x ∈ bs) (fun sn => bs.length - sn.length) [] ⟨.nil, fun x h => by cases h⟩ (.cons rfl (.cons rfl (.nil _))) rfl ?_
    rintro sn ⟨hs1, hs2⟩
    refine pB [] rfl ?_
    refine S_mnext (id := 8) (ver := 0) (mid := 1) (mver := b) (since := c0) (last := c0) (c := c0) (seen := sn) (bs := bs) (kvs := mapF (ksP m.made) (vaP m.made)) rfl rfl rfl rfl (fun x hx => hbc x hx) (Nat.le_refl _) rfl rfl ?_ ?_
    · intro i bb hi2 hb hns
      have hi3 : i < (ksP m.made).length := by simpa [mapF] using hi2
      have hkv : (mapF (ksP m.made) (vaP m.made))[i]? = some (.str (ksP m.made)[i], vaP m.made (ksP m.made)[i]) := by simp [mapF, List.getElem?_eq_getElem hi3]
      have hbm : bb ∈ bs := List.mem_of_getElem? hb
      have hn2 : (sn ++ [bb]).Nodup := List.nodup_append.2 ⟨hs1, by simp, fun x hx y hy => by simp at hy; subst hy; exact fun e => hns (e ▸ hx)⟩
      have hm2 : ∀ x ∈ sn ++ [bb], x ∈ bs := fun x hx => by
        rcases List.mem_append.1 hx with hx | hx
        · exact hs2 x hx
        · simp at hx; subst hx; exact hbm
      have hlen2 := hnat _ hn2 hm2
      rw [List.length_append] at hlen2
      have hlen2 : sn.length + 1 ≤ bs.length := hlen2
      have hib : i < bs.length := by omega
      have hidx : bs.idxOf bb = i := by
        have h1 : bs.idxOf bb < bs.length := List.idxOf_lt_length_of_mem hbm
        have h2 : bs[bs.idxOf bb] = bb := List.getElem_idxOf h1
        rw [List.getElem?_eq_getElem hib] at hb
        exact (List.getElem_inj (h₀ := h1) (h₁ := hib) hbn).1 (h2.trans (Option.some.inj hb).symm)
      have hfb : lastF m.made (ksP m.made)[i] = fl bb := by rw [hfl, hidx]; simp [List.getD, List.getElem?_eq_getElem hi3]
      have hva : vaP m.made (ksP m.made)[i] = filA (fl bb) := by unfold vaP; rw [hfb]
      rw [hva] at hkv
      have hmap : (sn ++ [bb]).map fl = sn.map fl ++ [fl bb] := by rw [List.map_append]; rfl
      generalize hff : fl bb = f at *
      refine pa [.b true, .v (.tup [.str (ksP m.made)[i], filA f]), .s] rfl ?_ ?_
      · (repeat' with_reducible apply AllP_cons) <;> try exact aC
        · exact OpSpec.entryG (id := 8) (ver := 0) (mid := 1) (mver := b) (since := c0) (c := c0) (i := i) (b := bb) (seen := sn) (bs := bs) rfl rfl rfl rfl hb hkv
      refine pan 5 [] rfl ?_ ?_
      · (repeat' with_reducible apply AllP_cons) <;> try exact aC
      refine S_heap (HJ a b c d e x fs m g (some (bs, c0)) (sn.map fl) [(0, some (.miter 1 b c0 (sn ++ [bb]) c0)), filD (sn.length + 1) f]) rfl ?_
      refine S_yieldR (l := l) (cs := filC f) (σ' := HJ a b c d e x fs m g (some (bs, c0)) (sn.map fl ++ [f]) [(0, some (.miter 1 b c0 (sn ++ [bb]) c0)), filD (sn.length + 1) f]) (d0 := 11) (d1 := 12)
        (by intro o ho; simp only [List.mem_cons, List.not_mem_nil, or_false] at ho; rcases ho with rfl | rfl | rfl | rfl <;> exact ⟨rfl, rfl⟩) (by intro o ho c hc; simp only [List.mem_cons, List.not_mem_nil, or_false] at ho; rcases ho with rfl | rfl | rfl <;> cases hc)
        (OpSpec.aop rfl (by (repeat' with_reducible apply AllP_cons) <;> try exact aC)) (OpSpec.aop rfl (by (repeat' with_reducible apply AllP_cons) <;> try exact aC)) rfl rfl rfl (hX (sn.map fl) f f (some (bs, c0)) c0 (sn ++ [bb]) (sn.length + 1) (by rw [List.length_map]; omega)) (OpSpec.aop rfl (by (repeat' with_reducible apply AllP_cons) <;> try exact aC)) ?_
      refine S_drop (id := 9) rfl ?_ ⟨_, _, .inl rfl⟩
      refine S_heap (HJ a b c d e x fs m g (some (bs, c0)) ((sn ++ [bb]).map fl) [(0, some (.miter 1 b c0 (sn ++ [bb]) c0)), ((sn ++ [bb]).length, none)]) ?_ ?_
      · rw [hmap, List.length_append]; rfl
      refine pB [.b false] rfl ?_
      exact S_round (sn ++ [bb]) (by show bs.length - (sn ++ [bb]).length < bs.length - sn.length; rw [List.length_append]; show bs.length - (sn.length + 1) < _; omega) ⟨hn2, hm2⟩ (.cons rfl (.cons rfl (.nil _))) rfl
    · intro hall
      refine S_unstamp (id := 1) rfl ?_ ⟨.skip, _, .inr ⟨_, _, _, rfl⟩⟩
      refine S_drop (id := 8) rfl ?_ ⟨.skip, _, .inr ⟨_, _, _, rfl⟩⟩
      refine pB [.b false] rfl ?_
      refine S_nil ⟨_, _, rfl, trivial, rfl, sn.map fl, ?_, 0, sn.length, rfl⟩
      have h1 : sn.Perm bs := (List.perm_ext_iff_of_nodup hs1 hbn).2 fun z => ⟨fun h => hs2 z h, fun h => hall z h⟩
      refine (h1.map fl).trans ?_
      have h2 : bs.map fl = (ksP m.made).map (lastF m.made) := by
        refine List.ext_getElem (by simp [hbl]) fun j h3 h4 => ?_
        have hj : j < bs.length := by simpa using h3
        have hj2 : j < (ksP m.made).length := by omega
        rw [List.getElem_map, List.getElem_map, hfl]
        have : bs.idxOf bs[j] = j := (List.getElem_inj (h₀ := List.idxOf_lt_length_of_mem (List.getElem_mem hj)) (h₁ := hj) hbn).1 (List.getElem_idxOf (List.idxOf_lt_length_of_mem (List.getElem_mem hj)))
        rw [this]; simp [List.getD, List.getElem?_eq_getElem hj2]
      rw [h2]
end Go.Proofs.YtgmakmfdjhgjlaaGreatDoor
end
section
set_option linter.unusedVariables false
set_option linter.unusedSimpArgs false
set_option maxRecDepth 20000
set_option maxHeartbeats 1000000
namespace Go.Proofs.YtgmakmfdjhgjlaaGreatDoor
open Go Go.Ab
def apAssign : Code := (Code.region 2 #[{ dst := some 5, op := Op.alloc 38, type := 0, pos := "iter.go:51", after := #[], guard := none }, { dst := none, op := Op.store 38 (Operand.tmp 5) (Operand.tmp 7), type := 0, pos := "iter.go:51", after := #[{ on := 0, ground := Ground.data }, { on := 0, ground := Ground.phase }], guard := none }] false)
def apBody : Code := (Code.block 1 (Code.region 3 #[{ dst := some 8, op := Op.load 28 (Operand.tmp 2), type := 28, pos := "iter.go:52", after := #[], guard := none }, { dst := some 9, op := Op.load 38 (Operand.tmp 5), type := 38, pos := "iter.go:52", after := #[], guard := none },
  { dst := some 10, op := Op.buildSlice 28 1 #[(0, Operand.tmp 9)], type := 28, pos := "iter.go:52", after := #[{ on := 1, ground := Ground.data }], guard := none },
  { dst := some 11, op := Op.call { callee := Callee.builtin Builtin.append, args := #[Operand.tmp 8, Operand.tmp 10], argTypes := #[28, 28] }, type := 28, pos := "iter.go:52", after := #[{ on := 0, ground := Ground.data }, { on := 2, ground := Ground.data }], guard := none },
  { dst := none, op := Op.store 28 (Operand.tmp 2) (Operand.tmp 11), type := 0, pos := "iter.go:52", after := #[{ on := 3, ground := Ground.data }, { on := 3, ground := Ground.chain }, { on := 0, ground := Ground.phase }, { on := 1, ground := Ground.phase }, { on := 2, ground := Ground.phase }, { on := 3, ground := Ground.phase }], guard := none }] false))
def apRec (fn : FuncId) (tmps : Array Value) (D : Nat) : Loop := { state := .ready, pending := none, fn, tmps, params := #[7], assign := apAssign, body := apBody, defers := D }
theorem HJ_low8 (k : Nat) (hk : 8 ≤ k) (a b c d e x : Nat) (fs : List Fil) (m : Mc) (g : Tag) (st : Option (List Nat × Nat)) (pre : List Fil) (τ : Heap) (id ver : Nat) (y : Box) (hid : id < 8) (hx : (HJ a b c d e x fs m g st pre τ)[id]? = some (ver, some y)) : LowBox k y := by
  match id, hid with
  | 0, _ => exact mapX_low (vaP_free _) (by cases hx; rfl)
  | 1, _ =>
    cases hx
    refine .map fun p hp => ?_
    unfold mapF at hp
    obtain ⟨t, _, rfl⟩ := List.mem_map.1 hp
    exact ⟨.str, Low.free (st := false) (vaP_free _ _)⟩
  | 2, _ => exact mapX_low (ks := m.ks) (f := fun k => .str (m.regs k)) (fun _ => .str) (by cases hx; rfl)
  | 3, _ =>
    cases hx
    refine .cells fun y hy => ?_
    simp only [mcC, List.mem_cons, List.not_mem_nil, or_false] at hy
    rcases hy with rfl | rfl | rfl | rfl | rfl | rfl | rfl | rfl
    · exact .map (by omega)
    · exact .ms (by omega)
    · exact .map (by omega)
    · exact .map (by omega)
    · exact .int
    · exact .int
    · exact .int
    · exact .bool
  | 4, _ =>
    cases hx
    exact .cells fun y hy => Low.free (st := false) (texts_any _ y hy)
  | 5, _ =>
    cases hx
    exact .cells fun y hy => by simp at hy; subst hy; exact .map (by omega)
  | 6, _ =>
    cases hx
    exact .cells fun y hy => by simp at hy; subst hy; exact .ms (by omega)
  | 7, _ =>
    cases hx
    exact .cells fun y hy => Low.free (st := false) (cels_free pre y hy)
theorem HJ_low (a b c d e x : Nat) (fs : List Fil) (m : Mc) (g : Tag) (st : Option (List Nat × Nat)) (pre : List Fil) (c0 : Nat) (sn : List Nat) (vf : Nat) (h : Fil) (τ : Heap) : LowH 10 (HJ a b c d e x fs m g st pre ((0, some (.miter 1 b c0 sn c0)) :: filD vf h :: τ)) := by
  intro id ver y hid hx
  by_cases h8 : id < 8
  · exact HJ_low8 10 (by omega) a b c d e x fs m g st pre _ id ver y h8 hx
  by_cases h9 : id = 8
  · subst h9
    cases hx
    exact .miter (by decide)
  · obtain rfl : id = 9 := by omega
    cases hx
    exact .cells fun y hy => by simp only [filC, List.mem_cons, List.not_mem_nil, or_false] at hy; rcases hy with rfl | rfl | rfl; exact .str; exact .str; exact .bool
theorem gath_ok (a b c d e x : Nat) (fs : List Fil) (m : Mc) (g : Tag) (l D : Nat) (fn : FuncId) (tmps : Array Value) {r : Rl} {w : World} (hL : w.heap[l]? = some (.loop (apRec fn tmps D))) (ho : Off r l) (hf : FRel r w 13 [(2, .ptr 6 0 0)] { tmps := tmps, defers := [] })
    (hi : Inv cx r (HJ a b c d e x fs m g none [] []) w) : GathX a b c d e x fs m g l r w := by
  intro pre f h st c0 sn vf hpl k r1 w1 v hi1 hx1 hv
  have hll : l < w.heap.size := by
    rcases Nat.lt_or_ge l w.heap.size with h | h
    · exact h
    · rw [Array.getElem?_eq_none h] at hL; cases hL
  have hL1 : w1.heap[l]? = some (.loop (apRec fn tmps D)) := (ho.same hll hx1).trans hL
  have ho1 := ho.ext hll hx1
  have hf1 := hf.mono (hx1.grow hi)
  have hw : ∀ f, (Fence.wide.inRound l).fn f := fun _ => trivial
  refine ⟨fn, tmps.setIfInBounds 7 v, apAssign, apBody, ?_, roundIn_of_wpIn trivial ?_⟩
  · have := run_yield (P := cx.P) (args := #[v]) hL1 rfl
    simpa [apRec] using this
  have hf2 := hf1.set (d := 7) (by decide) hv
  have hf2 : FRel r1 w1 13 [(7, .agg (filC f)), (2, .ptr 6 0 0)] { tmps := tmps.setIfInBounds 7 v, defers := [] } := hf2
  unfold apAssign
  refine wpIn_region_list ?_
  refine wpListIn_spec (n := 13) (v := .ptr 10 0 0) (σ' := HJ a b c d e x fs m g st pre [(0, some (.miter 1 b c0 sn c0)), filD vf h, filD 0 ⟨[], [], false⟩]) hw rfl rfl (by intro c hc; cases hc) (OpSpec.aop rfl (by (repeat' with_reducible apply AllP_cons) <;> try exact aC)) hi1 hf2 fun r2 w2 v2 hv2 hi2 hx2 hf3 => ?_
  refine wpListIn_spec (n := 13) (v := .tup []) (σ' := HJ a b c d e x fs m g st pre [(0, some (.miter 1 b c0 sn c0)), filD vf h, filD 0 f]) hw rfl rfl (by intro c hc; cases hc) (OpSpec.aop rfl (by (repeat' with_reducible apply AllP_cons) <;> try exact aC)) hi2 hf3 fun r3 w3 v3 hv3 hi3 hx3 hf4 => ?_
  refine wpListIn_nil ?_
  have hsz1 : w.heap.size ≤ w1.heap.size := hx1.hs
  have hx13 := hx2.trans hx3
  have ho3 := ho1.ext (by omega) hx13
  have hL3 : w3.heap[l]? = some (.loop (apRec fn tmps D)) := (ho1.same (by omega) hx13).trans hL1
  have hnc : ∀ (q : Loop) (cs : Array Value) (t : TypeId) (fz : Nat × Nat), Obj.loop q ≠ .cells cs t fz := fun q cs t fz h => by cases h
  refine ⟨_, run_beginRound hL3 rfl, ?_⟩
  have hi3' := hi3.poke hL3 (hnc _) ho3 (.loop { apRec fn tmps D with state := .busy })
  have hf4' := hf4.poke hL3 (hnc _) ho3 (.loop { apRec fn tmps D with state := .busy })
  have hll3 : l < w3.heap.size := by have := hx13.hs; omega
  have hLb : (w3.putObj l (.loop { apRec fn tmps D with state := .busy })).heap[l]? = some (.loop { apRec fn tmps D with state := .busy }) := World.putObj_heap_same hll3
  generalize hW : w3.putObj l (.loop { apRec fn tmps D with state := .busy }) = wb at *
  have hcl := cels_len pre
  unfold apBody
  refine wpIn_block (wpIn_region_list ?_)
  refine wpListIn_spec (n := 13) (v := .ms 7 pre.length 0 pre.length 3 false) (σ' := HJ a b c d e x fs m g st pre [(0, some (.miter 1 b c0 sn c0)), filD vf h, filD 0 f]) hw rfl rfl (by intro c hc; cases hc) (OpSpec.aop rfl (by (repeat' with_reducible apply AllP_cons) <;> try exact aC)) hi3' hf4' fun r4 w4 v4 hv4 hi4 hx4 hf5 => ?_
  refine wpListIn_spec (n := 13) (v := .agg (filC f)) (σ' := HJ a b c d e x fs m g st pre [(0, some (.miter 1 b c0 sn c0)), filD vf h, filD 0 f]) hw rfl rfl (by intro c hc; cases hc) (OpSpec.aop rfl (by (repeat' with_reducible apply AllP_cons) <;> try exact aC)) hi4 hf5 fun r5 w5 v5 hv5 hi5 hx5 hf6 => ?_
  refine wpListIn_spec (n := 13) (v := .sl true true 3 [.agg (filC f)]) (σ' := HJ a b c d e x fs m g st pre [(0, some (.miter 1 b c0 sn c0)), filD vf h, filD 0 f]) hw rfl rfl (by intro c hc; cases hc) (OpSpec.aop rfl (by (repeat' with_reducible apply AllP_cons) <;> try exact aC)) hi5 hf6 fun r6 w6 v6 hv6 hi6 hx6 hf7 => ?_
  refine wpListIn_spec (n := 13) (v := .ms 7 (pre.length + 1) 0 (pre.length + 1) 3 false) (σ' := (HJ a b c d e x fs m g st pre [(0, some (.miter 1 b c0 sn c0)), filD vf h, filD 0 f]).set 7 (pre.length + 1, some (.cells (celsF (pre ++ [f])) ⟨false, none⟩))) hw rfl rfl (by intro c hc; cases hc) ?_ hi6 hf7 fun r7 w7 v7 hv7 hi7 hx7 hf8 => ?_
  · have hap : celsF (pre ++ [f]) = celsF pre ++ filC f := by rw [celsF_app]; simp [celsF, fils, filA, AV.cells, filC]
    rw [hap]
    exact OpSpec.aop rfl ⟨rfl, allOne_mem rfl, allOne_mem rfl, rfl, rfl, (by show 0 + pre.length * 3 = (celsF pre).length; rw [hcl]; omega), (by show (pre.length + 1) * 40 ≤ 140737488355328; omega), (by show pre.length + 1 ≤ 9223372036854775807; omega), trivial⟩
  have hl1 : (pre ++ [f]).length = pre.length + 1 := by rw [List.length_append]; rfl
  refine wpListIn_spec (n := 13) (v := .tup []) (σ' := HJ a b c d e x fs m g st (pre ++ [f]) [(0, some (.miter 1 b c0 sn c0)), filD vf h, filD 0 f]) hw rfl rfl (by intro c hc; cases hc) ?_ hi7 hf8 fun r8 w8 v8 hv8 hi8 hx8 hf9 => ?_
  · unfold HJ
    rw [hl1]
    exact OpSpec.aop rfl (by (repeat' with_reducible apply AllP_cons) <;> try exact aC)
  refine wpListIn_nil ?_
  have hxb := (((hx4.trans hx5).trans hx6).trans hx7).trans hx8
  have hob : Off r3 l := ho3
  have hllb : l < wb.heap.size := by rw [← hW, putObj_size]; exact hll3
  have ho8 := hob.ext hllb hxb
  have hL8 : w8.heap[l]? = some (.loop { apRec fn tmps D with state := .busy }) := (hob.same hllb hxb).trans hLb
  refine ⟨_, _, run_endRound none hL8, rfl, ?_⟩
  have hi9 := hi8.poke hL8 (hnc _) ho8 (.loop (apRec fn tmps D))
  have hx9 : Ext r3 _ w3 r8 _ (w8.putObj l (.loop (apRec fn tmps D))) := Ext.poke hL3 (hnc _) ho3 (hW ▸ hxb)
  obtain ⟨r9, k1, k2, _⟩ := trunc (k := 10) hi1 hi9 (hx13.trans hx9) (Nat.le_refl 10) (HJ_low a b c d e x fs m g st (pre ++ [f]) c0 sn vf h [filD 0 f])
  exact ⟨r9, k1, k2⟩
theorem AppendSeq_ok (a b c d e x : Nat) (fs : List Fil) (m : Mc) (g : Tag) (hml : (ksP m.made).length ≤ 1000) : CallOk cx 88 [.nils, .func (.func 65) [] [.ptr 5 x 0]] (mcH a b c d e fs m [(x, some (.cells [.map 1 b] g))])
    (fun o s => ∃ ps : List Fil, ps.Perm ((ksP m.made).map (lastF m.made)) ∧ o = .ret (.ms 7 ps.length 0 ps.length 3 false) ∧ s = HJ a b c d e x fs m g none ps []) := by
  refine ⟨fun a w => Tryz.call88 a w, fun r w vs hi hv => ?_⟩
  refine callsIn_wide.1 (callsIn_of_wp_marks (n := 9) Tryz.func88 rfl trivial ?_ rfl)
  rw [Tryz.ntmps88]
  have hw : ∀ f, Fence.wide.fn f := fun _ => trivial
  have hf := enter_rel (n := 13) hv (by show 2 ≤ 13; omega)
  refine wpIn_seq (wpIn_region_list ?_)
  refine wpListIn_spec (n := 13) (v := .ptr 6 0 0) (σ' := mcH a b c d e fs m [(x, some (.cells [.map 1 b] g)), (0, some (.cells [.nils] ⟨false, none⟩))]) hw rfl rfl (by intro c hc; cases hc) (OpSpec.aop rfl (by (repeat' with_reducible apply AllP_cons) <;> try exact aC)) hi hf fun r1 w1 v1 hv1 hi1 hx1 hf1 => ?_
  refine wpListIn_spec (n := 13) (v := .nils) (σ' := mcH a b c d e fs m [(x, some (.cells [.map 1 b] g)), (0, some (.cells [.nils] ⟨false, none⟩))]) hw rfl rfl (by intro c hc; cases hc) (OpSpec.aop rfl (by (repeat' with_reducible apply AllP_cons) <;> try exact aC)) hi1 hf1 fun r2 w2 v2 hv2 hi2 hx2 hf2 => ?_
  refine wpListIn_nil ?_
  refine wpIn_seq (wpIn_seq (wpIn_region_list ?_))
  refine wpListIn_spec (n := 13) (v := .func (.func 65) [] [.ptr 5 x 0]) (σ' := mcH a b c d e fs m [(x, some (.cells [.map 1 b] g)), (0, some (.cells [.nils] ⟨false, none⟩))]) hw rfl rfl (by intro c hc; cases hc) (OpSpec.aop rfl (by (repeat' with_reducible apply AllP_cons) <;> try exact aC)) hi2 hf2 fun r3 w3 v3 hv3 hi3 hx3 hf3 => ?_
  refine wpListIn_nil ?_
  refine wpIn_block (wpIn_rangeFunc fun fn _ => ?_)
  obtain ⟨hi4, hx4⟩ := hi3.ghostAt (id := 6) (j := 0) (gid := 7) (gver := 0) 3 ⟨false, none⟩ rfl rfl rfl (by decide)
  have hi4 : Ab.Inv cx r3 (HJ a b c d e x fs m g none [] []) w3 := hi4
  have hx4 : Ext r3 _ w3 r3 (HJ a b c d e x fs m g none [] []) w3 := hx4
  have hx04 := ((hx1.trans hx2).trans hx3).trans hx4
  obtain ⟨A, hAe, hfA, hdA⟩ : ∃ A, _ = A ∧ FRel r3 w3 13 _ A ∧ A.defers = [] := ⟨_, rfl, hf3, by rw [put_defers, put_defers, put_defers]⟩
  rw [hAe]
  obtain ⟨wL, hwL⟩ : ∃ wL, (w3.alloc (.deferred (some []))).alloc (.loop (apRec fn A.tmps w3.heap.size)) = wL := ⟨_, rfl⟩
  have hold : ∀ k, k < w3.heap.size → wL.heap[k]? = w3.heap[k]? := fun k hk => by
    rw [← hwL]; exact (Go.RowKit.Below.heap_alloc _ _ k (by simp; omega)).trans (Go.RowKit.Below.heap_alloc _ _ k hk)
  have hsL : wL.heap.size = w3.heap.size + 2 := by rw [← hwL]; simp
  obtain ⟨hiL, hxL⟩ := hi4.grown (w' := wL) hold (by omega) (by rw [← hwL]; rfl) (by rw [← hwL]; rfl) (by rw [← hwL]; rfl)
  have hLl : wL.heap[w3.heap.size + 1]? = some (.loop (apRec fn A.tmps w3.heap.size)) := by
    rw [← hwL]; have := World.alloc_heap_new (w3.alloc (.deferred (some []))) (.loop (apRec fn A.tmps w3.heap.size)); rwa [World.size_alloc] at this
  have hLD : wL.heap[w3.heap.size]? = some (.deferred (some [])) := by
    rw [← hwL]; exact (Go.RowKit.Below.heap_alloc _ _ _ (by simp)).trans (World.alloc_heap_new w3 _)
  have hol : Off r3 (w3.heap.size + 1) := Off.new hi4 (by omega)
  have hoD : Off r3 w3.heap.size := Off.new hi4 (Nat.le_refl _)
  have hfL := hfA.mono ((hx4.trans hxL).grow hi3)
  have g6 := hfA.get 6
  have g6 : VRel r3 w3 (A.tmps.getD 6 undef) (.func (.func 65) [] [.ptr 5 x 0]) := g6
  obtain ⟨pv, e6, hpv⟩ : ∃ pv, A.eval (.tmp 6) = .func (.func 65) #[] #[pv] ∧ VRel r3 w3 pv (.ptr 5 x 0) := by
    show ∃ pv, A.tmps.getD 6 undef = _ ∧ _
    generalize A.tmps.getD 6 undef = z at g6
    cases g6 with
    | func q1 q0 q2 q3 =>
      rename_i first captured
      refine ⟨captured.getD 0 undef, ?_, q3 0 (by simp)⟩
      rw [Array.eq_empty_of_size_eq_zero q1]
      congr 1
      have q2 : captured.size = 1 := q2
      refine Array.ext (by simp [q2]) fun j h1 h2 => ?_
      match j, h1 with
      | 0, h1 => simp [Array.getD, h1]
      | j + 1, h1 => omega
  refine ⟨w3.heap.size + 1, [{ target := .collected w3.heap.size, args := #[] }], wL, { target := .fn (.func 65) #[pv], args := #[.func (.yield (w3.heap.size + 1)) #[] #[]] }, wL, 65,
    #[.func (.yield (w3.heap.size + 1)) #[] #[]] ++ #[pv], wL, ?_, ?_, fun _ _ => trivial, ?_, (fun h => by cases h), ?_⟩
  · rw [← hwL]; exact run_enterLoop_outer _ _ _ _ _
  · have e6' : A.tmps[6]?.getD undef = .func (.func 65) #[] #[pv] := by rw [← Array.getD_eq_getD_getElem?]; exact e6
    simp [resolve, rangeCall, go_sem, e6', Deferred.ofValue]
  · have eg := fun args w => Tryz.call65 args w
    show (invoke _ _).run Tryz.prog wL = _
    simp [invoke, go_sem, eg]
  refine callsIn_wide.2 ((Values1_ok a b c d e x fs m g (w3.heap.size + 1) hml r3 wL _ hiL ?_ ?_).mono ?_)
  · refine ⟨rfl, fun i h => ?_⟩
    match i, h with
    | 0, _ => exact .func rfl (fun i h => absurd h (by simp)) rfl (fun i h => absurd h (by simp))
    | 1, _ => exact hpv.mono ((hx4.trans hxL).grow hi3)
    | k + 2, h => exact absurd h (by simp)
  · refine gath_ok a b c d e x fs m g (w3.heap.size + 1) w3.heap.size fn A.tmps hLl hol ⟨hfL.size, fun t => ?_, fun vs h => by cases h⟩ hiL
    have := hfL.get t
    by_cases ht : t = 2
    · subst ht; exact this
    · rw [Fr.get_cons, if_neg (fun e => ht e.symm)]; exact .top
  rintro en w5 ⟨o, σ', r5, ⟨rfl, ps, hps, u, v, rfl⟩, hor, hi5, hx5⟩
  cases en with
  | outgrown => exact hor.elim
  | panicked chain => exact hor.elim
  | returned vr =>
    have hnc : ∀ (q : Loop) (cs : Array Value) (t : TypeId) (fz : Nat × Nat), Obj.loop q ≠ .cells cs t fz := fun q cs t fz h => by cases h
    have hL5 : w5.heap[w3.heap.size + 1]? = some (.loop (apRec fn A.tmps w3.heap.size)) := (hol.same (by omega) hx5).trans hLl
    have hD5 : w5.heap[w3.heap.size]? = some (.deferred (some [])) := (hoD.same (by omega) hx5).trans hLD
    have hol5 := hol.ext (by omega) hx5
    have hoD5 := hoD.ext (by omega) hx5
    refine ⟨none, _, run_endLoop hL5 (show LoopState.ready ≠ LoopState.busy by decide), ?_⟩
    have hi6 := hi5.poke hL5 (hnc _) hol5 (.loop { apRec fn A.tmps w3.heap.size with state := .exhausted })
    have hsw : w.heap.size ≤ w3.heap.size := ((hx1.trans hx2).trans hx3).hs
    have hx6 := Ext.poke_new (l := w3.heap.size + 1) (by omega) ((hx04.trans hxL).trans hx5) (.loop { apRec fn A.tmps w3.heap.size with state := .exhausted })
    have hf6 := (hfL.mono (hx5.grow hiL)).poke hL5 (hnc _) hol5 (.loop { apRec fn A.tmps w3.heap.size with state := .exhausted })
    have hD6 : (w5.putObj (w3.heap.size + 1) (.loop { apRec fn A.tmps w3.heap.size with state := .exhausted })).heap[w3.heap.size]? = some (.deferred (some [])) := (putObj_other (by omega)).trans hD5
    generalize hW6 : w5.putObj (w3.heap.size + 1) (.loop { apRec fn A.tmps w3.heap.size with state := .exhausted }) = w6 at *
    show (Code.seq _ _).wpIn _ _ _ _ _ _
    have hf7 : FRel r5 w6 13 [(2, .ptr 6 0 0)] { A with defers := [{ target := .collected w3.heap.size, args := #[] }] ++ A.defers } := ⟨hf6.size, fun t => by
      have := hf6.get t
      by_cases ht : t = 2
      · subst ht; exact this
      · rw [Fr.get_cons, if_neg (fun e => ht e.symm)]; exact .top, fun vs h => by cases h⟩
    refine wpIn_seq (wpIn_region_list ?_)
    refine wpListIn_spec (n := 13) (v := .ms 7 ps.length 0 ps.length 3 false) (σ' := HJ a b c d e x fs m g none ps [(u, none), (v, none)]) hw rfl rfl (by intro c hc; cases hc) (OpSpec.aop rfl (by (repeat' with_reducible apply AllP_cons) <;> try exact aC)) hi6 hf7 fun r7 w7 v7 hv7 hi7 hx7 hf8 => ?_
    refine wpListIn_spec (n := 13) (v := .ms 7 ps.length 0 ps.length 3 false) (σ' := HJ a b c d e x fs m g none ps [(u, none), (v, none)]) hw rfl rfl (by intro c hc; cases hc) (OpSpec.aop rfl (by (repeat' with_reducible apply AllP_cons) <;> try exact aC)) hi7 hf8 fun r8 w8 v8 hv8 hi8 hx8 hf9 => ?_
    refine wpListIn_nil (wpIn_ret ?_)
    have hx78 := hx7.trans hx8
    have hs6 : w3.heap.size + 2 ≤ w6.heap.size := by rw [← hW6, putObj_size]; have := hx5.hs; omega
    have hoD6 : Off r5 w3.heap.size := hoD5
    have hoD8 := hoD6.ext (by omega) hx78
    have hD8 : w8.heap[w3.heap.size]? = some (.deferred (some [])) := (hoD6.same (by omega) hx78).trans hD6
    have hndf : ∀ (ds : Option (List Deferred)) (cs : Array Value) (t : TypeId) (fz : Nat × Nat), Obj.deferred ds ≠ .cells cs t fz := fun q cs t fz h => by cases h
    have hi9 := hi8.poke hD8 (hndf _) hoD8 (.deferred none)
    have hx9 := Ext.poke_new (l := w3.heap.size) hsw (hx6.trans hx78) (.deferred none)
    have hf10 := hf9.poke hD8 (hndf _) hoD8 (.deferred none)
    have g4 := hf10.get 4
    show LeavesInM _ _ _ _ _ _ (Act.defers _) _ _
    rw [put_defers, put_defers, hdA]
    refine ⟨by simp, .inl ⟨w3.heap.size, _, rfl, run_takeDeferred hD8, ?_⟩⟩
    refine ⟨_, results_tmp rfl _ _ _, ?_⟩
    obtain ⟨r10, k1, k2, k3, _⟩ := trunc (k := 8) hi hi9 hx9 (by show 6 ≤ 8; omega) (fun id ver y hid hx => HJ_low8 8 (Nat.le_refl _) a b c d e x fs m g none ps _ id ver y hid hx)
    exact ⟨_, _, r10, ⟨ps, hps, rfl, rfl⟩, k3 _ _ (.ms (by decide)) g4, k1, k2⟩
end Go.Proofs.YtgmakmfdjhgjlaaGreatDoor
end
section
set_option linter.unusedVariables false
set_option linter.unusedSimpArgs false
set_option maxRecDepth 20000
set_option maxHeartbeats 4000000
namespace Go.Proofs.YtgmakmfdjhgjlaaGreatDoor
open Go Go.Ab Go.Shelf Go.RowKit Go.Lib Go.Sort
theorem clos_cR (f g : Fil) (W : World) : Calls Tryz.prog 28 #[.agg (encF f).toArray, .agg (encF g).toArray] W fun e w' => e = .returned (.int .i64 (cmpF f g)) ∧ ∃ q os', w' = grow (W.drewN q) os' := by
  have hcon := fun W' => compare_c ⟨f.path.toArray⟩ ⟨g.path.toArray⟩ W'
  unfold cmpF
  generalize hr : cmpT f.path g.path = r
  have hcon : ∀ W', Calls Tryz.prog 29 #[.string ⟨f.path.toArray⟩, .string ⟨g.path.toArray⟩] W' fun e w' => e = .returned (.int .i64 r) ∧ w' = W' := by
    intro W'
    have := hcon W'
    simp only [List.toList_toArray, hr] at this
    exact this
  unfold encF
  go_enter Tryz.func28, Tryz.ntmps28
  go_wp2_with (go_at_call 29; refine (hcon _).mono ?_; rintro e w' ⟨rfl, rfl⟩)
  go_ret
  exact ⟨rfl, 0, _, by rw [alloc_eq_grow, alloc_eq_grow, grow_grow]; rfl⟩
theorem cmpLaysR (blk off size : Nat) (w : World) : CmpLays Tryz.prog 28 #[] encF 3 cmpF blk off size w :=
  fun _ _ _ _ f g => clos_cR f g _
theorem sort_cR (blk off cap : Nat) (d : Array Fil) (w : World) (hH : HoldsK encF 3 w blk off d) (hblk : blk < w.heap.size) (hsz : d.size < 4611686018427387904) :
    Calls Tryz.prog 64 #[.slice (some ⟨blk, off, none⟩) d.size cap, .func (.func 28) #[] #[]] w fun e w' =>
      e = .returned (.tuple #[]) ∧ ∃ d' n os, PermIn 0 d.size d d' ∧ SortedIn (ltOf cmpF) 0 d.size d' ∧ w' = sortWorldK encF 3 w blk off n d' os :=
  AnyQ.slices_SortFunc lay_sortf 3 Tryz.isAgg38 Tryz.sizeOf38 encF (fun _ => rfl) (fun x v hv => by simp [encF] at hv; rcases hv with rfl | rfl | rfl <;> rfl) cmpF swoF 28 #[] blk off cap d w (fun a w => Tryz.call28 a w) (cmpLaysR blk off d.size w) hH hblk hsz
theorem Sort_okR (o : List Fil) (hne : 0 < o.length) (hlen : o.length ≤ 1000000) (hnd : (o.map Fil.path).Nodup) {σ : Heap} {id ver : Nat} (hσ : σ[id]? = some (ver, some (.cells (celsF o) ⟨false, none⟩))) :
    CallOk cx 64 [.ms id ver 0 o.length 3 false, .func (.func 28) [] []] σ (fun e s => e = .ret (.tup []) ∧ s = σ.set id (ver, some (.cells (celsF (sortFl o)) ⟨false, none⟩))) := by
  refine ⟨fun a w => Tryz.call64 a w, fun r w vs hi hv => ?_⟩
  obtain ⟨hs, hv⟩ := hv
  have g0 := hv 0 (by simp)
  have g1 := hv 1 (by simp)
  have hvs : vs = #[vs.getD 0 undef, vs.getD 1 undef] := by
    have hs : vs.size = 2 := hs
    refine Array.ext (by simp [hs]) fun j h1 h2 => ?_
    match j, h1 with
    | 0, h1 => simp [Array.getD, h1]
    | 1, h1 => simp [Array.getD, h1]
    | j + 2, h1 => omega
  rw [hvs]
  generalize vs.getD 0 undef = a at g0
  generalize vs.getD 1 undef = b at g1
  have g0 : VRel r w a (.ms id ver 0 o.length 3 false) := g0
  have g1 : VRel r w b (.func (.func 28) [] []) := g1
  cases g1 with
  | func f1 hfx f2 hbx0 =>
  rename_i first captured
  have hf1 : first = #[] := Array.eq_empty_of_size_eq_zero f1
  have hf2 : captured = #[] := Array.eq_empty_of_size_eq_zero f2
  subst hf1; subst hf2
  generalize hn : o.length = n at g0
  cases g0 with
  | ms0 => omega
  | ms hρ hcap hle hff =>
  rename_i blk off cap
  rcases hi.box id ver _ hσ with ⟨blk', off', hρ', hbx⟩ | ⟨_, ro, h⟩
  case inr =>
    have h := Box.cells.inj h
    have := cels_len o
    rw [h.1] at this; simp at this; omega
  rw [hρ] at hρ'
  obtain ⟨rfl, rfl⟩ : blk = blk' ∧ off = off' := by cases hρ'; exact ⟨rfl, rfl⟩
  obtain ⟨c, t, lo, hi0, q1, q2, q3, q4, q5⟩ := hbx
  have hcl := cels_len o
  have hbs : blk < w.heap.size := (hi.lt _ _ _ _ hρ).2
  have hcell : ∀ j, j < o.length * 3 → c[off + j]? = some (flatK encF 3 o.toArray)[j]! := by
    intro j hj
    obtain ⟨v, k1, k2⟩ := q2 j (by omega)
    have hg := cel_get hj
    rw [List.getElem?_eq_getElem (by omega)] at hg
    rw [Option.some.inj hg] at k2
    rw [k1, flat_get hj, enc_eq (Nat.mod_lt _ (by decide)) k2]
  have hH : HoldsK encF 3 w blk off o.toArray := by
    intro j hj
    have hj : j < o.length * 3 := by simpa using hj
    refine ⟨by simp only [World.cell?, q1]; exact hcell j hj, ?_⟩
    have hjc : off + j < c.size := by
      rcases Nat.lt_or_ge (off + j) c.size with h | h
      · exact h
      · have := hcell j hj
        rw [Array.getElem?_eq_none h] at this; cases this
    simp only [World.frozen?, q1]
    cases hz : (decide (lo ≤ off + j) && decide (off + j < hi0)) with
    | false => rfl
    | true =>
      simp only [Bool.and_eq_true, decide_eq_true_eq] at hz
      have := (q4 _ hz.1 hz.2 hjc).1
      cases this
  have hc := sort_cR blk off cap o.toArray w hH hbs (by simp; omega)
  rw [show o.toArray.size = n by simpa using hn] at hc
  refine hc.mono ?_
  rintro e w' ⟨rfl, d', m, os, hp, hsd, rfl⟩
  obtain ⟨hd1, _, hd3⟩ := hp
  have hd1 : d'.size = n := by rw [hd1]; simpa using hn
  have hperm : d'.toList.Perm o := by
    have e1 : d'.extract 0 n = d' := by rw [← hd1]; simp
    have e2 : o.toArray.extract 0 n = o.toArray := by rw [← hn]; simp
    rw [e1, e2] at hd3
    simpa using hd3
  have hpw : d'.toList.Pairwise fun f g => f.path ≤ g.path := by
    rw [List.pairwise_iff_getElem]
    intro i j h1 h2 hij
    rw [Array.length_toList] at h1 h2
    have h3 := hsd i j (Nat.zero_le _) hij (by omega)
    rw [ltF, getElem!_pos d' i h1, getElem!_pos d' j h2] at h3
    simp only [decide_eq_false_iff_not] at h3
    simpa using h3
  have hsl := sortFl_uniq hnd hperm hpw
  have hd' : d' = (sortFl o).toArray := by rw [← hsl]
  have hln : (sortFl o).length = n := by rw [(sortFl_perm o).length_eq]; exact hn
  have hF : (flatK encF 3 d').size = n * 3 := by rw [size_flatK, hd1]
  have hheap : ∀ k, k < w.heap.size → (sortWorldK encF 3 w blk off m d' os).heap[k]? = if blk = k then some (Obj.cells (putCells _root_.id off (flatK encF 3 d') c) t (lo, hi0)) else w.heap[k]? := by
    intro k hk
    show ((w.heap.modify blk (onCells (putCells _root_.id off (flatK encF 3 d')))) ++ os)[k]? = _
    rw [Array.getElem?_append_left (by simpa using hk), Array.getElem?_modify]
    by_cases e : blk = k
    · subst e
      rw [if_pos rfl, if_pos rfl, q1]; rfl
    · rw [if_neg e, if_neg e]
  have hupd := hi.update (σ' := σ.set id (ver, some (.cells (celsF (sortFl o)) ⟨false, none⟩))) (id := id) (ver := ver) (b := blk) (o := off) (x := .cells (celsF (sortFl o)) ⟨false, none⟩) (w' := sortWorldK encF 3 w blk off m d' os)
    (by
      have : id < σ.length := by
        rcases Nat.lt_or_ge id σ.length with h | h
        · exact h
        · rw [List.getElem?_eq_none h] at hσ; cases hσ
      simp [this]) (fun j hj => by rw [List.getElem?_set, if_neg (Ne.symm hj)]) (fun c2 y hy => by rw [hσ] at hy; cases hy; exact .inr ⟨rfl, hρ⟩) (.inr ⟨ver, _, off, hσ, hρ⟩)
    (fun k hk hkb => by rw [hheap k hk, if_neg (Ne.symm hkb)]) (by
      show w.heap.size ≤ ((w.heap.modify blk (onCells (putCells _root_.id off (flatK encF 3 d')))) ++ os).size
      simp) (fun c2 t2 f2 hc2 => by
        rw [q1] at hc2; cases hc2
        exact ⟨_, _, by rw [hheap blk hbs, if_pos rfl], by simp [putCells]⟩) rfl rfl rfl
    (fun g => by
      refine ⟨_, t, lo, hi0, by rw [hheap blk hbs, if_pos rfl], fun i hil => ?_, cels_one _, fun i h1 h2 h3 => ?_, fun T h => by cases h⟩
      · have hil' : i < (sortFl o).length * 3 := by rw [cels_len] at hil; exact hil
        have hg := cel_get hil'
        rw [List.getElem?_eq_getElem hil] at hg
        rw [Option.some.inj hg]
        refine ⟨(flatK encF 3 (sortFl o).toArray)[i]!, ?_, by rw [flat_get hil']; exact enc_rel _ _ _ _ (Nat.mod_lt _ (by decide))⟩
        have hci : off + i < c.size := by
          have := hcell i (by omega)
          rcases Nat.lt_or_ge (off + i) c.size with h | h
          · exact h
          · rw [Array.getElem?_eq_none h] at this; cases this
        rw [hd']
        unfold putCells
        rw [Array.getElem?_mapIdx, Array.getElem?_eq_getElem hci]
        show some (if off ≤ off + i ∧ off + i < off + (flatK encF 3 (sortFl o).toArray).size then _root_.id ((flatK encF 3 (sortFl o).toArray)[off + i - off]!) else _) = _
        rw [if_pos ⟨by omega, by rw [size_flatK]; simp; omega⟩, Nat.add_sub_cancel_left]; rfl
      · have h3 : i < c.size := by simpa [putCells] using h3
        have := (q4 i h1 h2 h3).1
        cases this)
  exact ⟨.ret (.tup []), _, _, ⟨rfl, rfl⟩, .tup rfl (fun i h => absurd h (by simp)), hupd.1, hupd.2⟩
theorem Ins0_okR (σ : Heap) (v : Nat) : CallOk cx 105 [.ms 7 v 0 0 3 false, .int .i64 0, .int .i64 0, .func (.func 28) [] []] σ (fun o s => o = .ret (.tup []) ∧ s = σ) :=
  callOk_intro (fun a w => Tryz.call105 a w) Tryz.func105 rfl Tryz.ntmps105 rfl fun B => by
    refine pas [] rfl ?_ ?_
    · (repeat' with_reducible apply AllP_cons) <;> try exact aC
    refine S_while (α := Unit) (fun _ => [(2, .int .i64 0), (8, .int .i64 1)]) (fun _ => σ) (fun _ => True) (fun _ => 0) () trivial (.cons rfl (.cons rfl (.nil _))) rfl ?_
    rintro ⟨⟩ _
    refine pas [.b false] rfl ?_ ?_
    · (repeat' with_reducible apply AllP_cons) <;> try exact aC
    exact S_nil ⟨_, _, rfl, trivial, rfl, rfl⟩
theorem Pdq0_okR (σ : Heap) (v : Nat) : CallOk cx 89 [.ms 7 v 0 0 3 false, .int .i64 0, .int .i64 0, .int .i64 0, .func (.func 28) [] []] σ (fun o s => o = .ret (.tup []) ∧ s = σ) :=
  callOk_intro (fun a w => Tryz.call89 a w) Tryz.func89 rfl Tryz.ntmps89 rfl fun B => by
    refine pas [] rfl ?_ ?_
    · (repeat' with_reducible apply AllP_cons) <;> try exact aC
    refine S_while (α := Unit) (fun _ => [(0, .ms 7 v 0 0 3 false), (1, .int .i64 0), (2, .int .i64 0), (4, .func (.func 28) [] [])]) (fun _ => σ) (fun _ => True) (fun _ => 0) () trivial (.cons rfl (.cons rfl (.cons rfl (.cons rfl (.nil _))))) rfl ?_
    rintro ⟨⟩ _
    refine pa [.b true, .k (.tup [])] rfl ?_ ?_
    · (repeat' with_reducible apply AllP_cons) <;> try exact aC
      · exact Ins0_okR σ v
    exact S_ret ⟨_, _, rfl, trivial, rfl, rfl⟩
theorem Sort_any (o : List Fil) (hlen : o.length ≤ 1000000) (hnd : (o.map Fil.path).Nodup) {σ : Heap} {v : Nat} (hσ : σ[7]? = some (v, some (.cells (celsF o) ⟨false, none⟩))) :
    CallOk cx 64 [.ms 7 v 0 o.length 3 false, .func (.func 28) [] []] σ (fun e s => e = .ret (.tup []) ∧ s = σ.set 7 (v, some (.cells (celsF (sortFl o)) ⟨false, none⟩))) := by
  by_cases h0 : o = []
  · subst h0
    have hs : sortFl [] = [] := List.length_eq_zero_iff.1 (by rw [(sortFl_perm []).length_eq]; rfl)
    rw [hs]
    have hset : σ.set 7 (v, some (.cells (celsF []) ⟨false, none⟩)) = σ := by
      refine List.ext_getElem? fun i => ?_
      rw [List.getElem?_set]
      split
      · rename_i h; subst h
        split
        · exact hσ.symm
        · rename_i h; rw [List.getElem?_eq_none (by omega)] at hσ; cases hσ
      · rfl
    rw [hset]
    exact callOk_intro (fun a w => Tryz.call64 a w) Tryz.func64 rfl Tryz.ntmps64 rfl fun B => by
      refine pas [.v (.int .i64 0), .k (.tup [])] rfl ?_ ?_
      · (repeat' with_reducible apply AllP_cons) <;> try exact aC
        · exact ⟨_, LenU0_ok, .cons (.refl .int) (.nil _)⟩
        · exact Pdq0_okR _ _
      exact S_nil ⟨_, _, rfl, trivial, rfl, rfl⟩
  · exact Sort_okR o (List.length_pos_iff.2 h0) hlen hnd hσ
theorem Collect_ok (a b c d e x : Nat) (fs : List Fil) (m : Mc) (g : Tag) (hml : (ksP m.made).length ≤ 1000) : CallOk cx 63 [.func (.func 65) [] [.ptr 5 x 0]] (mcH a b c d e fs m [(x, some (.cells [.map 1 b] g))])
    (fun o s => ∃ ps : List Fil, ps.Perm ((ksP m.made).map (lastF m.made)) ∧ o = .ret (.ms 7 ps.length 0 ps.length 3 false) ∧ s = HJ a b c d e x fs m g none ps []) :=
  callOk_intro (fun a w => Tryz.call63 a w) Tryz.func63 rfl Tryz.ntmps63 rfl fun B => by
    refine pB [] rfl ?_
    refine S_call rfl rfl rfl (AppendSeq_ok a b c d e x fs m g hml) ?_ ?_
    · rintro v s ⟨ps, h1, h2, rfl⟩
      cases h2
      refine pB [] rfl ?_
      exact S_ret ⟨_, _, rfl, trivial, ps, h1, rfl, rfl⟩
    · rintro v s ⟨ps, h1, h2, rfl⟩
      cases h2
theorem gathered {c ps : List Fil} (h : ps.Perm ((ksP c).map (lastF c))) : (ps.map Fil.path).Nodup ∧ sortFl ps = ovT c := by
  have hp : ((ksP c).map (lastF c)).map Fil.path = ksP c := by
    rw [List.map_map]
    conv => rhs; rw [← List.map_id (ksP c)]
    exact List.map_congr_left fun p hp => (lastF_mem hp).2
  have hnd : (ps.map Fil.path).Nodup := (h.map Fil.path).nodup_iff.2 (by rw [hp]; exact ksP_nodup c)
  refine ⟨hnd, ?_⟩
  refine (sortFl_uniq hnd ?_ ?_).symm
  · unfold ovT
    exact (((sortT_perm (ksP c)).map (lastF c)).trans h.symm)
  · refine List.pairwise_map.1 ?_
    rw [ov_paths]
    exact sortT_pw _
theorem mcH_low6 (a b c d e x : Nat) (fs : List Fil) (m : Mc) (g : Tag) (τ : Heap) : LowH 6 (mcH a b c d e fs m ((x, some (.cells [.map 1 b] g)) :: τ)) := by
  intro id ver y hid hx
  match id, hid with
  | 0, _ => exact mapX_low (vaP_free _) (by cases hx; rfl)
  | 1, _ => exact mapX_low (vaP_free _) (by cases hx; rfl)
  | 2, _ => exact mapX_low (ks := m.ks) (f := fun k => .str (m.regs k)) (fun _ => .str) (by cases hx; rfl)
  | 3, _ =>
    cases hx
    refine .cells fun y hy => ?_
    simp only [mcC, List.mem_cons, List.not_mem_nil, or_false] at hy
    rcases hy with rfl | rfl | rfl | rfl | rfl | rfl | rfl | rfl
    · exact .map (by decide)
    · exact .ms (by decide)
    · exact .map (by decide)
    · exact .map (by decide)
    · exact .int
    · exact .int
    · exact .int
    · exact .bool
  | 4, _ =>
    cases hx
    exact .cells fun y hy => Low.free (st := false) (texts_any _ y hy)
  | 5, _ =>
    cases hx
    exact .cells fun y hy => by simp at hy; subst hy; exact .map (by decide)
theorem mcH_rn6 (a b c d e x : Nat) (fs : List Fil) (m : Mc) (g : Tag) : RnH (List.range 6) (mcH a b c d e fs m [(x, some (.cells [.map 1 b] g))]) (mcH a b c d e fs m [(x, some (.cells [.map 1 b] g))]) :=
  .cons (mapX_rn _ _ _ (vaP_free _) _) (.cons (mapX_rn _ _ _ (vaP_free _) _) (.cons (mapX_rn _ _ _ (fun _ => .str) _)
    (.cons (.live (.cells (.cons (.map rfl) (.cons (.ms rfl) (.cons (.map rfl) (.cons (.map rfl) (.free (by intro x hx; simp at hx; rcases hx with rfl | rfl | rfl | rfl; exact .int; exact .int; exact .int; exact .bool))))))))
      (.cons (.live (.cells (.free (texts_any _)))) (.cons (.live (.cells (.cons (.map rfl) (.nil _)))) (.nil _))))))
theorem SortedFunc_ok (a b c d e x : Nat) (fs : List Fil) (m : Mc) (g : Tag) (hml : (ksP m.made).length ≤ 1000) : CallOk cx 26 [.func (.func 65) [] [.ptr 5 x 0], .func (.func 28) [] []] (mcH a b c d e fs m [(x, some (.cells [.map 1 b] g))])
    (fun o s => o = .ret (.sl true false 3 (fils (ovT m.made))) ∧ s = mcH a b c d e fs m [(x, some (.cells [.map 1 b] g))]) :=
  callOk_introT (fun a w => Tryz.call26 a w) Tryz.func26 rfl Tryz.ntmps26 rfl fun B => by
    refine pB [] rfl ?_
    refine S_call rfl rfl rfl (Collect_ok a b c d e x fs m g hml) ?_ ?_
    · rintro v s ⟨ps, h1, h2, rfl⟩
      cases h2
      obtain ⟨hnd, hsf⟩ := gathered h1
      have hpl : ps.length ≤ 1000000 := by have := h1.length_eq; rw [List.length_map] at this; omega
      have hS := Sort_any ps hpl hnd (σ := HJ a b c d e x fs m g none ps []) (v := ps.length) rfl
      rw [hsf] at hS
      refine pB [.f (.tup []) (fun _ => (HJ a b c d e x fs m g none ps []).set 7 (ps.length, some (.cells (celsF (ovT m.made)) ⟨false, none⟩)))] rfl ?_
      have hol : (ovT m.made).length = ps.length := by rw [← hsf, (sortFl_perm ps).length_eq]
      refine S_ret ⟨_, _, rfl, trivial, 6, Nat.le_refl _, mcH_low6 a b c d e x fs m g _, _, ?_, rfl, rfl⟩
      rw [← hol]
      exact .ms (ys := celsF (ovT m.made)) (by decide) rfl (by rw [cels_len]; omega) (by rw [List.drop_zero, List.take_of_length_le (by rw [cels_len]; omega)]) (fil_size _) (fils_len _) rfl (fun i h h' => .low (Low.free (st := false) (cels_free _ _ (List.getElem_mem _))))
    · rintro v s ⟨ps, h1, h2, rfl⟩
      cases h2
theorem sortsF : SortsF := fun a b c d e x fs m g τ hml =>
  (SortedFunc_ok a b c d e x fs m g hml).pre1 6 τ rfl rfl
    (.cons (.func rfl (fun i h => absurd h (by simp)) rfl (fun i h h' => by match i, h with | 0, _ => exact .ptr rfl | k + 1, h => exact absurd h (by simp))) (.cons (.free (.func (fun x h => by cases h) (fun x h => by cases h))) (.nil _)))
    (mcH_rn6 a b c d e x fs m g) (mcH_rn6 a b c d e x fs m g) (.free (.sl (fun h => by cases h) (fils_free _)))
theorem Run_any {st fl st' fl' : Bool} (fs : List Fil) (com : List (List UInt8)) (fuel : Int) (hfs : FilsOk fs) (hcl : com.length ≤ 1000000000000) (hfu : -9223372036854775808 ≤ fuel ∧ fuel ≤ 9223372036854775807) :
    Calc cx 13 [.sl st fl 3 (fils fs), .sl st' fl' 1 (texts com), .int .i64 fuel] (runAV fs com fuel) := Run_ok sortsF fs com fuel hfs hcl hfu
end Go.Proofs.YtgmakmfdjhgjlaaGreatDoor
end
section
set_option linter.unusedVariables false
set_option linter.unusedSimpArgs false
set_option maxRecDepth 20000
set_option maxHeartbeats 4000000
namespace Go.Proofs.YtgmakmfdjhgjlaaGreatDoor
open Go Go.Ab
theorem WordsOf_ok (s : List UInt8) (hs : s.length ≤ 1099511627776) : Calc cx 20 [.str s] (.sl true false 1 (texts (splitB 32 s))) :=
  pure_intro (fun a w => Tryz.call20 a w) Tryz.func20 rfl Tryz.ntmps20 rfl (.sl (fun _ => rfl) (texts_any _)) fun B => by
    refine go (M := [5]) 1000 rfl trivial ?_
    refine S_unfull (t := 3) rfl ⟨_, _, .inl rfl⟩ ?_
    refine S_while (α := Nat × List (List UInt8) × List UInt8 × Nat) (fun (i, pre, last, u) => [(0, .str s), (3, .ms 0 u 0 (pre.length + 1) 1 false), (4, .int .i64 (i : Nat))])
      (fun (i, pre, last, u) => [(u, some (.cells (texts (pre ++ [last])) ⟨false, none⟩))])
      (fun (i, pre, last, u) => i ≤ s.length ∧ pre.length ≤ i ∧ last.length ≤ i ∧ pre ++ glue last (splitB 32 (s.drop i)) = splitB 32 s) (fun (i, pre, last, u) => s.length - i) (0, [], [], 0)
      ⟨Nat.zero_le _, Nat.le_refl _, Nat.le_refl _, by simp [glue_nil _ (splitB_ne 32 s)]⟩ (.cons rfl (.cons rfl (.cons rfl (.nil _)))) rfl ?_
    rintro ⟨i, pre, last, u⟩ ⟨h1, h2, h3, h4⟩
    have h1 : i ≤ s.length := h1
    have h2 : pre.length ≤ i := h2
    have h3 : last.length ≤ i := h3
    have hpl : (texts (pre ++ [last])).length = pre.length + 1 := by simp [texts]
    refine ab 1000 rfl trivial ?_
    refine S_dec rfl (fun hil => ?_) (fun hil => ?_)
    · have hil : i < s.length := by omega
      have hd : s.drop i = s[i] :: s.drop (i + 1) := List.drop_eq_getElem_cons hil
      have hgd : s.getD i 0 = s[i] := by simp [List.getD, hil]
      refine ab 1000 rfl ⟨by omega, by omega, trivial⟩ ?_
      refine S_beq rfl (fun hc => ?_) (fun hc => ?_)
      · have hc : s[i] = 32 := by
          have h' : (((s.getD (i : Int).toNat 0).toNat : Nat) : Int) = 32 := hc
          rw [Int.toNat_natCast, hgd] at h'
          exact UInt8.toNat_inj.1 (by have : s[i].toNat = 32 := by omega
                                      rw [this]; rfl)
        refine ab 1000 rfl ⟨?_, ?_, ?_, rfl, rfl, allOne_mem (cs := [.str []]) rfl, allOne_mem (cs := [.str []]) rfl, rfl, trivial⟩ ?_
        · show pre.length + 1 + 1 ≤ 9223372036854775807; omega
        · show (pre.length + 1 + 1) * 16 ≤ 140737488355328; omega
        · show 0 + (pre.length + 1) * 1 = (texts (pre ++ [last])).length; omega
        refine S_round (i + 1, pre ++ [last], [], u + 1) (by show s.length - (i + 1) < s.length - i; omega) ⟨hil, by simp; omega, Nat.zero_le _, ?_⟩ (.cons rfl (.cons ?_ (.cons (ai64 rfl (by omega)) (.nil _)))) ?_
        · rw [← h4, hd, hc]
          show (pre ++ [last]) ++ glue [] (splitB 32 (s.drop (i + 1))) = pre ++ glue last (splitB 32 (32 :: s.drop (i + 1)))
          rw [glue_nil _ (splitB_ne _ _), splitB, if_pos rfl]
          simp [glue]
        · show AV.ms 0 (u + 1) 0 (pre.length + 1 + 1) 1 false = .ms 0 (u + 1) 0 ((pre ++ [last]).length + 1) 1 false
          simp
        · show [(u + 1, some (Box.cells (texts (pre ++ [last]) ++ [.str []]) ⟨false, none⟩))] = [(u + 1, some (Box.cells (texts ((pre ++ [last]) ++ [[]])) ⟨false, none⟩))]
          simp [texts]
      · have hc : s[i] ≠ 32 := by
          intro e
          have h' : (((s.getD (i : Int).toNat 0).toNat : Nat) : Int) ≠ 32 := hc
          rw [Int.toNat_natCast, hgd, e] at h'
          exact h' rfl
        have hw1 : IntKind.i64.wrap (((pre.length + 1 : Nat) : Int) - 1) = (pre.length : Int) := w64 (by omega) (by omega)
        refine ab 1000 rfl trivial ?_
        have hw2 : IntKind.i64.wrap ((i : Int) + 1) = ((i + 1 : Nat) : Int) := w64 (by omega) (by omega)
        have hcut : cutL (some (i : Int)) (some (IntKind.i64.wrap ((i : Int) + 1))) s = [s[i]] := by
          rw [hw2]
          show (s.take ((i + 1 : Nat) : Int).toNat).drop (i : Int).toNat = _
          rw [Int.toNat_natCast, Int.toNat_natCast, List.take_succ_eq_append_getElem hil, List.drop_left' (by simp; omega)]
        have hld : ((texts (pre ++ [last])).drop (offN 0 (mulN (IntKind.i64.wrap (((pre.length + 1 : Nat) : Int) - 1)).toNat 1)))[0]? = some (.str last) := by
          rw [offN_eq, mulN_eq, hw1, Int.toNat_natCast]
          simp [texts]
        refine S_draw 12 [] [.top, .str last] rfl rfl rfl rfl ⟨rfl, rfl, rfl, rfl, rfl, by rw [hw1]; omega, by rw [hw1]; omega, rfl, hld, rfl, rfl, rfl, rfl, rfl, by omega, by rw [hw2]; omega, by rw [hw2]; omega, rfl, by rw [hcut]; simp; omega, trivial⟩ ?_
        refine ab 1000 rfl trivial ?_
        refine S_index .top rfl rfl rfl ⟨rfl, by rw [hw1]; omega, by rw [hw1]; omega, trivial⟩ ?_
        refine S_store rfl rfl rfl ⟨rfl, rfl, rfl, ?_, trivial⟩ ?_
        · show offN 0 (mulN (IntKind.i64.wrap (((pre.length + 1 : Nat) : Int) - 1)).toNat 1) + 1 ≤ (texts (pre ++ [last])).length
          rw [offN_eq, mulN_eq, hw1, Int.toNat_natCast]; omega
        refine ab 1000 rfl trivial ?_
        refine S_round (i + 1, pre, last ++ [s[i]], u) (by show s.length - (i + 1) < s.length - i; omega) ⟨hil, by omega, by simp; omega, by rw [← h4, hd, glue_cons last hc]⟩ (.cons rfl (.cons rfl (.cons (ai64 rfl (by omega)) (.nil _)))) ?_
        show [(u, some (Box.cells (setRange (texts (pre ++ [last])) (offN 0 (mulN (IntKind.i64.wrap (((pre.length + 1 : Nat) : Int) - 1)).toNat 1)) [.str (last ++ cutL (some (i : Int)) (some (IntKind.i64.wrap ((i : Int) + 1))) s)]) ⟨false, none⟩))] = [(u, some (Box.cells (texts (pre ++ [last ++ [s[i]]])) ⟨false, none⟩))]
        rw [hcut, offN_eq, mulN_eq, hw1, Int.toNat_natCast, Nat.zero_add, Nat.mul_one]
        have := set_at (texts pre) (AV.str (last ++ [s[i]])) (.str last) []
        rw [show (texts pre).length = pre.length by simp [texts]] at this
        show [(u, some (Box.cells (List.set (texts (pre ++ [last])) pre.length (.str (last ++ [s[i]]))) _))] = _
        rw [show texts (pre ++ [last]) = texts pre ++ [.str last] by simp [texts], this]
        simp [texts]
    · have hil : i = s.length := by omega
      rw [hil, List.drop_length] at h4
      refine ab 1000 rfl trivial ?_
      refine S_ret ⟨_, _, rfl, trivial, _, rfl, ?_⟩
      rw [← h4]
      simp only [splitB, glue, List.append_nil]
      exact .ms1 rfl (texts_one _) (by simp [texts]) (texts_any _)
theorem SbCheck_ok {st fl : Bool} (com : List (List UInt8)) (hl : com.length ≤ 1000000000000) : Calc cx 10 [.sl st fl 1 (texts com)] (.tup [.int .i64 (comI com : Nat), .int .i64 (comE com : Nat)]) :=
  pure_intro (fun a w => Tryz.call10 a w) Tryz.func10 rfl Tryz.ntmps10 rfl (.tup (by intro x hx; simp at hx; rcases hx with rfl | rfl; exact .int; exact .int)) fun B => by
    have h := program_ok (st := st) (fl := fl) com hl
    refine pa [.v (proAV com)] rfl ?_ ?_
    · (repeat' with_reducible apply AllP_cons) <;> try exact aC
      · exact ⟨_, h, .cons (.refl (.sl (fun h => by cases h) (texts_any _))) (.nil _)⟩
    exact S_retc (.tup (by intro x hx; simp at hx; rcases hx with rfl | rfl; exact .int; exact .int)) rfl trivial rfl
def begC : List (List UInt8) := [[115, 101, 116, 32, 97, 32, 104, 105], [109, 97, 107, 101, 32, 111, 117, 116, 32, 97]]
def begG : List (List UInt8) := [[103, 111, 116, 111, 32, 53]]
def begF : Fil := ⟨[111, 117, 116], [104, 105], false⟩
theorem beg_box : boxE [] begC 100 = 0 := by kernel_rfl
theorem beg_made : (runT [] begC 100).made = [begF] := by kernel_rfl
theorem beg_code : (runT [] begC 100).code = 0 := by kernel_rfl
theorem beg_left : (runT [] begC 100).left = 98 := by kernel_rfl
theorem beg_goto : comI begG = 0 ∧ comE begG = 1 := ⟨by kernel_rfl, by kernel_rfl⟩
theorem ov_one (f : Fil) : ovT [f] = [f] := by
  have h1 := (sortT_perm (ksP [f])).length_eq
  have h2 : ksP [f] = [f.path] := rfl
  rw [h2] at h1
  unfold ovT
  rw [h2]
  have hp := sortT_perm [f.path]
  rw [List.perm_singleton.1 hp]
  show [lastF [f] f.path] = [f]
  unfold lastF
  simp
theorem sandboxBegun_ok : Calc cx 12 [] (.bool true) :=
  pure_intro (fun a w => Tryz.call12 a w) Tryz.func12 rfl Tryz.ntmps12 rfl .bool fun B => by
    have hR := Run_any (st := true) (fl := true) (st' := true) (fl' := true) [] begC 100 ⟨by simp, by simp, by simp⟩ (by simp [begC]) ⟨by omega, by omega⟩
    have hC := SbCheck_ok (st := true) (fl := true) begG (by simp [begG])
    rw [beg_goto.1, beg_goto.2] at hC
    unfold runAV at hR
    rw [beg_box, if_pos rfl, if_pos rfl, if_pos rfl, show (100 : Int).toNat = 100 from rfl, beg_made, beg_code, beg_left, ov_one] at hR
    refine pa [.v (.tup [.sl true false 3 (fils [begF]), .int .i64 ((0 : Nat) : Int), .int .i64 ((2 : Nat) : Int), .int .i64 ((0 : Nat) : Int)]), .v (.tup [.int .i64 ((0 : Nat) : Int), .int .i64 ((1 : Nat) : Int)]), .b true, .b true, .b true, .b true, .v (filA begF), .b true, .b true] rfl ?_ ?_
    · (repeat' with_reducible apply AllP_cons) <;> try exact aC
      · exact ⟨_, hR, .cons .nils (.cons (.refl (.sl (fun h => by cases h) (texts_any begC))) (.cons (.refl .int) (.nil _)))⟩
      · exact ⟨_, hC, .cons (.refl (.sl (fun h => by cases h) (texts_any begG))) (.nil _)⟩
    exact S_retc .bool rfl trivial rfl
end Go.Proofs.YtgmakmfdjhgjlaaGreatDoor
end
section
set_option linter.unusedVariables false
set_option linter.unusedSimpArgs false
set_option maxRecDepth 20000
set_option maxHeartbeats 4000000
namespace Go.Proofs.YtgmakmfdjhgjlaaGreatDoor
open Go Go.Ab
structure CdOk (m : Mc) : Prop where
  run : m.done = false → m.code = 0
  fuel : m.code = 104 → m.left = 0
theorem CdOk.end_ {m : Mc} {l k : Nat} (h : k = 104 → l = 0) : CdOk (endM k { m with left := l }) := ⟨fun h => (by cases h), h⟩
theorem trip_c (k : Nat) (m : Mc) (hk : k ≠ 104) : CdOk (tripM k m) := by
  unfold tripM
  split
  · exact .end_ fun _ => rfl
  · exact .end_ fun h => absurd h hk
theorem CdOk.set {m : Mc} (h : CdOk m) (hd : m.done = false) (r t : List UInt8) : CdOk (setM r t m) := by
  unfold setM keepM
  split
  · exact trip_c 102 _ (by decide)
  split
  · exact .end_ fun _ => rfl
  · exact ⟨fun _ => h.run hd, fun e => by have e : m.code = 104 := e; rw [h.run hd] at e; cases e⟩
theorem CdOk.make {m : Mc} (h : CdOk m) (hd : m.done = false) (p t : List UInt8) (run : Bool) : CdOk (makeM p t run m) := by
  unfold makeM
  split
  · exact trip_c 103 _ (by decide)
  unfold keepM
  split
  · exact trip_c 102 _ (by decide)
  split
  · exact .end_ fun _ => rfl
  · exact ⟨fun _ => h.run hd, fun e => by have e : m.code = 104 := e; rw [h.run hd] at e; cases e⟩
theorem CdOk.jump {m : Mc} (h : CdOk m) (hd : m.done = false) (b : Bool) (to : Nat) : CdOk (jumpM b to m) := by
  unfold jumpM
  split
  · exact .end_ fun _ => rfl
  split
  · exact ⟨fun _ => h.run hd, fun e => by have e : m.code = 104 := e; rw [h.run hd] at e; cases e⟩
  · exact ⟨fun _ => h.run hd, fun e => by have e : m.code = 104 := e; rw [h.run hd] at e; cases e⟩
theorem CdOk.step {L : Nat} {fs : List Fil} {x : Ln} {m : Mc} (h : CdOk m) (hd : m.done = false) (hx : LnOk L x) : CdOk (stepM fs x m) := by
  cases hx with
  | set => exact h.set hd _ _
  | @read c p =>
    show CdOk (match fs.find? (fun f => f.path == p) with | none => tripM 101 m | some f => setM [c] f.text m)
    split
    · exact trip_c 101 _ (by decide)
    · exact h.set hd _ _
  | list => exact h.set hd _ _
  | join => exact h.set hd _ _
  | cut => exact h.set hd _ _
  | size => exact h.set hd _ _
  | sum => exact h.set hd _ _
  | make => exact h.make hd _ _ _
  | run => exact h.make hd _ _ _
  | same => exact h.jump hd _ _
  | less => exact h.jump hd _ _
  | goto => exact h.jump hd _ _
  | @exit w j hw => exact trip_c j _ (by have := (numT_le hw).1; omega)
theorem runM_le {L : Nat} {fs : List Fil} {prog : List Ln} (hp : ∀ x ∈ prog, LnOk L x) : ∀ (n : Nat) (m : Mc), (runM fs prog n m).left ≤ m.left
  | 0, m => Nat.le_refl _
  | n + 1, m => by
    rw [runM]
    by_cases hd : m.done = true
    · rw [if_pos hd]; exact Nat.le_refl _
    · rw [if_neg hd]
      split
      · exact Nat.le_refl _
      · rename_i x hq
        exact Nat.le_trans (runM_le hp n _) (step_less (fs := fs) (m := { m with pc := m.pc + 1 }) (hp x (List.mem_of_getElem? hq))).le
theorem run_inv {L : Nat} {fs : List Fil} {prog : List Ln} (hp : ∀ x ∈ prog, LnOk L x) (hL : L ≤ 1000) (hpl : prog.length ≤ 1000) : ∀ (n : Nat) (m : Mc), McI m → CdOk m → McI (runM fs prog n m) ∧ CdOk (runM fs prog n m)
  | 0, m, h1, h2 => ⟨h1, h2⟩
  | n + 1, m, h1, h2 => by
    rw [runM]
    by_cases hd : m.done = true
    · rw [if_pos hd]; exact ⟨h1, h2⟩
    · rw [if_neg hd]
      have hd : m.done = false := by simpa using hd
      split
      · exact ⟨h1, h2⟩
      · rename_i x hq
        have hx := hp x (List.mem_of_getElem? hq)
        have hpc : m.pc < prog.length := (List.getElem?_eq_some_iff.1 hq).1
        have hc2 : CdOk { m with pc := m.pc + 1 } := ⟨h2.run, h2.fuel⟩
        exact run_inv hp hL hpl n _ ((h1.next (by omega)).step (fs := fs) hx hL) (hc2.step (fs := fs) hd hx)
end Go.Proofs.YtgmakmfdjhgjlaaGreatDoor
end
section
set_option linter.unusedVariables false
set_option linter.unusedSimpArgs false
set_option maxRecDepth 20000
set_option maxHeartbeats 4000000
namespace Go.Proofs.YtgmakmfdjhgjlaaGreatDoor
open Go Go.Ab
theorem msFs (v : Nat) (o : List Fil) (τ : Heap) (g : Tag) : Frz false ((v, some (.cells (celsF o) g)) :: τ) (.ms 0 v 0 o.length 3 false) (.sl false false 3 (fils o)) :=
  .ms rfl (by rw [cels_len]; omega) (by rw [List.drop_zero]; exact List.take_of_length_le (by rw [cels_len]; omega)) (fil_size _) (fils_len _) (fils_free _)
theorem atF_step (o : List Fil) (f : Fil) : (atF o f.path = -1 ∧ stepF o f = addF o f) ∨ ∃ j, j < o.length ∧ atF o f.path = (j : Nat) ∧ stepF o f = o.set j f := by
  unfold atF stepF
  cases hq : o.findIdx? (fun g => g.path == f.path) with
  | none => exact .inl ⟨rfl, rfl⟩
  | some j =>
    have := (List.findIdx?_eq_some_iff_getElem.1 hq).1
    exact .inr ⟨j, this, rfl, rfl⟩
theorem addF_len (o : List Fil) (f : Fil) : (addF o f).length = o.length + 1 := by
  have := lessF_le f.path o
  unfold addF
  rw [List.length_append, List.length_cons, List.length_take, List.length_drop]; omega
end Go.Proofs.YtgmakmfdjhgjlaaGreatDoor
end
section
set_option linter.unusedVariables false
set_option linter.unusedSimpArgs false
set_option maxRecDepth 20000
set_option maxHeartbeats 4000000
namespace Go.Proofs.YtgmakmfdjhgjlaaGreatDoor
open Go Go.Ab
theorem made_dir {m : Mc} (h : McI m) : DirOk 101 (ovT m.made) := by
  have hmem : ∀ f ∈ ovT m.made, f ∈ m.made := fun f hf => ov_sub hf
  have hks : ∀ f ∈ ovT m.made, f.path ∈ ksP m.made := fun f hf => ksP_mem.2 ⟨f, hmem f hf, rfl⟩
  have hln : (ovT m.made).length = (ksP m.made).length := by unfold ovT; rw [List.length_map, (sortT_perm _).length_eq]
  refine ⟨by have := h.many; omega, fun f hf => (h.pth f (hmem f hf)).1, fun f hf => (h.pth f (hmem f hf)).2, ⟨?_, fun f hf g hg => h.meet _ (hks f hf) _ (hks g hg)⟩, fun f hf => ?_⟩
  · rw [List.pairwise_iff_getElem]
    intro i j hi hj hij
    have e : ∀ k (hk : k < (ovT m.made).length), (ovT m.made)[k].path = (sortT (ksP m.made))[k]'(by simpa [ovT] using hk) := by
      intro k hk
      have hk' : k < (sortT (ksP m.made)).length := by simpa [ovT] using hk
      have : (ovT m.made)[k] = lastF m.made ((sortT (ksP m.made))[k]'hk') := List.getElem_map (lastF m.made)
      rw [this]
      exact (lastF_mem ((sortT_perm _).mem_iff.1 (List.getElem_mem hk'))).2
    rw [e i hi, e j hj, bl_eq, decide_eq_true_eq]
    exact sort_lt (ksP_nodup _) hij _
  · have := (path_fst (h.pth f (hmem f hf)).1).2.1; omega
theorem box_facts {fs : List Fil} {com : List (List UInt8)} {fuel : Int} (h : boxE fs com fuel = 0) : chkT fs = 0 ∧ comE com = 0 ∧ 0 ≤ fuel ∧ fuel ≤ 100000 := by
  unfold boxE at h
  by_cases h0 : chkT fs = 0
  · rw [if_pos h0] at h
    by_cases h1 : comE com = 0
    · rw [if_pos h1] at h
      by_cases h2 : fuel < 0 ∨ 100000 < fuel
      · rw [if_pos h2] at h; cases h
      · exact ⟨h0, h1, by omega, by omega⟩
    · rw [if_neg h1] at h; exact absurd h h1
  · rw [if_neg h0] at h; exact absurd h h0
theorem runT_inv {fs : List Fil} {com : List (List UInt8)} {fu : Nat} (h1 : comE com = 0) (hf : fu ≤ 100000) : McI (runT fs com fu) ∧ CdOk (runT fs com fu) ∧ (runT fs com fu).left ≤ fu ∧
    ∃ prog, progT com.length com = some prog ∧ prog.length = com.length ∧ (∀ x ∈ prog, LnOk com.length x) ∧ ∀ k, runT fs com k = runM fs prog (k + 1) (mc0 k) := by
  obtain ⟨hc60, hcs, prog, hpr⟩ := comE_long h1
  obtain ⟨hpl, hpo⟩ := progT_ok hcs hpr
  have hrT : ∀ k, runT fs com k = runM fs prog (k + 1) (mc0 k) := fun k => by unfold runT; rw [hpr]; rfl
  obtain ⟨a1, a2⟩ := run_inv (fs := fs) hpo (by omega) (by omega) (fu + 1) (mc0 fu) (mc0_ok hf) ⟨fun _ => rfl, fun h => by cases h⟩
  rw [hrT]
  exact ⟨a1, a2, runM_le hpo _ _, prog, hpr, hpl, hpo, hrT⟩
theorem comR {st fl : Bool} (com : List (List UInt8)) {σ : Heap} : Frz false σ (.sl st fl 1 (texts com)) (.sl st fl 1 (texts com)) := .refl (.sl (fun h => by cases h) (texts_any _))
theorem filR {st fl : Bool} (l : List Fil) {σ : Heap} : Frz false σ (.sl st fl 3 (fils l)) (.sl st fl 3 (fils l)) := .refl (.sl (fun h => by cases h) (fils_free _))
def runR (m : Mc) (fu : Nat) : AV := .tup [.sl true false 3 (fils (ovT m.made)), .int .i64 (m.code : Nat), .int .i64 (fu - m.left : Nat), .int .i64 ((0 : Nat) : Int)]
theorem runAV_0 {fs : List Fil} {com : List (List UInt8)} {fu : Nat} (h : boxE fs com (fu : Int) = 0) : runAV fs com (fu : Int) = runR (runT fs com fu) fu := by
  unfold runAV runR
  rw [h, if_pos rfl, if_pos rfl, if_pos rfl, Int.toNat_natCast]
end Go.Proofs.YtgmakmfdjhgjlaaGreatDoor
end
section
set_option linter.unusedVariables false
set_option linter.unusedSimpArgs false
set_option maxRecDepth 20000
set_option maxHeartbeats 4000000
namespace Go.Proofs.YtgmakmfdjhgjlaaGreatDoor
open Go Go.Ab
theorem op_of {L : Nat} {s : List UInt8} {x : Ln} (h : lnOf L s = some x) : x.op = fst32 s := by
  by_cases h0 : fst32 s = kSet
  · obtain ⟨c, b, t, _, _, _, rfl⟩ := ln_set h h0; exact h0.symm
  · obtain ⟨f, _, _, ho, _⟩ := ln_other h h0; exact ho
theorem prog_mem {L : Nat} : ∀ {com : List (List UInt8)} {xs : List Ln}, progT L com = some xs → ∀ x ∈ xs, ∃ s ∈ com, lnOf L s = some x
  | [], xs, h, x, hx => by cases h; cases hx
  | s :: r, xs, h, x, hx => by
    rw [progT] at h
    cases hq : lnOf L s with
    | none => rw [hq] at h; cases h
    | some y =>
      rw [hq] at h
      replace h : (progT L r).map (y :: ·) = some xs := h
      cases hr : progT L r with
      | none => rw [hr] at h; cases h
      | some ys =>
        rw [hr] at h
        cases h
        rcases List.mem_cons.1 hx with rfl | hx
        · exact ⟨s, List.mem_cons_self .., hq⟩
        · obtain ⟨t, ht, k⟩ := prog_mem hr x hx
          exact ⟨t, List.mem_cons_of_mem _ ht, k⟩
theorem split_head (s : List UInt8) : ∃ r, splitB 32 s = fst32 s :: r := ⟨_, split_fst32 s⟩
def Straight (x : Ln) : Prop := x.op ≠ kGoto ∧ x.op ≠ kSame ∧ x.op ≠ kLess
def StepB (m a : Mc) : Prop := m.left ≤ a.left + 6251 ∧ (a.done = true ∨ a.pc = m.pc)
theorem trip_b (k : Nat) (m : Mc) : StepB m (tripM k m) := by
  unfold tripM
  split
  · exact ⟨by show m.left ≤ 0 + 6251; omega, .inl rfl⟩
  · exact ⟨by show m.left ≤ m.left - 1 + 6251; omega, .inl rfl⟩
theorem keep_b {t : List UInt8} {k : Mc → Mc} {m : Mc} (hk : ∀ m, (k m).left = m.left) (hp : ∀ m, (k m).pc = m.pc) : StepB m (keepM t k m) := by
  unfold keepM
  split
  · exact trip_b _ _
  split
  · exact ⟨by show m.left ≤ 0 + 6251; omega, .inl rfl⟩
  · exact ⟨by rw [hk]; show m.left ≤ m.left - (1 + t.length / 16) + 6251; omega, .inr (by rw [hp])⟩
theorem set_b (r t : List UInt8) (m : Mc) : StepB m (setM r t m) := keep_b (fun _ => rfl) (fun _ => rfl)
theorem make_b (p t : List UInt8) (run : Bool) (m : Mc) : StepB m (makeM p t run m) := by
  unfold makeM
  split
  · exact trip_b _ _
  · exact keep_b (fun _ => rfl) (fun _ => rfl)
theorem step_b {L : Nat} {fs : List Fil} {x : Ln} {m : Mc} (hx : LnOk L x) (hs : Straight x) : StepB m (stepM fs x m) := by
  cases hx with
  | set => exact set_b _ _ _
  | @read c p =>
    show StepB m (match fs.find? (fun f => f.path == p) with | none => tripM 101 m | some f => setM [c] f.text m)
    split
    · exact trip_b _ _
    · exact set_b _ _ _
  | list => exact set_b _ _ _
  | join => exact set_b _ _ _
  | cut => exact set_b _ _ _
  | size => exact set_b _ _ _
  | sum => exact set_b _ _ _
  | make => exact make_b _ _ _ _
  | run => exact make_b _ _ _ _
  | same => exact absurd rfl hs.2.1
  | less => exact absurd rfl hs.2.2
  | goto => exact absurd rfl hs.1
  | exit => exact trip_b _ _
theorem runAV_n {fs : List Fil} {com : List (List UInt8)} {fuel : Int} (h : boxE fs com fuel ≠ 0) : runAV fs com fuel = .tup [.sl true false 3 (fils []), .int .i64 ((0 : Nat) : Int), .int .i64 ((0 : Nat) : Int), .int .i64 (boxE fs com fuel : Nat)] := by
  unfold runAV
  rw [if_neg h, if_neg h, if_neg h]
end Go.Proofs.YtgmakmfdjhgjlaaGreatDoor
end
section
set_option linter.unusedVariables false
set_option linter.unusedSimpArgs false
set_option maxRecDepth 20000
set_option maxHeartbeats 4000000
namespace Go.Proofs.YtgmakmfdjhgjlaaGreatDoor
open Go Go.Ab
def runS (fs : List Fil) : List Ln → Mc → Mc
  | [], m => m
  | x :: r, m => if m.done then m else runS fs r (stepM fs x { m with pc := m.pc + 1 })
theorem runS_done {fs : List Fil} {m : Mc} (h : m.done = true) : ∀ r, runS fs r m = m
  | [] => rfl
  | x :: r => by rw [runS, if_pos h]
theorem runS_app {fs : List Fil} : ∀ (r s : List Ln) (m : Mc), runS fs (r ++ s) m = runS fs s (runS fs r m)
  | [], s, m => rfl
  | x :: r, s, m => by
    show (if m.done then m else runS fs (r ++ s) (stepM fs x { m with pc := m.pc + 1 })) = runS fs s (if m.done then m else runS fs r (stepM fs x { m with pc := m.pc + 1 }))
    by_cases h : m.done = true
    · rw [if_pos h, if_pos h, runS_done h]
    · rw [if_neg h, if_neg h, runS_app r s]
theorem runM_S {L : Nat} {fs : List Fil} {prog : List Ln} (hp : ∀ x ∈ prog, LnOk L x) (hs : ∀ x ∈ prog, Straight x) : ∀ (r : List Ln) (n : Nat) (m : Mc), prog.drop m.pc = r → r.length ≤ n → runM fs prog n m = runS fs r m
  | [], n, m, h, _ => by
    have hq : prog[m.pc]? = none := by
      have : prog.length ≤ m.pc := List.drop_eq_nil_iff.1 h
      exact List.getElem?_eq_none this
    cases n with
    | zero => rfl
    | succ n =>
      rw [runM, hq]
      by_cases hd : m.done = true
      · rw [if_pos hd]; rfl
      · rw [if_neg hd]; rfl
  | x :: r, 0, m, h, hn => absurd hn (by simp)
  | x :: r, n + 1, m, h, hn => by
    have hq : prog[m.pc]? = some x := by
      have := congrArg (fun l => l[0]?) h
      simpa using this
    have hx := List.mem_of_getElem? hq
    rw [runM, hq]
    show (if m.done = true then m else runM fs prog n (stepM fs x { m with pc := m.pc + 1 })) = if m.done then m else runS fs r (stepM fs x { m with pc := m.pc + 1 })
    by_cases hd : m.done = true
    · rw [if_pos hd, if_pos hd]
    · rw [if_neg hd, if_neg hd]
      obtain ⟨_, h2⟩ := step_b (fs := fs) (m := { m with pc := m.pc + 1 }) (hp x hx) (hs x hx)
      rcases h2 with h2 | h2
      · rw [runM_done h2, runS_done h2]
      · refine runM_S hp hs r n _ ?_ (by simpa using hn)
        rw [h2]
        have := congrArg (List.drop 1) h
        rw [List.drop_drop] at this
        simpa using this
theorem step_e {L : Nat} {fs : List Fil} {x : Ln} {m : Mc} (hx : LnOk L x) (he : x.op ≠ kExit) (hm : m.done = true → m.code ≠ 0) : (stepM fs x m).done = true → (stepM fs x m).code ≠ 0 := by
  have trip : ∀ k, k ≠ 0 → (tripM k m).done = true → (tripM k m).code ≠ 0 := fun k hk _ => by
    unfold tripM
    split
    · show 104 ≠ 0; decide
    · exact hk
  have set : ∀ r t, (setM r t m).done = true → (setM r t m).code ≠ 0 := fun r t => by
    unfold setM keepM
    split
    · exact trip 102 (by decide)
    split
    · intro _; show 104 ≠ 0; decide
    · exact hm
  have make : ∀ p t run, (makeM p t run m).done = true → (makeM p t run m).code ≠ 0 := fun p t run => by
    unfold makeM keepM
    split
    · exact trip 103 (by decide)
    split
    · exact trip 102 (by decide)
    split
    · intro _; show 104 ≠ 0; decide
    · exact hm
  have jump : ∀ b to, (jumpM b to m).done = true → (jumpM b to m).code ≠ 0 := fun b to => by
    unfold jumpM
    split
    · intro _; show 104 ≠ 0; decide
    · cases b <;> exact hm
  cases hx with
  | set => exact set _ _
  | @read c p =>
    show (match fs.find? (fun f : Fil => f.path == p) with | none => tripM 101 m | some f => setM [c] f.text m).done = true → (match fs.find? (fun f : Fil => f.path == p) with | none => tripM 101 m | some f => setM [c] f.text m).code ≠ 0
    split
    · exact trip 101 (by decide)
    · exact set _ _
  | list => exact set _ _
  | join => exact set _ _
  | cut => exact set _ _
  | size => exact set _ _
  | sum => exact set _ _
  | make => exact make _ _ _
  | run => exact make _ _ _
  | same => exact jump _ _
  | less => exact jump _ _
  | goto => exact jump _ _
  | exit => exact absurd rfl he
theorem runS_e {L : Nat} {fs : List Fil} : ∀ (r : List Ln) (m : Mc), (∀ x ∈ r, LnOk L x ∧ x.op ≠ kExit) → (m.done = true → m.code ≠ 0) → (runS fs r m).done = true → (runS fs r m).code ≠ 0
  | [], m, _, h => h
  | x :: r, m, hp, h => by
    rw [runS]
    by_cases hd : m.done = true
    · rw [if_pos hd]; exact h
    · rw [if_neg hd]
      exact runS_e r _ (fun y hy => hp y (List.mem_cons_of_mem _ hy)) (step_e (fs := fs) (hp x (List.mem_cons_self ..)).1 (hp x (List.mem_cons_self ..)).2 h)
theorem words_L {L K : Nat} : ∀ (f : List UInt8) (ws : List (List UInt8)), 108 ∉ f → wordsT L f ws = wordsT K f ws
  | [], [], _ => rfl
  | [], _ :: _, _ => rfl
  | _ :: _, [], _ => rfl
  | c :: f, w :: ws, h => by
    have hc : c ≠ 108 := fun e => h (e ▸ List.mem_cons_self ..)
    have hw : wordT c w L = wordT c w K := by unfold wordT; rw [if_neg hc, if_neg hc]
    rw [wordsT, wordsT, hw, words_L f ws (fun hm => h (List.mem_cons_of_mem _ hm))]
theorem ln_L {L K : Nat} {s : List UInt8} (h : fst32 s ≠ kGoto ∧ fst32 s ≠ kSame ∧ fst32 s ≠ kLess) : lnOf L s = lnOf K s := by
  unfold lnOf
  cases hf : formT' (fst32 s) with
  | none => rfl
  | some f =>
    have hm := formL_mem hf
    have h8 : 108 ∉ f := by
      generalize fst32 s = w at *
      simp only [formL, List.mem_cons, Prod.mk.injEq, List.not_mem_nil, or_false] at hm
      rcases hm with ⟨rfl, rfl⟩ | ⟨rfl, rfl⟩ | ⟨rfl, rfl⟩ | ⟨rfl, rfl⟩ | ⟨rfl, rfl⟩ | ⟨rfl, rfl⟩ | ⟨rfl, rfl⟩ | ⟨rfl, rfl⟩ | ⟨rfl, rfl⟩ | ⟨rfl, rfl⟩ | ⟨rfl, rfl⟩ | ⟨rfl, rfl⟩ | ⟨rfl, rfl⟩
      all_goals first | exact absurd rfl h.1 | exact absurd rfl h.2.1 | exact absurd rfl h.2.2 | decide
    show (if f = [114, 116] then _ else _ : Option Ln) = if f = [114, 116] then _ else _
    rw [words_L f _ h8]
theorem prog_L {L K : Nat} : ∀ (a : List (List UInt8)), (∀ s ∈ a, fst32 s ≠ kGoto ∧ fst32 s ≠ kSame ∧ fst32 s ≠ kLess) → progT L a = progT K a
  | [], _ => rfl
  | s :: r, h => by rw [progT, progT, ln_L (L := L) (K := K) (h s (List.mem_cons_self ..)), prog_L r fun t ht => h t (List.mem_cons_of_mem _ ht)]
theorem prog_app {L : Nat} : ∀ (a b : List (List UInt8)) (xs ys : List Ln), progT L a = some xs → progT L b = some ys → progT L (a ++ b) = some (xs ++ ys)
  | [], b, xs, ys, h, h2 => by cases h; exact h2
  | s :: r, b, xs, ys, h, h2 => by
    rw [progT] at h
    rw [List.cons_append, progT]
    cases hq : lnOf L s with
    | none => rw [hq] at h; cases h
    | some x =>
      rw [hq] at h
      replace h : (progT L r).map (x :: ·) = some xs := h
      show (progT L (r ++ b)).map (x :: ·) = some (xs ++ ys)
      cases hr : progT L r with
      | none => rw [hr] at h; cases h
      | some zs =>
        rw [hr] at h; cases h
        rw [prog_app r b zs ys hr h2]; rfl
def jnP : List UInt8 := [106, 111, 105, 110, 101, 100, 47, 108, 97, 115, 116]
def jn1 (t : List UInt8) : List UInt8 := [115, 101, 116, 32, 104, 32] ++ t
def jn2 : List UInt8 := [109, 97, 107, 101, 32, 106, 111, 105, 110, 101, 100, 47, 108, 97, 115, 116, 32, 104]
theorem jn1_ln (L : Nat) (t : List UInt8) : lnOf L (jn1 t) = some ⟨kSet, [[104], t], []⟩ := by kernel_rfl
theorem jn2_ln (L : Nat) : lnOf L jn2 = some ⟨kMake, [jnP, [104]], [0, 0]⟩ := by kernel_rfl
theorem jn_prog (L : Nat) (t : List UInt8) : progT L [jn1 t, jn2] = some [⟨kSet, [[104], t], []⟩, ⟨kMake, [jnP, [104]], [0, 0]⟩] := by
  rw [progT, jn1_ln]
  show (progT L [jn2]).map _ = _
  rw [progT, jn2_ln]; rfl
theorem run_join {fs : List Fil} {a : List (List UInt8)} {t : List UInt8} (h1 : comE a = 0) (h2 : comE (a ++ [jn1 t, jn2]) = 0) (hs : ∀ s ∈ a, (fst32 s ≠ kGoto ∧ fst32 s ≠ kSame ∧ fst32 s ≠ kLess) ∧ fst32 s ≠ kExit) :
    ((runT fs a 100000).code ≠ 0 → (runT fs (a ++ [jn1 t, jn2]) 100000).code = (runT fs a 100000).code) ∧
    ((runT fs a 100000).code = 0 → (runT fs (a ++ [jn1 t, jn2]) 100000).code = 0 → (runT fs (a ++ [jn1 t, jn2]) 100000).made = (runT fs a 100000).made ++ [⟨jnP, t, false⟩] ∧
      (runT fs a 100000).left = (runT fs (a ++ [jn1 t, jn2]) 100000).left + 2 * (1 + t.length / 16)) := by
  obtain ⟨_, _, _, pa, hpa, hla, hoa, hrA⟩ := runT_inv (fs := fs) (fu := 100000) h1 (by omega)
  obtain ⟨_, _, _, pb, hpb, hlb, hob, hrB⟩ := runT_inv (fs := fs) (fu := 100000) h2 (by omega)
  have hL60 := (comE_long h1).1
  have hsa : ∀ x ∈ pa, Straight x ∧ x.op ≠ kExit := fun x hx => by
    obtain ⟨s, hs', k⟩ := prog_mem hpa x hx
    unfold Straight
    rw [op_of k]; exact hs s hs'
  have hpb2 : pb = pa ++ [⟨kSet, [[104], t], []⟩, ⟨kMake, [jnP, [104]], [0, 0]⟩] := by
    have := prog_app (L := (a ++ [jn1 t, jn2]).length) a [jn1 t, jn2] pa _ (by rw [prog_L (K := a.length) a fun s h => (hs s h).1]; exact hpa) (jn_prog _ t)
    rw [hpb] at this
    exact Option.some.inj this
  have hsb : ∀ x ∈ pb, Straight x := fun x hx => by
    rw [hpb2] at hx
    rcases List.mem_append.1 hx with h | h
    · exact (hsa x h).1
    · simp at h
      rcases h with rfl | rfl
      · exact ⟨by show kSet ≠ kGoto; decide, by show kSet ≠ kSame; decide, by show kSet ≠ kLess; decide⟩
      · exact ⟨by show kMake ≠ kGoto; decide, by show kMake ≠ kSame; decide, by show kMake ≠ kLess; decide⟩
  have eA : runT fs a 100000 = runS fs pa (mc0 100000) := by rw [hrA]; exact runM_S hoa (fun x hx => (hsa x hx).1) pa _ _ rfl (by omega)
  have eB : runT fs (a ++ [jn1 t, jn2]) 100000 = runS fs [⟨kSet, [[104], t], []⟩, ⟨kMake, [jnP, [104]], [0, 0]⟩] (runT fs a 100000) := by
    rw [eA, ← runS_app, ← hpb2, hrB]
    refine runM_S hob hsb pb _ _ rfl ?_
    rw [hpb2, List.length_append]
    show pa.length + 2 ≤ _
    omega
  have hE : (runT fs a 100000).done = true → (runT fs a 100000).code ≠ 0 := by
    rw [eA]; exact runS_e pa _ (fun x hx => ⟨hoa x hx, (hsa x hx).2⟩) (fun h => by cases h)
  obtain ⟨_, hC, _⟩ := runT_inv (fs := fs) (fu := 100000) h1 (by omega)
  rw [eB]
  generalize runT fs a 100000 = z at *
  refine ⟨fun h => ?_, fun h => ?_⟩
  · have hd : z.done = true := by
      cases hh : z.done with
      | true => rfl
      | false => exact absurd (hC.run hh) h
    rw [runS_done hd]
  · have hd : ¬ z.done = true := fun hh => hE hh h
    rw [runS, if_neg hd]
    show (runS fs [⟨kMake, [jnP, [104]], [0, 0]⟩] (setM [104] t { z with pc := z.pc + 1 })).code = 0 → (runS fs [⟨kMake, [jnP, [104]], [0, 0]⟩] (setM [104] t { z with pc := z.pc + 1 })).made = z.made ++ [⟨jnP, t, false⟩] ∧ z.left = (runS fs [⟨kMake, [jnP, [104]], [0, 0]⟩] (setM [104] t { z with pc := z.pc + 1 })).left + 2 * (1 + t.length / 16)
    unfold setM keepM
    split
    ·
      intro hc
      exfalso
      have ht : ∀ m : Mc, (tripM 102 m).done = true ∧ (tripM 102 m).code ≠ 0 := fun m => by
        unfold tripM
        split
        · exact ⟨rfl, by show 104 ≠ 0; decide⟩
        · exact ⟨rfl, by show 102 ≠ 0; decide⟩
      rw [runS_done (ht _).1] at hc
      exact (ht _).2 hc
    rename_i hlen
    split
    · intro hc
      rw [runS_done rfl] at hc
      exact absurd hc (by show ¬ 104 = 0; decide)
    rename_i hleft
    intro hc
    rw [runS, if_neg (by exact hd)] at hc ⊢
    have hr : ∀ m : Mc, stepM fs ⟨kMake, [jnP, [104]], [0, 0]⟩ m = makeM jnP (m.regs [104]) false m := fun m => rfl
    rw [hr] at hc ⊢
    have hrg : updT z.regs [104] t [104] = t := by unfold updT; rw [if_pos rfl]
    replace hc : (makeM jnP (updT z.regs [104] t [104]) false { regs := updT z.regs [104] t, ks := addK z.ks [104], made := z.made, pc := z.pc + 1 + 1, left := z.left - (1 + t.length / 16), code := z.code, done := z.done }).code = 0 := hc
    show (makeM jnP (updT z.regs [104] t [104]) false { regs := updT z.regs [104] t, ks := addK z.ks [104], made := z.made, pc := z.pc + 1 + 1, left := z.left - (1 + t.length / 16), code := z.code, done := z.done }).made = _ ∧ z.left = (makeM jnP (updT z.regs [104] t [104]) false { regs := updT z.regs [104] t, ks := addK z.ks [104], made := z.made, pc := z.pc + 1 + 1, left := z.left - (1 + t.length / 16), code := z.code, done := z.done }).left + _
    rw [hrg] at hc ⊢
    unfold makeM at hc ⊢
    split at hc
    · exfalso
      unfold tripM at hc
      split at hc
      · exact absurd hc (by show ¬ 104 = 0; decide)
      · exact absurd hc (by show ¬ 103 = 0; decide)
    · rename_i hbad
      rw [if_neg hbad]
      unfold keepM at hc ⊢
      rw [if_neg hlen] at hc ⊢
      split at hc
      · exact absurd hc (by show ¬ 104 = 0; decide)
      · rename_i hl2
        rw [if_neg hl2]
        refine ⟨rfl, ?_⟩
        have hl2 : ¬ z.left - (1 + t.length / 16) < 1 + t.length / 16 := hl2
        have hleft : ¬ z.left < 1 + t.length / 16 := hleft
        show z.left = z.left - (1 + t.length / 16) - (1 + t.length / 16) + 2 * (1 + t.length / 16)
        omega
end Go.Proofs.YtgmakmfdjhgjlaaGreatDoor
end
section
set_option linter.unusedVariables false
set_option linter.unusedSimpArgs false
set_option maxRecDepth 20000
set_option maxHeartbeats 4000000
namespace Go.Proofs.YtgmakmfdjhgjlaaGreatDoor
open Go Go.Ab
theorem atF_map (l : List Fil) (p : List UInt8) : atF l p = match (l.map Fil.path).findIdx? (fun q => q == p) with | none => -1 | some i => (i : Int) := by
  unfold atF
  rw [List.findIdx?_map]
  have : ((fun q => q == p) ∘ Fil.path) = fun f : Fil => f.path == p := rfl
  rw [this]
  cases l.findIdx? (fun f : Fil => f.path == p) <;> rfl
theorem jn_files (o : List Fil) (f : Fil) : ∃ j, ∃ h : j < (stepF o f).length, atF (stepF o f) f.path = (j : Nat) ∧ (stepF o f)[j] = f ∧
    ((atF o f.path = -1 ∧ (stepF o f).take j ++ (stepF o f).drop (j + 1) = o) ∨ ∃ i, i < o.length ∧ atF o f.path = (i : Nat) ∧ (stepF o f).take j ++ (stepF o f).drop (j + 1) = o.take i ++ o.drop (i + 1)) := by
  rcases atF_cases o f.path with ⟨k1, k2⟩ | ⟨i, hi, k1, k2⟩
  · have hs : stepF o f = addF o f := by
      rcases atF_step o f with ⟨_, h⟩ | ⟨j, _, h, _⟩
      · exact h
      · rw [k1] at h; omega
    have hle := lessF_le f.path o
    have hlen := addF_len o f
    rw [hs]
    have hj : lessF f.path o < (addF o f).length := by omega
    have hel : (addF o f)[lessF f.path o] = f := by
      have : (addF o f)[lessF f.path o]? = some f := by
        unfold addF
        rw [List.getElem?_append_right (by rw [List.length_take]; omega), List.length_take, Nat.min_eq_left hle, Nat.sub_self]; rfl
      exact (List.getElem?_eq_some_iff.1 this).2
    have htk : (addF o f).take (lessF f.path o) ++ (addF o f).drop (lessF f.path o + 1) = o := by
      unfold addF
      have hl : (o.take (lessF f.path o)).length = lessF f.path o := by rw [List.length_take, Nat.min_eq_left hle]
      rw [List.take_left' hl, List.drop_append, List.drop_eq_nil_of_le (by omega), hl, show lessF f.path o + 1 - lessF f.path o = 1 by omega]
      simp
    refine ⟨_, hj, ?_, hel, .inl ⟨k1, htk⟩⟩
    rcases atF_cases (addF o f) f.path with ⟨q1, q2⟩ | ⟨i, hi, q1, q2⟩
    · have hm : f ∈ addF o f := by unfold addF; simp
      exact absurd rfl (q2 f hm)
    · rw [q1]
      congr 1
      rcases Nat.lt_trichotomy i (lessF f.path o) with h | h | h
      · exfalso
        refine k2 (addF o f)[i] ?_ q2
        have : (addF o f)[i] ∈ (addF o f).take (lessF f.path o) := List.mem_take_iff_getElem.2 ⟨i, by omega, rfl⟩
        have := List.mem_append_left ((addF o f).drop (lessF f.path o + 1)) this
        rwa [htk] at this
      · exact h
      · exfalso
        refine k2 (addF o f)[i] ?_ q2
        have : (addF o f)[i] ∈ (addF o f).drop (lessF f.path o + 1) := List.mem_drop_iff_getElem.2 ⟨i - (lessF f.path o + 1), by omega, by congr 1; omega⟩
        have := List.mem_append_right ((addF o f).take (lessF f.path o)) this
        rwa [htk] at this
  · have hs : stepF o f = o.set i f := by
      rcases atF_step o f with ⟨h, _⟩ | ⟨j, _, h, h'⟩
      · rw [k1] at h; omega
      · rw [k1] at h; rw [h']; congr 1; omega
    rw [hs]
    refine ⟨i, by simpa using hi, ?_, by simp, .inr ⟨i, hi, k1, ?_⟩⟩
    · have : (o.set i f).map Fil.path = o.map Fil.path := by
        rw [List.map_set, ← k2]
        have := List.set_getElem_self (show i < (o.map Fil.path).length by simpa using hi)
        rwa [List.getElem_map] at this
      rw [atF_map, this, ← atF_map, k1]
    · rw [List.take_set_of_le (Nat.le_refl i), List.drop_set_of_lt (by omega)]
theorem joins_plain (fs : List Fil) (a : List (List UInt8)) (t : List UInt8) (hs : ∀ s ∈ a, (fst32 s ≠ kGoto ∧ fst32 s ≠ kSame ∧ fst32 s ≠ kLess) ∧ fst32 s ≠ kExit) :
    ∃ (o1 : List Fil) (c1 n1 e1 : Nat) (o2 : List Fil) (c2 n2 e2 : Nat), runAV fs a 100000 = .tup [.sl true false 3 (fils o1), .int .i64 (c1 : Nat), .int .i64 (n1 : Nat), .int .i64 (e1 : Nat)] ∧
      runAV fs (a ++ [jn1 t, jn2]) 100000 = .tup [.sl true false 3 (fils o2), .int .i64 (c2 : Nat), .int .i64 (n2 : Nat), .int .i64 (e2 : Nat)] ∧ o1.length ≤ 200 ∧ o2.length ≤ 200 ∧ n1 ≤ 100000 ∧
      (e1 = 0 → e2 = 0 → c1 ≠ 0 → c1 = c2) ∧ (e1 = 0 → e2 = 0 → c1 = 0 → c2 = 0 → o2 = stepF o1 ⟨jnP, t, false⟩ ∧ n2 = n1 + 2 * (1 + t.length / 16)) := by
  have inv : ∀ a, boxE fs a 100000 = 0 → chkT fs = 0 ∧ comE a = 0 ∧ (ovT (runT fs a 100000).made).length ≤ 200 ∧ (runT fs a 100000).left ≤ 100000 := fun a h => by
    obtain ⟨h0, h1, _, _⟩ := box_facts h
    obtain ⟨hI, _, hle, _⟩ := runT_inv (fs := fs) (fu := 100000) h1 (by omega)
    have := (made_dir hI).len
    exact ⟨h0, h1, by omega, hle⟩
  refine ⟨_, _, _, _, _, _, _, _, rfl, rfl, ?_, ?_, ?_, ?_, ?_⟩
  · split
    · rename_i h; exact (inv a h).2.2.1
    · exact Nat.zero_le _
  · split
    · rename_i h; exact (inv _ h).2.2.1
    · exact Nat.zero_le _
  · split
    · show 100000 - _ ≤ 100000; omega
    · omega
  · intro h1 h2 hc
    rw [if_pos h1] at hc ⊢
    rw [if_pos h2]
    exact ((run_join (fs := fs) (inv a h1).2.1 (inv _ h2).2.1 hs).1 hc).symm
  · intro h1 h2 hc1 hc2
    rw [if_pos h1] at hc1
    rw [if_pos h2] at hc2
    rw [if_pos h1, if_pos h1, if_pos h2, if_pos h2]
    obtain ⟨k1, k2⟩ := (run_join (fs := fs) (inv a h1).2.1 (inv _ h2).2.1 hs).2 hc1 hc2
    refine ⟨?_, ?_⟩
    · rw [step_ov]; exact congrArg ovT k1
    · have q1 : (runT fs a 100000).left ≤ 100000 := (inv a h1).2.2.2
      show 100000 - (runT fs (a ++ [jn1 t, jn2]) 100000).left = 100000 - (runT fs a 100000).left + 2 * (1 + t.length / 16)
      omega
theorem SandboxJoins_ok {st fl : Bool} (fs : List Fil) (a : List (List UInt8)) (t : List UInt8) (hk : avB (.sl true false 3 (fils fs)) ≤ 1048576) (hcl : a.length ≤ 1048576) (hcs : ∀ d ∈ a, d.length ≤ 1048576) (ht : t.length ≤ 1048576) :
    Calc cx 9 [.sl true false 3 (fils fs), .sl st fl 1 (texts a), .str t] (.bool true) :=
  pure_intro (fun a w => Tryz.call9 a w) Tryz.func9 rfl Tryz.ntmps9 rfl .bool fun B => by
    have hA := fils_of hk
    have htl : (texts a).length = a.length := by simp [texts]
    refine pa [.v (.bool true), .b false] rfl ?_ ?_
    · (repeat' with_reducible apply AllP_cons) <;> try exact aC
      · exact ⟨_, sandboxBegun_ok, .nil _⟩
    refine S_while (α := Nat) (fun i => [(0, .sl true false 3 (fils fs)), (1, .sl st fl 1 (texts a)), (2, .str t), (7, .int .i64 (i : Nat))]) (fun i => []) (fun i => i ≤ a.length ∧ ∀ s ∈ a.take i, (fst32 s ≠ kGoto ∧ fst32 s ≠ kSame ∧ fst32 s ≠ kLess) ∧ fst32 s ≠ kExit) (fun i => a.length - i) 0
      ⟨Nat.zero_le _, fun s hs => by cases hs⟩ (.cons rfl (.cons rfl (.cons rfl (.cons rfl (.nil _))))) rfl ?_
    rintro i ⟨hi, hst⟩
    have hi : i ≤ a.length := hi
    by_cases hlt : i < a.length
    · have e1 : decide ((i : Int) < (((texts a).length : Nat) : Int)) = true := decide_eq_true (by omega)
      have g1 : (texts a)[(i : Int).toNat]? = some (.str a[i]) := texts_get hlt
      have hW := WordsOf_ok a[i] (by have := hcs _ (List.getElem_mem hlt); omega)
      obtain ⟨r, hr⟩ := split_head a[i]
      rw [hr] at hW
      generalize hw : fst32 a[i] = w at *
      by_cases hg : w = kGoto
      · subst hg
        refine pa [.b true, .v (.str a[i]), .v (.sl true false 1 (texts (kGoto :: r))), .v (.str kGoto), .b true, .b true, .b true, .b true] rfl ?_ ?_
        · (repeat' with_reducible apply AllP_cons) <;> try exact aC
          · exact ⟨_, hW, .cons (.refl .str) (.nil _)⟩
        exact S_retc .bool rfl trivial rfl
      by_cases hs : w = kSame
      · subst hs
        refine pa [.b true, .v (.str a[i]), .v (.sl true false 1 (texts (kSame :: r))), .v (.str kSame), .b false, .v (.str kSame), .b true, .b true, .b true] rfl ?_ ?_
        · (repeat' with_reducible apply AllP_cons) <;> try exact aC
          · exact ⟨_, hW, .cons (.refl .str) (.nil _)⟩
        exact S_retc .bool rfl trivial rfl
      by_cases hl : w = kLess
      · subst hl
        refine pa [.b true, .v (.str a[i]), .v (.sl true false 1 (texts (kLess :: r))), .v (.str kLess), .b false, .v (.str kLess), .b false, .v (.str kLess), .b true, .b true] rfl ?_ ?_
        · (repeat' with_reducible apply AllP_cons) <;> try exact aC
          · exact ⟨_, hW, .cons (.refl .str) (.nil _)⟩
        exact S_retc .bool rfl trivial rfl
      by_cases hx : w = kExit
      · subst hx
        refine pa [.b true, .v (.str a[i]), .v (.sl true false 1 (texts (kExit :: r))), .v (.str kExit), .b false, .v (.str kExit), .b false, .v (.str kExit), .b false, .v (.str kExit), .b true] rfl ?_ ?_
        · (repeat' with_reducible apply AllP_cons) <;> try exact aC
          · exact ⟨_, hW, .cons (.refl .str) (.nil _)⟩
        exact S_retc .bool rfl trivial rfl
      refine pa [.b true, .v (.str a[i]), .v (.sl true false 1 (texts (w :: r))), .v (.str w), .b false, .v (.str w), .b false, .v (.str w), .b false, .v (.str w), .b false] rfl ?_ ?_
      · (repeat' with_reducible apply AllP_cons) <;> try exact aC
        · exact ⟨_, hW, .cons (.refl .str) (.nil _)⟩
        all_goals simpa [kGoto, kSame, kLess, kExit] using by assumption
      refine S_round (i + 1) (by show a.length - (i + 1) < a.length - i; omega) ⟨hlt, fun s hs' => ?_⟩ (.cons rfl (.cons rfl (.cons rfl (.cons (ai64 rfl (by omega)) (.nil _))))) rfl
      rw [List.take_succ_eq_append_getElem hlt] at hs'
      rcases List.mem_append.1 hs' with h | h
      · exact hst s h
      · rw [List.mem_singleton.1 h, hw]; exact ⟨⟨hg, hs, hl⟩, hx⟩
    have hil : i = a.length := by omega
    subst hil
    rw [List.take_length] at hst
    have e1 : decide ((a.length : Int) < (((texts a).length : Nat) : Int)) = false := decide_eq_false (by omega)
    obtain ⟨o1, c1, n1, e1', o2, c2, n2, e2', q1, q2, hl1, hl2, hn1, hF1, hF2⟩ := joins_plain fs a t hst
    have hR := Run_any (st := true) (fl := false) (st' := st) (fl' := fl) fs a 100000 hA (by omega) ⟨by omega, by omega⟩
    have hR2 := Run_any (st := true) (fl := false) (st' := false) (fl' := false) fs (a ++ [jn1 t, jn2]) 100000 hA (by simp; omega) ⟨by omega, by omega⟩
    rw [q1] at hR
    rw [q2] at hR2
    have hfr : ∀ σ : Heap, ∀ k : Int, Frzs σ [.sl true false 3 (fils fs), .sl st fl 1 (texts a), .int .i64 k] [.sl true false 3 (fils fs), .sl st fl 1 (texts a), .int .i64 k] := fun σ k => .cons (filR fs) (.cons (comR a) (.cons (.refl .int) (.nil _)))
    have hone : ∀ (x : List (List UInt8)), ∀ y ∈ flatA 1 (texts x), y.one = true := by
      intro x y hy
      obtain ⟨t, _, rfl⟩ := List.mem_map.1 hy; rfl
    have hbx : texts (a ++ [jn1 t, jn2]) = texts a ++ [.str (jn1 t), .str jn2] := by simp [texts]
    have hbl := txl (a ++ [jn1 t, jn2])
    have hjl : (jn1 t).length = t.length + 6 := by unfold jn1; simp
    refine pa [.b false, .v (.tup [.sl true false 3 (fils o1), .int .i64 (c1 : Nat), .int .i64 (n1 : Nat), .int .i64 (e1' : Nat)]), .v (.tup [.sl true false 3 (fils o2), .int .i64 (c2 : Nat), .int .i64 (n2 : Nat), .int .i64 (e2' : Nat)]), .s] rfl ?_ ?_
    · (repeat' with_reducible apply AllP_cons) <;> try exact aC
      · exact ⟨_, hR, hfr _ _⟩
      · exact hone a
      · exact hone a
      · exact .inr rfl
      · show (0 + (texts a).length) * 16 ≤ 140737488355328
        omega
      · show 0 + (0 + (texts a).length) * 1 = (texts a).length
        omega
      · show (0 + (texts a).length + 2) * 16 ≤ 140737488355328
        omega
      · refine ⟨_, hR2, .cons (filR fs) (.cons ?_ (.cons (.refl .int) (.nil _)))⟩
        refine .ms1 (by rw [hbx]; rfl) (texts_one _) ?_ (texts_any _)
        rw [hbl]
        show (a ++ [jn1 t, jn2]).length = 0 + (texts a).length + 2
        rw [List.length_append, htl]
        show a.length + 2 = 0 + a.length + 2; omega
    refine S_drop (id := 0) rfl ?_ ⟨.skip, _, .inr ⟨_, _, _, rfl⟩⟩
    have nz0 : ∀ n : Nat, n ≠ 0 → (((n : Int) != 0) = true) := fun n h => by simpa using h
    by_cases hE1 : e1' = 0
    case neg =>
      have b1 := nz0 _ hE1
      refine pB [.b true, .b true, .b true, .b true, .b true, .b true, .b true] rfl ?_
      exact S_retc .bool rfl trivial rfl
    subst hE1
    by_cases hE2 : e2' = 0
    case neg =>
      have b2 := nz0 _ hE2
      by_cases hc1 : c1 = 0
      · subst hc1
        refine pB [.b false, .b false, .b true, .b true, .b false, .b true, .b true] rfl ?_
        exact S_retc .bool rfl trivial rfl
      · have b1 := nz0 _ hc1
        refine pB [.b false, .b true, .b true, .b true, .b false, .b true, .b true] rfl ?_
        exact S_retc .bool rfl trivial rfl
    subst hE2
    by_cases hc1 : c1 = 0
    case neg =>
      have b1 := nz0 _ hc1
      have b2 : ((c1 : Int) == (c2 : Int)) = true := by rw [hF1 rfl rfl hc1]; simp
      refine pB [.b false, .b true, .b true, .b true, .b false, .b false, .b true] rfl ?_
      exact S_retc .bool rfl trivial rfl
    subst hc1
    by_cases hc2 : c2 = 0
    case neg =>
      have b1 := nz0 _ hc2
      have b2 : ((((0 : Nat) : Nat) : Int) == (c2 : Int)) = false := by simpa using fun h => hc2 (by omega)
      refine pB [.b false, .b false, .b false, .b true, .b false, .b false, .b false] rfl ?_
      exact S_retc .bool rfl trivial rfl
    subst hc2
    obtain ⟨hm, hn⟩ := hF2 rfl rfl rfl rfl
    obtain ⟨j, hj, k1, k2, k3⟩ := jn_files o1 ⟨jnP, t, false⟩
    rw [← hm] at hj k1 k3
    have k2 : o2[j] = ⟨jnP, t, false⟩ := by
      have := k2
      simp only [← hm] at this; exact this
    have hA1 := FileAt_ok (st := true) (fl := false) o2 jnP (by omega)
    have hA2 := FileAt_ok (st := true) (fl := false) o1 jnP (by omega)
    have k1 : atF o2 jnP = (j : Nat) := k1
    rw [k1] at hA1
    have g1 : (fils o2)[(j : Int).toNat]? = some (filA ⟨jnP, t, false⟩) := by rw [← k2]; exact fils_get hj
    have b1 : decide ((j : Int) < 0) = false := decide_eq_false (by omega)
    have b2 : (!(t == t)) = false := by simp
    refine pa [.b false, .b false, .b false, .b false, .v (.int .i64 (j : Nat)), .b false, .v (filA ⟨jnP, t, false⟩), .b false, .v (filA ⟨jnP, t, false⟩), .b false, .b false] rfl ?_ ?_
    · (repeat' with_reducible apply AllP_cons) <;> try exact aC
      · exact ⟨_, hA1, .cons (filR o2) (.cons (.refl .str) (.nil _))⟩
      · have hd : (t.length : Int).tdiv 16 = ((t.length / 16 : Nat) : Int) := by rw [Int.tdiv_eq_ediv_of_nonneg (by omega)]; omega
        rw [hd, IntWalk.i64_in ((t.length / 16 : Nat) : Int) ⟨by omega, by omega⟩, IntWalk.i64_in (2 * ((t.length / 16 : Nat) : Int)) ⟨by omega, by omega⟩, IntWalk.i64_in ((n1 : Int) + 2) ⟨by omega, by omega⟩, IntWalk.i64_in _ ⟨by omega, by omega⟩, hn]
        simp; omega
    have hw : IntKind.i64.wrap ((j : Int) + 1) = ((j + 1 : Nat) : Int) := w64 (by omega) (by omega)
    obtain ⟨x1, hx1⟩ : ∃ x, x = cutL none (some (j : Int)) (fils o2) := ⟨_, rfl⟩
    obtain ⟨x2, hx2⟩ : ∃ x, x = cutL (some (IntKind.i64.wrap ((j : Int) + 1))) none (fils o2) := ⟨_, rfl⟩
    have y1 : x1 = fils (o2.take j) := by rw [hx1]; simp [cutL, fils]
    have y2 : x2 = fils (o2.drop (j + 1)) := by rw [hx2, hw]; simp [cutL, fils]
    have z1 : x1.length = j := by rw [y1, fils_len, List.length_take]; omega
    have z2 : x2.length = o2.length - (j + 1) := by rw [y2, fils_len, List.length_drop]
    have w1 : ∀ y ∈ flatA 3 x1, y.one = true := by rw [y1]; exact flat_one _
    have w2 : ∀ y ∈ flatA 3 x2, y.one = true := by rw [y2]; exact flat_one _
    have v1 : flatA 3 x1 = celsF (o2.take j) := by rw [y1]; exact flat_fils _
    have v2 : flatA 3 x2 = celsF (o2.drop (j + 1)) := by rw [y2]; exact flat_fils _
    have hnl := fils_len o2
    refine S_drawC2 [(2, some (.cells (flatA 3 [] ++ flatA 3 (cutL none (some (j : Int)) (fils o2))) ⟨false, none⟩))]
      [(3, some (.cells (flatA 3 [] ++ flatA 3 (cutL none (some (j : Int)) (fils o2)) ++ flatA 3 (cutL (some (IntKind.i64.wrap ((j : Int) + 1))) none (fils o2))) ⟨false, none⟩))] 4 9 11 []
      [.ms 0 2 0 (0 + (cutL none (some (j : Int)) (fils o2)).length) 3 false, .ms 0 3 0 (0 + (cutL none (some (j : Int)) (fils o2)).length + (cutL (some (IntKind.i64.wrap ((j : Int) + 1))) none (fils o2)).length) 3 false] rfl rfl rfl rfl rfl rfl rfl ?_ ?_
    · (repeat' with_reducible apply AllP_cons) <;> try exact aC
      all_goals first | (show (j : Int) ≤ (((fils o2).length : Nat) : Int); omega) | (show IntKind.i64.wrap ((j : Int) + 1) ≤ (((fils o2).length : Nat) : Int); rw [hw]; omega) | skip
      · refine OpSpec.aop rfl ?_
        rw [← hx1]
        exact ⟨rfl, w1, w1, rfl, (fun y hy => by have hy : y ∈ ([] : List AV) := hy; cases hy), .inr rfl, (by show (0 + x1.length) * 40 ≤ 140737488355328; omega), (by show 0 + x1.length ≤ 9223372036854775807; omega), trivial⟩
      · refine OpSpec.aop rfl ?_
        rw [← hx1, ← hx2]
        exact ⟨rfl, w2, w2, rfl, rfl, (by show 0 + (0 + x1.length) * 3 = ([] ++ flatA 3 x1).length; rw [v1, List.nil_append, cels_len, List.length_take]; omega), (by show (0 + x1.length + x2.length) * 40 ≤ 140737488355328; omega), (by omega), trivial⟩
    have hfz : ∀ τ, Frz false ((3, some (.cells (flatA 3 [] ++ flatA 3 (cutL none (some (j : Int)) (fils o2)) ++ flatA 3 (cutL (some (IntKind.i64.wrap ((j : Int) + 1))) none (fils o2))) ⟨false, none⟩)) :: τ)
        (.ms 0 3 0 (0 + (cutL none (some (j : Int)) (fils o2)).length + (cutL (some (IntKind.i64.wrap ((j : Int) + 1))) none (fils o2)).length) 3 false) (.sl false false 3 (fils (o2.take j ++ o2.drop (j + 1)))) := fun τ => by
      rw [← hx1, ← hx2, v1, v2, z1, z2]
      have e1 : flatA 3 [] ++ celsF (o2.take j) ++ celsF (o2.drop (j + 1)) = celsF (o2.take j ++ o2.drop (j + 1)) := by rw [celsF_app]; rfl
      have e2 : 0 + j + (o2.length - (j + 1)) = (o2.take j ++ o2.drop (j + 1)).length := by rw [List.length_append, List.length_take, List.length_drop]; omega
      rw [e1, e2]
      exact msFs 3 _ τ _
    rcases k3 with ⟨k3, k4⟩ | ⟨i, hi, k3, k4⟩
    · rw [k4] at hfz
      have k3 : atF o1 jnP = -1 := k3
      rw [k3] at hA2
      have hS := SameFiles_ok (st := false) (fl := false) (st' := true) (fl' := false) o1 o1 (by omega) (by omega)
      rw [decide_eq_true rfl] at hS
      refine pa [.v (.int .i64 (-1)), .b false, .v (.bool true)] rfl ?_ ?_
      · (repeat' with_reducible apply AllP_cons) <;> try exact aC
        · exact ⟨_, hA2, .cons (filR o1) (.cons (.refl .str) (.nil _))⟩
        · exact ⟨_, hS, .cons (hfz _) (.cons (filR o1) (.nil _))⟩
      exact S_retc .bool rfl trivial rfl
    · rw [k4] at hfz
      have k3 : atF o1 jnP = (i : Nat) := k3
      rw [k3] at hA2
      have hw' : IntKind.i64.wrap ((i : Int) + 1) = ((i + 1 : Nat) : Int) := w64 (by omega) (by omega)
      obtain ⟨x3, hx3⟩ : ∃ x, x = cutL none (some (i : Int)) (fils o1) := ⟨_, rfl⟩
      obtain ⟨x4, hx4⟩ : ∃ x, x = cutL (some (IntKind.i64.wrap ((i : Int) + 1))) none (fils o1) := ⟨_, rfl⟩
      have y3 : x3 = fils (o1.take i) := by rw [hx3]; simp [cutL, fils]
      have y4 : x4 = fils (o1.drop (i + 1)) := by rw [hx4, hw']; simp [cutL, fils]
      have z3 : x3.length = i := by rw [y3, fils_len, List.length_take]; omega
      have z4 : x4.length = o1.length - (i + 1) := by rw [y4, fils_len, List.length_drop]
      have w3 : ∀ y ∈ flatA 3 x3, y.one = true := by rw [y3]; exact flat_one _
      have w4 : ∀ y ∈ flatA 3 x4, y.one = true := by rw [y4]; exact flat_one _
      have v3 : flatA 3 x3 = celsF (o1.take i) := by rw [y3]; exact flat_fils _
      have v4 : flatA 3 x4 = celsF (o1.drop (i + 1)) := by rw [y4]; exact flat_fils _
      have hnl1 := fils_len o1
      have b3 : decide ((i : Int) ≥ 0) = true := decide_eq_true (by omega)
      refine pa [.v (.int .i64 (i : Nat)), .b true] rfl ?_ ?_
      · (repeat' with_reducible apply AllP_cons) <;> try exact aC
        · exact ⟨_, hA2, .cons (filR o1) (.cons (.refl .str) (.nil _))⟩
      refine S_drawC2 [(3, some (.cells (flatA 3 [] ++ flatA 3 (cutL none (some (j : Int)) (fils o2)) ++ flatA 3 (cutL (some (IntKind.i64.wrap ((j : Int) + 1))) none (fils o2))) ⟨false, none⟩)), (0, some (.cells (flatA 3 [] ++ flatA 3 (cutL none (some (i : Int)) (fils o1))) ⟨false, none⟩))]
        [(3, some (.cells (flatA 3 [] ++ flatA 3 (cutL none (some (j : Int)) (fils o2)) ++ flatA 3 (cutL (some (IntKind.i64.wrap ((j : Int) + 1))) none (fils o2))) ⟨false, none⟩)), (1, some (.cells (flatA 3 [] ++ flatA 3 (cutL none (some (i : Int)) (fils o1)) ++ flatA 3 (cutL (some (IntKind.i64.wrap ((i : Int) + 1))) none (fils o1))) ⟨false, none⟩))] 4 9 11 []
        [.ms 1 0 0 (0 + (cutL none (some (i : Int)) (fils o1)).length) 3 false, .ms 1 1 0 (0 + (cutL none (some (i : Int)) (fils o1)).length + (cutL (some (IntKind.i64.wrap ((i : Int) + 1))) none (fils o1)).length) 3 false] rfl rfl rfl rfl rfl rfl rfl ?_ ?_
      · (repeat' with_reducible apply AllP_cons) <;> try exact aC
        all_goals first | (show (i : Int) ≤ (((fils o1).length : Nat) : Int); omega) | (show IntKind.i64.wrap ((i : Int) + 1) ≤ (((fils o1).length : Nat) : Int); rw [hw']; omega) | skip
        · refine OpSpec.aop rfl ?_
          rw [← hx3]
          exact ⟨rfl, w3, w3, rfl, (fun y hy => by have hy : y ∈ ([] : List AV) := hy; cases hy), .inr rfl, (by show (0 + x3.length) * 40 ≤ 140737488355328; omega), (by show 0 + x3.length ≤ 9223372036854775807; omega), trivial⟩
        · refine OpSpec.aop rfl ?_
          rw [← hx3, ← hx4]
          exact ⟨rfl, w4, w4, rfl, rfl, (by show 0 + (0 + x3.length) * 3 = ([] ++ flatA 3 x3).length; rw [v3, List.nil_append, cels_len, List.length_take]; omega), (by show (0 + x3.length + x4.length) * 40 ≤ 140737488355328; omega), (by omega), trivial⟩
      have hfz2 : ∀ y, Frz false [y, (1, some (.cells (flatA 3 [] ++ flatA 3 (cutL none (some (i : Int)) (fils o1)) ++ flatA 3 (cutL (some (IntKind.i64.wrap ((i : Int) + 1))) none (fils o1))) ⟨false, none⟩))]
          (.ms 1 1 0 (0 + (cutL none (some (i : Int)) (fils o1)).length + (cutL (some (IntKind.i64.wrap ((i : Int) + 1))) none (fils o1)).length) 3 false) (.sl false false 3 (fils (o1.take i ++ o1.drop (i + 1)))) := fun y => by
        rw [← hx3, ← hx4, v3, v4, z3, z4]
        have e1 : flatA 3 [] ++ celsF (o1.take i) ++ celsF (o1.drop (i + 1)) = celsF (o1.take i ++ o1.drop (i + 1)) := by rw [celsF_app]; rfl
        have e2 : 0 + i + (o1.length - (i + 1)) = (o1.take i ++ o1.drop (i + 1)).length := by rw [List.length_append, List.length_take, List.length_drop]; omega
        rw [e1, e2]
        exact .ms rfl (by rw [cels_len]; omega) (by rw [List.drop_zero]; exact List.take_of_length_le (by rw [cels_len]; omega)) (fil_size _) (fils_len _) (fils_free _)
      have hrl : (o1.take i ++ o1.drop (i + 1)).length ≤ 1000 := by rw [List.length_append, List.length_take, List.length_drop]; omega
      have hS := SameFiles_ok (st := false) (fl := false) (st' := false) (fl' := false) (o1.take i ++ o1.drop (i + 1)) (o1.take i ++ o1.drop (i + 1)) (by omega) (by omega)
      rw [decide_eq_true rfl] at hS
      refine pa [.v (.bool true)] rfl ?_ ?_
      · (repeat' with_reducible apply AllP_cons) <;> try exact aC
        · exact ⟨_, hS, .cons (hfz _) (.cons (hfz2 _) (.nil _))⟩
      exact S_retc .bool rfl trivial rfl
end Go.Proofs.YtgmakmfdjhgjlaaGreatDoor
end
section
set_option linter.unusedVariables false
set_option linter.unusedSimpArgs false
set_option maxRecDepth 20000
namespace Go.Proofs.YtgmakmfdjhgjlaaGreatDoor
open Go Go.Ab
theorem open_file {H : Type} {d : DataW H} {a : AV} (h : RdD Tryz.prog 38 d a) : ∃ f : Fil, a = filA f := by
  obtain ⟨ds, xs, rfl, rfl, hall⟩ := h.inv_st Tryz.underlying38
  obtain ⟨d0, ds, x0, xs, rfl, rfl, h0, hall⟩ := hall.cons
  obtain ⟨d1, ds, x1, xs, rfl, rfl, h1, hall⟩ := hall.cons
  obtain ⟨d2, ds, x2, xs, rfl, rfl, h2, hall⟩ := hall.cons
  obtain ⟨rfl, rfl⟩ := hall.nil
  obtain ⟨s0, rfl, rfl, _⟩ := h0.inv_str Tryz.underlying9
  obtain ⟨s1, rfl, rfl, _⟩ := h1.inv_str Tryz.underlying9
  obtain ⟨b, rfl, rfl⟩ := h2.inv_bool Tryz.underlying4
  exact ⟨⟨s0, s1, b⟩, rfl⟩
theorem open_F {H : Type} {d : DataW H} {a : AV} (h : RdD Tryz.prog 28 d a) : ∃ l : List Fil, a = .sl true false 3 (fils l) := by
  obtain ⟨ds, xs, rfl, hl, hm, hall, _⟩ := h.inv_sl Tryz.underlying28
  obtain ⟨ys, rfl, hy, hg⟩ := RdD.each filA (fun _ _ => True) hl hall (fun d x h => by
    obtain ⟨f, rfl⟩ := open_file h
    exact ⟨f, rfl, trivial⟩)
  have hc : Tryz.prog.cellsOf 38 = 3 := by kernel_rfl
  exact ⟨ys, by rw [hc]; rfl⟩
end Go.Proofs.YtgmakmfdjhgjlaaGreatDoor
end
section
set_option linter.unusedVariables false
set_option linter.unusedSimpArgs false
set_option maxRecDepth 20000
set_option maxHeartbeats 4000000
namespace Go.Proofs.YtgmakmfdjhgjlaaGreatDoor
open Go Go.Ab
theorem AddFileC_in {st fl : Bool} (l : List Fil) (f : Fil) (hl : l.length ≤ 1000000000) (hlt : lessF f.path l < l.length) :
    Calc cx 21 [.sl st fl 3 (fils l), filA f] (.sl true false 3 (fils (addF l f))) :=
  pure_intro (fun a w => Tryz.call21 a w) Tryz.func21 rfl Tryz.ntmps21 rfl (.sl (fun _ => rfl) (fils_free _)) fun B => by
    have htl := fils_len l
    have hle := lessF_le f.path l
    refine pB [] rfl ?_
    refine S_while (α := Nat) (fun i => [(0, .sl st fl 3 (fils l)), (3, .ptr 0 0 0), (5, .int .i64 (i : Nat))]) (fun _ => [(0, some (.cells [.str f.path, .str f.text, .bool f.run] ⟨false, some 38⟩))]) (fun i => i ≤ lessF f.path l) (fun i => l.length - i) 0
      (Nat.zero_le _) (.cons rfl (.cons rfl (.cons rfl (.nil _)))) rfl ?_
    intro i hi
    have hi : i ≤ lessF f.path l := hi
    have hil : i < l.length := by omega
    have e1 : decide ((i : Int) < (((fils l).length : Nat) : Int)) = true := decide_eq_true (by omega)
    have g1 : (fils l)[(i : Int).toNat]? = some (filA l[i]) := fils_get hil
    have hT : cutL (some (i : Int)) none (fils l) = fils (l.drop i) := by simp [cutL, fils]
    have hD : cutL none (some (i : Int)) (fils l) = fils (l.take i) := by simp [cutL, fils]
    by_cases hk : i < lessF f.path l
    · have e2 := lessF_lt hil hk
      refine pB [.b true, .v (filA l[i]), .b true] rfl ?_
      exact S_round (i + 1) (by show l.length - (i + 1) < l.length - i; omega) hk (.cons rfl (.cons rfl (.cons (nX (by omega)) (.nil _)))) rfl
    · have hie : i = lessF f.path l := by omega
      have e2 : Op.bytesLess l[i].path f.path = false := by subst hie; exact lessF_at hlt
      refine pa [.b true, .v (filA l[i]), .b false, .d 9 10 [] (fun _ => [(0, some (.cells [.str f.path, .str f.text, .bool f.run] ⟨false, some 38⟩)), (0, some (.cells (celsF (f :: l.drop i)) ⟨false, none⟩))]) [.ms 1 0 0 ((l.drop i).length + 1) 3 false]] rfl ?_ ?_
      · (repeat' with_reducible apply AllP_cons) <;> try exact aC
        · rw [hT]; exact flat_one _
        · rw [hT]; exact flat_one _
        · rw [hT, fils_len, List.length_drop]; left; omega
        · show (1 + (cutL (some (i : Int)) none (fils l)).length) * 40 ≤ 140737488355328
          rw [hT, fils_len, List.length_drop]; omega
        · show 1 + (cutL (some (i : Int)) none (fils l)).length ≤ 9223372036854775807
          rw [hT, fils_len, List.length_drop]; omega
        · show AV.ms 1 0 0 (1 + (cutL (some (i : Int)) none (fils l)).length) 3 false = _
          rw [hT, fils_len, Nat.add_comm 1]
        · rw [hT]
          show [(0, some (Box.cells [AV.str f.path, AV.str f.text, AV.bool f.run] ⟨false, some 38⟩)), (0, some (Box.cells ([AV.str f.path, AV.str f.text, AV.bool f.run] ++ flatA 3 (fils (l.drop i))) ⟨false, none⟩))] = _
          rw [flat_fils]; rfl
        · show 0 + ((l.drop i).length + 1) * 3 ≤ (celsF (f :: l.drop i)).length
          rw [cels_len, List.length_cons]; omega
        · intro y hy
          have hy : y ∈ celsF (f :: l.drop i) := List.mem_of_mem_take hy
          exact cels_one _ y hy
        · rw [hD]; exact flat_one _
        · show ((cutL none (some (i : Int)) (fils l)).length + ((l.drop i).length + 1)) * 40 ≤ 140737488355328
          rw [hD, fils_len, List.length_take, List.length_drop]; omega
        · rw [hD, fils_len, List.length_take, List.length_drop]; omega
      refine S_ret ⟨_, _, rfl, trivial, _, rfl, ?_⟩
      show Frz true [(0, some (.cells [.str f.path, .str f.text, .bool f.run] ⟨false, some 38⟩)), (0, some (.cells (celsF (f :: l.drop i)) ⟨false, none⟩)), (0, some (.cells (flatA 3 (cutL none (some (i : Int)) (fils l)) ++ (celsF (f :: l.drop i)).take (((l.drop i).length + 1) * 3)) ⟨false, none⟩))] (.ms 2 0 0 ((cutL none (some (i : Int)) (fils l)).length + ((l.drop i).length + 1)) 3 false) _
      have htk : (celsF (f :: l.drop i)).take (((l.drop i).length + 1) * 3) = celsF (f :: l.drop i) := List.take_of_length_le (by rw [cels_len, List.length_cons]; omega)
      have hea : l.take i ++ f :: l.drop i = addF l f := by unfold addF; rw [hie]
      have hlen : (addF l f).length = l.length + 1 := by rw [← hea, List.length_append, List.length_cons, List.length_take, List.length_drop]; omega
      have hcl := cels_len (addF l f)
      rw [hD, flat_fils, htk, ← celsF_app, hea, fils_len, List.length_take, List.length_drop, show min i l.length + (l.length - i + 1) = (addF l f).length by omega]
      exact .ms rfl (by omega) (by rw [List.drop_zero]; exact List.take_of_length_le (by omega)) (fil_size _) (fils_len _) (fils_free _)
theorem AddFileC_end {st fl : Bool} (l : List Fil) (f : Fil) (hl : l.length ≤ 1000000000) (hlt : lessF f.path l = l.length) :
    Calc cx 21 [.sl st fl 3 (fils l), filA f] (.sl true false 3 (fils (addF l f))) :=
  pure_intro (fun a w => Tryz.call21 a w) Tryz.func21 rfl Tryz.ntmps21 rfl (.sl (fun _ => rfl) (fils_free _)) fun B => by
    have htl := fils_len l
    refine pB [] rfl ?_
    refine S_while (α := Nat) (fun i => [(0, .sl st fl 3 (fils l)), (3, .ptr 0 0 0), (5, .int .i64 (i : Nat))]) (fun _ => [(0, some (.cells [.str f.path, .str f.text, .bool f.run] ⟨false, some 38⟩))]) (fun i => i ≤ l.length) (fun i => l.length - i) 0
      (Nat.zero_le _) (.cons rfl (.cons rfl (.cons rfl (.nil _)))) rfl ?_
    intro i hi
    have hi : i ≤ l.length := hi
    have hT : cutL (some (i : Int)) none (fils l) = fils (l.drop i) := by simp [cutL, fils]
    have hD : cutL none (some (i : Int)) (fils l) = fils (l.take i) := by simp [cutL, fils]
    by_cases hk : i < l.length
    · have e1 : decide ((i : Int) < (((fils l).length : Nat) : Int)) = true := decide_eq_true (by omega)
      have g1 : (fils l)[(i : Int).toNat]? = some (filA l[i]) := fils_get hk
      have e2 := lessF_lt (p := f.path) hk (by omega)
      refine pB [.b true, .v (filA l[i]), .b true] rfl ?_
      exact S_round (i + 1) (by show l.length - (i + 1) < l.length - i; omega) hk (.cons rfl (.cons rfl (.cons (nX (by omega)) (.nil _)))) rfl
    · have hie : i = l.length := by omega
      have e1 : decide ((i : Int) < (((fils l).length : Nat) : Int)) = false := decide_eq_false (by omega)
      refine pa [.b false, .b false, .d 9 10 [1000001] (fun σ => σ) [.sl true true 3 [filA f]]] rfl ?_ ?_
      · (repeat' with_reducible apply AllP_cons) <;> try exact aC
        · exact OpSpec.append0 (st := true) (fl := true) (st' := st) (fl' := _) (sz := 3) rfl rfl rfl rfl (by show AV.sl st _ 3 (cutL (some (i : Int)) none (fils l)) = _; rw [hT, hie, List.drop_length]; rfl)
        · rw [hD]; exact flat_one _
        · show ((cutL none (some (i : Int)) (fils l)).length + 1) * 40 ≤ 140737488355328
          rw [hD, fils_len, List.length_take]; omega
        · show (cutL none (some (i : Int)) (fils l)).length + 1 ≤ 9223372036854775807
          rw [hD, fils_len, List.length_take]; omega
      refine S_ret ⟨_, _, rfl, trivial, _, rfl, ?_⟩
      show Frz true [(0, some (.cells [.str f.path, .str f.text, .bool f.run] ⟨false, some 38⟩)), (0, some (.cells (flatA 3 (cutL none (some (i : Int)) (fils l)) ++ celsF [f]) ⟨false, none⟩))] (.ms 1 0 0 ((cutL none (some (i : Int)) (fils l)).length + 1) 3 false) _
      have hea : l.take i ++ [f] = addF l f := by unfold addF; rw [hlt, hie, List.drop_length]
      have hlen : (addF l f).length = l.length + 1 := by rw [← hea, List.length_append, List.length_take, hie, Nat.min_self]; rfl
      have hcl := cels_len (addF l f)
      rw [hD, flat_fils, ← celsF_app, hea, fils_len, List.length_take, show min i l.length + 1 = (addF l f).length by omega]
      exact .ms rfl (by omega) (by rw [List.drop_zero]; exact List.take_of_length_le (by omega)) (fil_size _) (fils_len _) (fils_free _)
theorem AddFile_ok {st fl : Bool} (l : List Fil) (f : Fil) (hl : l.length ≤ 1000000000) : Calc cx 21 [.sl st fl 3 (fils l), filA f] (.sl true false 3 (fils (addF l f))) := by
  have := lessF_le f.path l
  by_cases h : lessF f.path l < l.length
  · exact AddFileC_in l f hl h
  · exact AddFileC_end l f hl (by omega)
end Go.Proofs.YtgmakmfdjhgjlaaGreatDoor
end
section
set_option linter.unusedVariables false
set_option linter.unusedSimpArgs false
set_option maxRecDepth 20000
set_option maxHeartbeats 4000000
namespace Go.Proofs.YtgmakmfdjhgjlaaGreatDoor
open Go Go.Ab
theorem find_blind (fs : List Fil) (f : Fil) (p : List UInt8) (h : p ≠ f.path) : (addF fs f).find? (fun g => g.path == p) = fs.find? (fun g => g.path == p) := by
  have hf : (f.path == p) = false := by simpa using fun e => h e.symm
  unfold addF
  rw [List.find?_append, List.find?_cons, hf]
  show ((fs.take _).find? _).or ((fs.drop _).find? _) = _
  rw [← List.find?_append, List.take_append_drop]
theorem step_blind {L : Nat} {fs : List Fil} {f : Fil} {x : Ln} {m : Mc} (hx : LnOk L x) (h1 : x.op ≠ kList) (h2 : x.op = kRead → x.ws[1]? ≠ some f.path) : stepM (addF fs f) x m = stepM fs x m := by
  cases hx with
  | @read c p =>
    show (match (addF fs f).find? (fun g => g.path == p) with | none => tripM 101 m | some g => setM [c] g.text m) = (match fs.find? (fun g => g.path == p) with | none => tripM 101 m | some g => setM [c] g.text m)
    rw [find_blind fs f p fun e => h2 rfl (congrArg some e)]
  | list => exact absurd rfl h1
  | _ => rfl
theorem runM_blind {L : Nat} {fs : List Fil} {f : Fil} {prog : List Ln} (hp : ∀ x ∈ prog, LnOk L x) (h : ∀ x ∈ prog, x.op ≠ kList ∧ (x.op = kRead → x.ws[1]? ≠ some f.path)) : ∀ (n : Nat) (m : Mc), runM (addF fs f) prog n m = runM fs prog n m
  | 0, m => rfl
  | n + 1, m => by
    rw [runM, runM]
    by_cases hd : m.done = true
    · rw [if_pos hd, if_pos hd]
    · rw [if_neg hd, if_neg hd]
      cases hq : prog[m.pc]? with
      | none => rfl
      | some x =>
        have hx := List.mem_of_getElem? hq
        show runM (addF fs f) prog n (stepM (addF fs f) x _) = runM fs prog n (stepM fs x _)
        rw [step_blind (hp x hx) (h x hx).1 (h x hx).2, runM_blind hp h n]
def lookB (f : Fil) (s : List UInt8) : Bool := (fst32 s == kList) || ((fst32 s == kRead) && ((splitB 32 s).getD 2 [] == f.path))
theorem runT_blind {fs : List Fil} {com : List (List UInt8)} {f : Fil} {fu : Nat} (h1 : comE com = 0) (hf : fu ≤ 100000) (h : ∀ s ∈ com, lookB f s = false) : runT (addF fs f) com fu = runT fs com fu := by
  obtain ⟨_, _, _, prog, hpr, _, hpo, hrT⟩ := runT_inv (fs := fs) (fu := fu) h1 hf
  obtain ⟨_, _, _, prog2, hpr2, _, _, hrT2⟩ := runT_inv (fs := addF fs f) (fu := fu) h1 hf
  rw [hpr] at hpr2
  obtain rfl := Option.some.inj hpr2
  rw [hrT, hrT2]
  refine runM_blind hpo (fun x hx => ?_) _ _
  obtain ⟨s, hs, hl⟩ := prog_mem hpr x hx
  have hb := h s hs
  have ho := op_of hl
  unfold lookB at hb
  rw [Bool.or_eq_false_iff] at hb
  obtain ⟨b1, b2⟩ := hb
  refine ⟨by rw [ho]; simpa using b1, fun hr hw => ?_⟩
  have hne : fst32 s ≠ kSet := by rw [← ho, hr]; decide
  obtain ⟨_, _, _, _, hsp, _⟩ := ln_other hl hne
  rw [hsp, ← ho, hr] at b2
  cases hws : x.ws with
  | nil => rw [hws] at hw; cases hw
  | cons a r =>
    rw [hws] at hw b2
    cases r with
    | nil => cases hw
    | cons b r => cases hw; simp at b2
theorem split_rd {com : List (List UInt8)} (h : comE com = 0) {s : List UInt8} (hs : s ∈ com) (h1 : fst32 s = kRead) : ∃ c p r, splitB 32 s = kRead :: c :: p :: r := by
  obtain ⟨_, hcs, prog, hpr⟩ := comE_long h
  have hx : ∃ x, lnOf com.length s = some x := by
    have key : ∀ (L : Nat) (com : List (List UInt8)) (xs : List Ln), progT L com = some xs → ∀ s ∈ com, ∃ x, lnOf L s = some x := by
      intro L com
      induction com with
      | nil => intro xs _ s hs; cases hs
      | cons t r ih =>
        intro xs h s hs
        rw [progT] at h
        cases hq : lnOf L t with
        | none => rw [hq] at h; cases h
        | some y =>
          rw [hq] at h
          replace h : (progT L r).map (y :: ·) = some xs := h
          rcases List.mem_cons.1 hs with rfl | hs
          · exact ⟨y, hq⟩
          · cases hr : progT L r with
            | none => rw [hr] at h; cases h
            | some ys => exact ih ys hr s hs
    exact key _ com prog hpr s hs
  obtain ⟨x, hx⟩ := hx
  have hne : fst32 s ≠ kSet := by rw [h1]; decide
  obtain ⟨f, _, _, ho, hsp, _⟩ := ln_other hx hne
  have hk := lnOk_of hx (hcs s hs)
  rw [hsp, h1]
  rw [← ho] at h1
  cases hk with
  | read => exact ⟨_, _, _, rfl⟩
  | _ => simp [kSet, kRead, kList, kJoin, kCut, kSize, kSum, kMake, kRun, kSame, kLess, kGoto, kExit] at h1
theorem SandboxBlind_ok {st fl : Bool} (fs : List Fil) (com : List (List UInt8)) (fuel : Int) (f : Fil) (hk : avB (.sl true false 3 (fils fs)) ≤ 1048576) (hcl : com.length ≤ 1048576) (hf : -9223372036854775808 ≤ fuel ∧ fuel ≤ 9223372036854775807) (hk2 : avB (filA f) ≤ 1048576) :
    Calc cx 6 [.sl true false 3 (fils fs), .sl st fl 1 (texts com), .int .i64 fuel, filA f] (.bool true) :=
  pure_intro (fun a w => Tryz.call6 a w) Tryz.func6 rfl Tryz.ntmps6 rfl .bool fun B => by
    have hA := fils_of hk
    have hfp : f.path.length + f.text.length ≤ 1048576 := by
      have : avB (filA f) = f.path.length + 1 + (f.text.length + 1 + (1 + 0)) ∨ f.path.length + f.text.length ≤ avB (filA f) := by
        right
        simp only [filA, avB, avC, avS]
        omega
      omega
    have htl : (texts com).length = com.length := by simp [texts]
    have hll := hA.len
    have hR := Run_any (st := true) (fl := false) (st' := st) (fl' := fl) fs com fuel hA (by omega) hf
    have hfr : ∀ (l : List Fil) (σ : Heap) (k : Int), Frzs σ [.sl true false 3 (fils l), .sl st fl 1 (texts com), .int .i64 k] [.sl true false 3 (fils l), .sl st fl 1 (texts com), .int .i64 k] := fun l σ k => .cons (filR l) (.cons (comR com) (.cons (.refl .int) (.nil _)))
    by_cases hb : boxE fs com fuel = 0
    case neg =>
      have hb' : (((boxE fs com fuel : Nat) : Int) != 0) = true := by simpa using hb
      rw [runAV_n hb] at hR
      refine pa [.v (.bool true), .b false, .v (.tup [.sl true false 3 (fils []), .int .i64 ((0 : Nat) : Int), .int .i64 ((0 : Nat) : Int), .int .i64 (boxE fs com fuel : Nat)]), .b true, .b true] rfl ?_ ?_
      · (repeat' with_reducible apply AllP_cons) <;> try exact aC
        · exact ⟨_, sandboxBegun_ok, .nil _⟩
        · exact ⟨_, hR, hfr _ _ _⟩
      exact S_retc .bool rfl trivial rfl
    obtain ⟨h0, h1, hlo, hhi⟩ := box_facts hb
    obtain ⟨fu, rfl⟩ : ∃ fu : Nat, fuel = (fu : Int) := ⟨fuel.toNat, by omega⟩
    rw [runAV_0 hb] at hR
    obtain ⟨hI, hC, hle, _⟩ := runT_inv (fs := fs) (fu := fu) h1 (by omega)
    obtain ⟨hc60, hcs, _⟩ := comE_long h1
    have hol := (made_dir hI).len
    have hbl : ∀ (hh : ∀ s ∈ com, lookB f s = false), runT (addF fs f) com fu = runT fs com fu := fun hh => runT_blind h1 (by omega) hh
    have hAt := FileAt_ok (st := true) (fl := false) fs f.path (by omega)
    unfold runR at hR
    generalize hz : runT fs com fu = z at *
    rcases atF_cases fs f.path with ⟨k1, k2⟩ | ⟨i, hi, k1, k2⟩
    case inr =>
      rw [k1] at hAt
      have b1 : decide ((i : Int) ≥ 0) = true := decide_eq_true (by omega)
      refine pa [.v (.bool true), .b false, .v (.tup [.sl true false 3 (fils (ovT z.made)), .int .i64 (z.code : Nat), .int .i64 (fu - z.left : Nat), .int .i64 ((0 : Nat) : Int)]), .b false, .v (.int .i64 (i : Nat)), .b true] rfl ?_ ?_
      · (repeat' with_reducible apply AllP_cons) <;> try exact aC
        · exact ⟨_, sandboxBegun_ok, .nil _⟩
        · exact ⟨_, hR, hfr _ _ _⟩
        · exact ⟨_, hAt, .cons (filR fs) (.cons (.refl .str) (.nil _))⟩
      exact S_retc .bool rfl trivial rfl
    rw [k1] at hAt
    refine pa [.v (.bool true), .b false, .v (.tup [.sl true false 3 (fils (ovT z.made)), .int .i64 (z.code : Nat), .int .i64 (fu - z.left : Nat), .int .i64 ((0 : Nat) : Int)]), .b false, .v (.int .i64 (-1)), .b false] rfl ?_ ?_
    · (repeat' with_reducible apply AllP_cons) <;> try exact aC
      · exact ⟨_, sandboxBegun_ok, .nil _⟩
      · exact ⟨_, hR, hfr _ _ _⟩
      · exact ⟨_, hAt, .cons (filR fs) (.cons (.refl .str) (.nil _))⟩
    refine S_while (α := Nat) (fun i => [(0, .sl true false 3 (fils fs)), (1, .sl st fl 1 (texts com)), (2, .int .i64 (fu : Nat)), (7, .ptr 0 0 0), (9, .sl true false 3 (fils (ovT z.made))), (10, .int .i64 (z.code : Nat)), (11, .int .i64 (fu - z.left : Nat)), (13, .int .i64 (i : Nat))]) (fun i => [filBx 0 f]) (fun i => i ≤ com.length ∧ ∀ s ∈ com.take i, lookB f s = false) (fun i => com.length - i) 0
      ⟨Nat.zero_le _, fun s hs => by cases hs⟩ (.cons rfl (.cons rfl (.cons rfl (.cons rfl (.cons rfl (.cons rfl (.cons rfl (.cons rfl (.nil _))))))))) rfl ?_
    rintro i ⟨hi, hst⟩
    have hi : i ≤ com.length := hi
    by_cases hlt : i < com.length
    · have e1 : decide ((i : Int) < (((texts com).length : Nat) : Int)) = true := decide_eq_true (by omega)
      have g1 : (texts com)[(i : Int).toNat]? = some (.str com[i]) := texts_get hlt
      have hmem := List.getElem_mem hlt
      have hW := WordsOf_ok com[i] (by have := hcs _ hmem; omega)
      obtain ⟨r, hr⟩ := split_head com[i]
      have hrd := split_rd h1 hmem
      have hlk : lookB f com[i] = ((fst32 com[i] == kList) || ((fst32 com[i] == kRead) && ((splitB 32 com[i]).getD 2 [] == f.path))) := rfl
      have next : lookB f com[i] = false → ∀ s ∈ com.take (i + 1), lookB f s = false := fun h s hs' => by
        rw [List.take_succ_eq_append_getElem hlt] at hs'
        rcases List.mem_append.1 hs' with h' | h'
        · exact hst s h'
        · rw [List.mem_singleton.1 h']; exact h
      generalize com[i] = s at *
      generalize fst32 s = w at *
      by_cases hl : w = kList
      · subst hl
        rw [hr] at hW
        refine pa [.b true, .v (.str s), .v (.sl true false 1 (texts (kList :: r))), .v (.str kList), .b true, .b true, .b true] rfl ?_ ?_
        · (repeat' with_reducible apply AllP_cons) <;> try exact aC
          · exact ⟨_, hW, .cons (.refl .str) (.nil _)⟩
        exact S_retc .bool rfl trivial rfl
      have hlb : (w == kList) = false := by simpa using hl
      by_cases hrr : w = kRead
      · obtain ⟨c, p, q, hq⟩ := hrd hrr
        subst hrr
        rw [hq] at hW hlk
        by_cases hp : p = f.path
        · have b1 : (p == f.path) = true := by simpa using hp
          refine pa [.b true, .v (.str s), .v (.sl true false 1 (texts (kRead :: c :: p :: q))), .v (.str kRead), .b false, .v (.str kRead), .b true, .v (.str p), .b true] rfl ?_ ?_
          · (repeat' with_reducible apply AllP_cons) <;> try exact aC
            · exact ⟨_, hW, .cons (.refl .str) (.nil _)⟩
          exact S_retc .bool rfl trivial rfl
        · have b1 : (p == f.path) = false := by simpa using hp
          refine pa [.b true, .v (.str s), .v (.sl true false 1 (texts (kRead :: c :: p :: q))), .v (.str kRead), .b false, .v (.str kRead), .b true, .v (.str p), .b false] rfl ?_ ?_
          · (repeat' with_reducible apply AllP_cons) <;> try exact aC
            · exact ⟨_, hW, .cons (.refl .str) (.nil _)⟩
          exact S_round (i + 1) (by show com.length - (i + 1) < com.length - i; omega) ⟨hlt, next (by rw [hlk]; exact b1)⟩ (.cons rfl (.cons rfl (.cons rfl (.cons rfl (.cons rfl (.cons rfl (.cons rfl (.cons (ai64 rfl (by omega)) (.nil _))))))))) rfl
      · have hrb : (w == kRead) = false := by simpa using hrr
        rw [hr] at hW
        refine pa [.b true, .v (.str s), .v (.sl true false 1 (texts (w :: r))), .v (.str w), .b false, .v (.str w), .b false, .b false] rfl ?_ ?_
        · (repeat' with_reducible apply AllP_cons) <;> try exact aC
          all_goals first | exact ⟨_, hW, .cons (.refl .str) (.nil _)⟩ | exact hlb | exact hrb | skip
        exact S_round (i + 1) (by show com.length - (i + 1) < com.length - i; omega) ⟨hlt, next (by rw [hlk, hlb, hrb]; rfl)⟩ (.cons rfl (.cons rfl (.cons rfl (.cons rfl (.cons rfl (.cons rfl (.cons rfl (.cons (ai64 rfl (by omega)) (.nil _))))))))) rfl
    have hil : i = com.length := by omega
    subst hil
    rw [List.take_length] at hst
    have e1 : decide ((com.length : Int) < (((texts com).length : Nat) : Int)) = false := decide_eq_false (by omega)
    have hAd := AddFile_ok (st := true) (fl := false) fs f (by omega)
    have hA2 : FilsOk (addF fs f) := ⟨by rw [addF_len]; have := avS_fils fs; have h : avS (fils fs) ≤ 1048576 := by simpa only [avB] using hk
                                         omega, fun g hg => by
        unfold addF at hg
        rcases List.mem_append.1 hg with h | h
        · exact hA.path g (List.mem_of_mem_take h)
        · rcases List.mem_cons.1 h with rfl | h
          · omega
          · exact hA.path g (List.mem_of_mem_drop h), fun g hg => by
        unfold addF at hg
        rcases List.mem_append.1 hg with h | h
        · exact hA.text g (List.mem_of_mem_take h)
        · rcases List.mem_cons.1 h with rfl | h
          · omega
          · exact hA.text g (List.mem_of_mem_drop h)⟩
    have hR2 := Run_any (st := true) (fl := false) (st' := st) (fl' := fl) (addF fs f) com (fu : Int) hA2 (by omega) hf
    by_cases hb2 : boxE (addF fs f) com (fu : Int) = 0
    case neg =>
      have hb' : (((boxE (addF fs f) com (fu : Int) : Nat) : Int) != 0) = true := by simpa using hb2
      rw [runAV_n hb2] at hR2
      refine pa [.b false, .v (.sl true false 3 (fils (addF fs f))), .v (.tup [.sl true false 3 (fils []), .int .i64 ((0 : Nat) : Int), .int .i64 ((0 : Nat) : Int), .int .i64 (boxE (addF fs f) com (fu : Int) : Nat)]), .b true] rfl ?_ ?_
      · (repeat' with_reducible apply AllP_cons) <;> try exact aC
        · exact ⟨_, hAd, .cons (filR fs) (.cons (.refl (filA_free f)) (.nil _))⟩
        · exact ⟨_, hR2, hfr _ _ _⟩
      exact S_retc .bool rfl trivial rfl
    rw [runAV_0 hb2, hbl hst] at hR2
    unfold runR at hR2
    have hS := SameFiles_ok (st := true) (st' := true) (fl := false) (fl' := false) (ovT z.made) (ovT z.made) (by omega) (by omega)
    rw [decide_eq_true rfl] at hS
    refine pa [.b false, .v (.sl true false 3 (fils (addF fs f))), .v (.tup [.sl true false 3 (fils (ovT z.made)), .int .i64 (z.code : Nat), .int .i64 (fu - z.left : Nat), .int .i64 ((0 : Nat) : Int)]), .b false, .v (.bool true), .b true, .b true] rfl ?_ ?_
    · (repeat' with_reducible apply AllP_cons) <;> try exact aC
      · exact ⟨_, hAd, .cons (filR fs) (.cons (.refl (filA_free f)) (.nil _))⟩
      · exact ⟨_, hR2, hfr _ _ _⟩
      · exact ⟨_, hS, .cons (filR _) (.cons (filR _) (.nil _))⟩
      all_goals simp
    exact S_retc .bool rfl trivial (by show AV.bool (((fu - z.left : Nat) : Int) == ((fu - z.left : Nat) : Int)) = _; simp)
end Go.Proofs.YtgmakmfdjhgjlaaGreatDoor
end
