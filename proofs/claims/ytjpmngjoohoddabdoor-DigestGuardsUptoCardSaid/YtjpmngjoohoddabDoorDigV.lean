/-
  What a proof shows: the program's Shows; the law DigestShows.
-/
import Derived.Test.YtjpmngjoohoddabDoorDigU
set_option linter.unusedVariables false
set_option linter.unusedSimpArgs false
set_option maxRecDepth 20000
namespace Go.Proofs.YtjpmngjoohoddabDoor
open Go Go.Ab

def formsB (root : List UInt8) (p : List (List UInt8)) : Bool := (root :: p).all isDig

/-- What is wrong with what is handed in. -/
def showsE (root text : List UInt8) (i n : Int) (p : List (List UInt8)) : Nat :=
  if formsB root p = false then 1
  else if 100000 < text.length ∨ n < 1 ∨ 2000 < n then 2
  else if i < 0 ∨ n ≤ i then 3 else 0

def showsV (root text : List UInt8) (i n : Nat) (p : List (List UInt8)) : Bool := (shownR (leafS text) i n p.reverse).2 && (shownR (leafS text) i n p.reverse).1 == root

theorem ok_free {b : Bool} {n : Int} : Free true (.tup [.bool b, .int .i64 n]) := .tup (by intro x hx; simp at hx; rcases hx with rfl | rfl; exact .bool; exact .int)

theorem Shows_ok {st fl : Bool} (root text : List UInt8) (i n : Int) (p : List (List UInt8)) (hpl : p.length ≤ 1048576) (hd : ∀ d ∈ root :: p, d.length ≤ 9223372036854775806) :
    Calc cx 20 [.str root, .str text, .int .i64 i, .int .i64 n, .sl st fl 1 (texts p)] (.tup [.bool (if showsE root text i n p = 0 then showsV root text i.toNat n.toNat p else false), .int .i64 (showsE root text i n p : Nat)]) :=
  pure_intro (fun a w => Tryd.call20 a w) Tryd.func20 rfl Tryd.ntmps20 rfl ok_free fun B => by
    have htl := texts_len p
    refine go (M := [17]) 10 rfl trivial ?_
    refine S_unfull (t := 17) rfl ⟨.skip, _, .inr ⟨_, _, _, rfl⟩⟩ ?_
    refine ab 1000 rfl ⟨?_, ?_, rfl, rfl, rfl, fun y hy => texts_one p y hy, fun y hy => texts_one p y hy, rfl, trivial⟩ ?_
    · show 1 + (texts p).length ≤ 9223372036854775807; omega
    · show (1 + (texts p).length) * 16 ≤ 140737488355328; omega
    obtain ⟨L, hL⟩ : ∃ L, L = root :: p := ⟨_, rfl⟩
    have hLl : L.length = 1 + p.length := by rw [hL, List.length_cons]; omega
    have hLt := texts_len L
    rw [← hL] at hd
    refine S_while (α := Nat) (fun j => [(0, .str root), (1, .str text), (2, .int .i64 i), (3, .int .i64 n), (4, .sl st fl 1 (texts p)), (19, .ms 0 1 0 L.length 1 false), (20, .int .i64 (L.length : Nat)), (21, .int .i64 (j : Nat))]) (fun _ => [tB 1 L]) (fun j => j ≤ L.length ∧ (L.take j).all isDig = true) (fun j => L.length - j) 0
      ⟨Nat.zero_le _, rfl⟩ (.cons rfl (.cons rfl (.cons rfl (.cons rfl (.cons rfl (.cons (by rw [hLl, ← htl]; rfl) (.cons (by rw [hLl, ← htl]; rfl) (.cons rfl (.nil _))))))))) (by rw [hL]; rfl) ?_
    rintro j ⟨hj, hN⟩
    have hj : j ≤ L.length := hj
    refine ab 1000 rfl trivial ?_
    refine S_dec rfl (fun hlt => ?_) (fun hlt => ?_)
    · have hjl : j < L.length := by omega
      refine ab 1000 rfl trivial ?_
      refine S_index .top rfl rfl rfl ⟨rfl, by omega, by omega, trivial⟩ ?_
      refine S_load (.str L[j]) rfl rfl rfl ⟨rfl, ?_, trivial⟩ ?_
      · show ((texts L).drop (offN 0 (mulN ((j : Nat) : Int).toNat 1)))[0]? = _
        rw [offN_eq, mulN_eq, Int.toNat_natCast, Nat.mul_one, Nat.zero_add]
        simp [texts, hjl]
      refine ab 1000 rfl trivial ?_
      refine S_pure rfl rfl rfl (digestIs_ok L[j] (by have := hd _ (List.getElem_mem hjl); omega)) (.cons (.refl .str) (.nil _)) ?_
      refine ab 1000 rfl trivial ?_
      refine S_cond rfl (fun h => ?_) (fun h => ?_)
      · have h : isDig L[j] = false := by simpa using (show (!isDig L[j]) = true from h)
        have hE : showsE root text i n p = 1 := by
          rw [showsE, formsB, ← hL, if_pos]
          rw [List.all_eq_false]; exact ⟨_, List.getElem_mem hjl, by simp [h]⟩
        refine ab 1000 rfl trivial ?_
        refine S_retc ok_free rfl trivial ?_
        rw [hE]; rfl
      · have h : isDig L[j] = true := by simpa using (show (!isDig L[j]) = false from h)
        refine ab 1000 rfl trivial ?_
        refine S_round (j + 1) (by show L.length - (j + 1) < L.length - j; omega) ⟨hjl, ?_⟩ (.cons rfl (.cons rfl (.cons rfl (.cons rfl (.cons rfl (.cons rfl (.cons rfl (.cons (ai64 rfl (by omega)) (.nil _))))))))) rfl
        rw [List.take_succ_eq_append_getElem hjl, List.all_append, hN]; simp [h]
    have hjl : j = L.length := by omega
    rw [hjl, List.take_length] at hN
    have hF : formsB root p = true := by rw [formsB, ← hL]; exact hN
    have hpd : ∀ d ∈ p, isDig d = true := fun d hdm => List.all_eq_true.1 hN d (by rw [hL]; exact List.mem_cons_of_mem _ hdm)
    refine ab 1000 rfl trivial ?_
    refine S_split 7 (fun fr σ => Weak fr [(0, .str root), (1, .str text), (2, .int .i64 i), (3, .int .i64 n), (4, .sl st fl 1 (texts p)), (39, .bool (decide (100000 < text.length ∨ n < 1 ∨ 2000 < n)))] ∧ σ = [tB 1 L]) ?_ ?_
    · refine S_guard rfl rfl rfl rfl (fun h => ?_) (fun h => ?_)
      · have h : 100000 < text.length := by have : (100000 : Int) < ((text.length : Nat) : Int) := of_decide_eq_true h; omega
        refine ab 1000 rfl trivial ?_
        refine S_guard rfl rfl rfl rfl (fun _ => ?_) (fun h => by cases h)
        refine ab 1000 rfl trivial ?_
        exact S_inv ⟨(.cons rfl (.cons rfl (.cons rfl (.cons rfl (.cons rfl (.cons (by show AV.bool true = _; rw [decide_eq_true (p := 100000 < text.length ∨ n < 1 ∨ 2000 < n) (.inl h)]) (.nil _))))))), rfl⟩
      · have h : ¬ 100000 < text.length := by have : ¬ (100000 : Int) < ((text.length : Nat) : Int) := of_decide_eq_false h; omega
        refine ab 1000 rfl trivial ?_
        refine S_guard rfl rfl rfl rfl (fun h2 => ?_) (fun h2 => ?_)
        · have h2 : n < 1 := of_decide_eq_true h2
          refine ab 1000 rfl trivial ?_
          exact S_inv ⟨(.cons rfl (.cons rfl (.cons rfl (.cons rfl (.cons rfl (.cons (by show AV.bool true = _; rw [decide_eq_true (p := 100000 < text.length ∨ n < 1 ∨ 2000 < n) (.inr (.inl h2))]) (.nil _))))))), rfl⟩
        · have h2 : ¬ n < 1 := of_decide_eq_false h2
          refine ab 1000 rfl trivial ?_
          exact S_inv ⟨(.cons rfl (.cons rfl (.cons rfl (.cons rfl (.cons rfl (.cons (by show AV.bool (decide (n > 2000)) = _; exact congrArg AV.bool (decide_eq_decide.2 ⟨fun h3 => .inr (.inr h3), fun h3 => by omega⟩)) (.nil _))))))), rfl⟩
    rintro fr σ ⟨hw, rfl⟩
    refine S_opsW hw ?_
    refine ab 1000 rfl trivial ?_
    refine S_dec rfl (fun h1 => ?_) (fun h1 => ?_)
    · have hE : showsE root text i n p = 2 := by rw [showsE, hF, if_neg (by decide), if_pos h1]
      refine ab 1000 rfl trivial ?_
      refine S_retc ok_free rfl trivial ?_
      rw [hE]; rfl
    refine ab 1000 rfl trivial ?_
    have yes3 : i < 0 ∨ n ≤ i → showsE root text i n p = 3 := fun h => by rw [showsE, hF, if_neg (by decide), if_neg h1, if_pos h]
    refine S_guard rfl rfl rfl rfl (fun h2 => ?_) (fun h2 => ?_)
    · have h2 : i < 0 := of_decide_eq_true h2
      refine ab 1000 rfl trivial ?_
      refine S_cond (b := true) rfl (fun _ => ?_) (fun h => by cases h)
      refine ab 1000 rfl trivial ?_
      refine S_retc ok_free rfl trivial ?_
      rw [yes3 (.inl h2)]; rfl
    have h2 : ¬ i < 0 := of_decide_eq_false h2
    refine ab 1000 rfl trivial ?_
    refine S_dec rfl (fun h3 => ?_) (fun h3 => ?_)
    · have h3 : n ≤ i := h3
      refine ab 1000 rfl trivial ?_
      refine S_retc ok_free rfl trivial ?_
      rw [yes3 (.inr h3)]; rfl
    have h3 : ¬ n ≤ i := h3
    have hE : showsE root text i n p = 0 := by rw [showsE, hF, if_neg (by decide), if_neg h1, if_neg (by omega)]
    obtain ⟨i', rfl⟩ := Int.eq_ofNat_of_zero_le (show 0 ≤ i by omega)
    obtain ⟨n', rfl⟩ := Int.eq_ofNat_of_zero_le (show 0 ≤ n by omega)
    have hSh := shown_ok text (by omega) p.reverse i' n' (by omega) (by omega) (by omega) (by rw [List.length_reverse]; omega) (fun d hdm => hpd d (List.mem_reverse.1 hdm))
    rw [List.reverse_reverse] at hSh
    refine ab 1000 rfl trivial ?_
    refine S_pure rfl rfl rfl hSh (.cons (.refl .str) (.cons (.refl .int) (.cons (.refl .int) (.cons (.lend rfl (fun h => by cases h) (texts_any p)) (.nil _))))) ?_
    rw [hE, if_pos rfl, showsV, Int.toNat_natCast, Int.toNat_natCast]
    generalize shownR (leafS text) i' n' p.reverse = x
    obtain ⟨r, ok⟩ := x
    refine ab 1000 rfl trivial ?_
    refine S_guard rfl rfl rfl rfl (fun h => ?_) (fun h => ?_)
    · have h : ok = true := h
      subst h
      refine ab 1000 rfl trivial ?_
      refine S_retc ok_free rfl trivial ?_
      rw [Bool.true_and]; rfl
    · have h : ok = false := h
      subst h
      refine ab 1000 rfl trivial ?_
      exact S_retc ok_free rfl trivial rfl

theorem DigestShows_ok {st fl : Bool} (root text : List UInt8) (i n : Int) (p : List (List UInt8)) (hr : root.length ≤ 1048576) (hpl : p.length ≤ 1048576) (hd : ∀ d ∈ p, d.length ≤ 1048576) :
    Calc cx 5 [.str root, .str text, .int .i64 i, .int .i64 n, .sl st fl 1 (texts p)] (.bool true) :=
  pure_intro (fun a w => Tryd.call5 a w) Tryd.func5 rfl Tryd.ntmps5 rfl .bool fun B => by
    have htl := texts_len p
    have lend : ∀ σ : Heap, Frz false σ (.sl st fl 1 (texts p)) (.sl st fl 1 (texts p)) := fun σ => .refl (.sl (fun h => by cases h) (texts_any p))
    obtain ⟨e, he⟩ : ∃ e, e = showsE root text i n p := ⟨_, rfl⟩
    obtain ⟨ok, hok⟩ : ∃ ok, ok = (if showsE root text i n p = 0 then showsV root text i.toNat n.toNat p else false) := ⟨_, rfl⟩
    have hS := Shows_ok (st := st) (fl := fl) root text i n p hpl (by intro d hdm; rcases List.mem_cons.1 hdm with rfl | hdm; omega; have := hd d hdm; omega)
    rw [← hok, ← he] at hS
    refine ab 1000 rfl trivial ?_
    refine S_pure rfl rfl rfl hS (.cons (.refl .str) (.cons (.refl .str) (.cons (.refl .int) (.cons (.refl .int) (.cons (lend _) (.nil _)))))) ?_
    refine ab 1000 rfl trivial ?_
    refine S_pure rfl rfl rfl (IsDigest_ok root (by omega)) (.cons (.refl .str) (.nil _)) ?_
    refine ab 1000 rfl trivial ?_
    refine S_while (α := Nat) (fun k => [(0, .str root), (1, .str text), (2, .int .i64 i), (3, .int .i64 n), (4, .sl st fl 1 (texts p)), (11, .bool ok), (12, .int .i64 (e : Nat)), (13, .int .i64 0), (14, .bool (isDig root && (p.take k).all isDig)), (15, .int .i64 (k : Nat))]) (fun _ => []) (fun k => k ≤ p.length) (fun k => p.length - k) 0
      (Nat.zero_le _) (.cons rfl (.cons rfl (.cons rfl (.cons rfl (.cons rfl (.cons rfl (.cons rfl (.cons rfl (.cons (by rw [List.take_zero, List.all_nil, Bool.and_true]; rfl) (.cons rfl (.nil _))))))))))) rfl ?_
    intro k hk
    have hk : k ≤ p.length := hk
    refine ab 1000 rfl trivial ?_
    refine S_dec rfl (fun hlt => ?_) (fun hlt => ?_)
    · have hkl : k < p.length := by have : ((k : Nat) : Int) < (((texts p).length : Nat) : Int) := hlt; omega
      have ha : (p.take (k + 1)).all isDig = ((p.take k).all isDig && isDig p[k]) := by rw [List.take_succ_eq_append_getElem hkl, List.all_append]; simp
      refine ab 1000 rfl trivial ?_
      refine S_guard rfl rfl rfl rfl (fun hb => ?_) (fun hb => ?_)
      · have hb : (isDig root && (p.take k).all isDig) = true := hb
        refine ab 1000 rfl trivial ?_
        refine S_index (.str p[k]) rfl rfl rfl ⟨rfl, by omega, by rw [Int.toNat_natCast]; exact texts_get hkl, trivial⟩ ?_
        refine ab 1000 rfl trivial ?_
        refine S_pure rfl rfl rfl (IsDigest_ok p[k] (by have := hd _ (List.getElem_mem hkl); omega)) (.cons (.refl .str) (.nil _)) ?_
        refine ab 1000 rfl trivial ?_
        refine S_round (k + 1) (by show p.length - (k + 1) < p.length - k; omega) hkl (.cons rfl (.cons rfl (.cons rfl (.cons rfl (.cons rfl (.cons rfl (.cons rfl (.cons rfl (.cons ?_ (.cons (ai64 rfl (by omega)) (.nil _))))))))))) rfl
        show AV.bool (isDig p[k]) = .bool (isDig root && (p.take (k + 1)).all isDig)
        rw [ha, ← Bool.and_assoc, hb, Bool.true_and]
      · have hb : (isDig root && (p.take k).all isDig) = false := hb
        refine ab 1000 rfl trivial ?_
        refine S_round (k + 1) (by show p.length - (k + 1) < p.length - k; omega) hkl (.cons rfl (.cons rfl (.cons rfl (.cons rfl (.cons rfl (.cons rfl (.cons rfl (.cons rfl (.cons ?_ (.cons (ai64 rfl (by omega)) (.nil _))))))))))) rfl
        show AV.bool false = .bool (isDig root && (p.take (k + 1)).all isDig)
        rw [ha, ← Bool.and_assoc, hb, Bool.false_and]
    have hkl : k = p.length := by have : ¬ ((k : Nat) : Int) < (((texts p).length : Nat) : Int) := hlt; omega
    subst hkl
    rw [List.take_length]
    have hFe : formsB root p = (isDig root && p.all isDig) := by rw [formsB, List.all_cons]
    refine ab 1000 rfl trivial ?_
    refine S_cond rfl (fun h => ?_) (fun h => ?_)
    · have h : (isDig root && p.all isDig) = false := by
        have h : (!(isDig root && p.all isDig)) = true := h
        generalize (isDig root && p.all isDig) = z at h
        cases z; rfl; cases h
      have hE : showsE root text i n p = 1 := by rw [showsE, hFe, h, if_pos rfl]
      rw [hE] at he hok
      rw [if_neg (by decide)] at hok
      subst he hok
      refine ab 1000 rfl trivial ?_
      refine S_pure rfl rfl rfl digestBegun_ok (.nil _) ?_
      refine ab 1000 rfl trivial ?_
      refine S_guard rfl rfl rfl rfl (fun _ => ?_) (fun h => absurd h (by decide))
      refine ab 1000 rfl trivial ?_
      refine S_guard rfl rfl rfl rfl (fun _ => ?_) (fun h => absurd h (by decide))
      refine ab 1000 rfl trivial ?_
      refine S_guard rfl rfl rfl rfl (fun h => absurd h (by decide)) (fun _ => ?_)
      refine ab 1000 rfl trivial ?_
      exact S_retc .bool rfl trivial rfl
    have hF : formsB root p = true := by
      have h : (!(isDig root && p.all isDig)) = false := h
      rw [hFe]
      generalize (isDig root && p.all isDig) = z at h
      cases z; cases h; rfl
    refine ab 1000 rfl trivial ?_
    have wk : ∀ {b : Bool}, b = decide (100000 < text.length ∨ n < 1 ∨ 2000 < n) → AV.bool b = .bool (decide (100000 < text.length ∨ n < 1 ∨ 2000 < n)) := fun h => congrArg AV.bool h
    refine S_split 7 (fun fr σ => Weak fr [(0, .str root), (1, .str text), (2, .int .i64 i), (3, .int .i64 n), (4, .sl st fl 1 (texts p)), (11, .bool ok), (12, .int .i64 (e : Nat)), (13, .int .i64 0), (55, .bool (decide (100000 < text.length ∨ n < 1 ∨ 2000 < n)))] ∧ σ = []) ?_ ?_
    · refine S_guard rfl rfl rfl rfl (fun h => ?_) (fun h => ?_)
      · have h : 100000 < text.length := by have : (100000 : Int) < ((text.length : Nat) : Int) := of_decide_eq_true h; omega
        refine ab 1000 rfl trivial ?_
        refine S_guard rfl rfl rfl rfl (fun _ => ?_) (fun h => by cases h)
        refine ab 1000 rfl trivial ?_
        exact S_inv ⟨(.cons rfl (.cons rfl (.cons rfl (.cons rfl (.cons rfl (.cons rfl (.cons rfl (.cons rfl (.cons (wk (decide_eq_true (p := 100000 < text.length ∨ n < 1 ∨ 2000 < n) (.inl h)).symm) (.nil _)))))))))), rfl⟩
      · have h : ¬ 100000 < text.length := by have : ¬ (100000 : Int) < ((text.length : Nat) : Int) := of_decide_eq_false h; omega
        refine ab 1000 rfl trivial ?_
        refine S_guard rfl rfl rfl rfl (fun h2 => ?_) (fun h2 => ?_)
        · have h2 : n < 1 := of_decide_eq_true h2
          refine ab 1000 rfl trivial ?_
          exact S_inv ⟨(.cons rfl (.cons rfl (.cons rfl (.cons rfl (.cons rfl (.cons rfl (.cons rfl (.cons rfl (.cons (wk (decide_eq_true (p := 100000 < text.length ∨ n < 1 ∨ 2000 < n) (.inr (.inl h2))).symm) (.nil _)))))))))), rfl⟩
        · have h2 : ¬ n < 1 := of_decide_eq_false h2
          refine ab 1000 rfl trivial ?_
          exact S_inv ⟨(.cons rfl (.cons rfl (.cons rfl (.cons rfl (.cons rfl (.cons rfl (.cons rfl (.cons rfl (.cons (by show AV.bool (decide (n > 2000)) = _; exact congrArg AV.bool (decide_eq_decide.2 ⟨fun h3 => .inr (.inr h3), fun h3 => by omega⟩)) (.nil _)))))))))), rfl⟩
    rintro fr σ ⟨hw, rfl⟩
    refine S_opsW hw ?_
    refine ab 1000 rfl trivial ?_
    refine S_dec rfl (fun h1 => ?_) (fun h1 => ?_)
    · have hE : showsE root text i n p = 2 := by rw [showsE, hF, if_neg (by decide), if_pos h1]
      rw [hE] at he hok
      rw [if_neg (by decide)] at hok
      subst he hok
      refine ab 1000 rfl trivial ?_
      refine S_pure rfl rfl rfl digestBegun_ok (.nil _) ?_
      refine ab 1000 rfl trivial ?_
      refine S_guard rfl rfl rfl rfl (fun _ => ?_) (fun h => absurd h (by decide))
      refine ab 1000 rfl trivial ?_
      refine S_guard rfl rfl rfl rfl (fun _ => ?_) (fun h => absurd h (by decide))
      refine ab 1000 rfl trivial ?_
      refine S_guard rfl rfl rfl rfl (fun h => absurd h (by decide)) (fun _ => ?_)
      refine ab 1000 rfl trivial ?_
      exact S_retc .bool rfl trivial rfl
    refine ab 1000 rfl trivial ?_
    have yes3 : i < 0 ∨ n ≤ i → showsE root text i n p = 3 := fun h => by rw [showsE, hF, if_neg (by decide), if_neg h1, if_pos h]
    refine S_guard rfl rfl rfl rfl (fun h2 => ?_) (fun h2 => ?_)
    · have h2 : i < 0 := of_decide_eq_true h2
      refine ab 1000 rfl trivial ?_
      refine S_cond (b := true) rfl (fun _ => ?_) (fun h => by cases h)
      have hE := yes3 (.inl h2)
      rw [hE] at he hok
      rw [if_neg (by decide)] at hok
      subst he hok
      refine ab 1000 rfl trivial ?_
      refine S_pure rfl rfl rfl digestBegun_ok (.nil _) ?_
      refine ab 1000 rfl trivial ?_
      refine S_guard rfl rfl rfl rfl (fun _ => ?_) (fun h => absurd h (by decide))
      refine ab 1000 rfl trivial ?_
      refine S_guard rfl rfl rfl rfl (fun _ => ?_) (fun h => absurd h (by decide))
      refine ab 1000 rfl trivial ?_
      refine S_guard rfl rfl rfl rfl (fun h => absurd h (by decide)) (fun _ => ?_)
      refine ab 1000 rfl trivial ?_
      exact S_retc .bool rfl trivial rfl
    have h2 : ¬ i < 0 := of_decide_eq_false h2
    refine ab 1000 rfl trivial ?_
    refine S_dec rfl (fun h3 => ?_) (fun h3 => ?_)
    · have h3 : n ≤ i := h3
      have hE := yes3 (.inr h3)
      rw [hE] at he hok
      rw [if_neg (by decide)] at hok
      subst he hok
      refine ab 1000 rfl trivial ?_
      refine S_pure rfl rfl rfl digestBegun_ok (.nil _) ?_
      refine ab 1000 rfl trivial ?_
      refine S_guard rfl rfl rfl rfl (fun _ => ?_) (fun h => absurd h (by decide))
      refine ab 1000 rfl trivial ?_
      refine S_guard rfl rfl rfl rfl (fun _ => ?_) (fun h => absurd h (by decide))
      refine ab 1000 rfl trivial ?_
      refine S_guard rfl rfl rfl rfl (fun h => absurd h (by decide)) (fun _ => ?_)
      refine ab 1000 rfl trivial ?_
      exact S_retc .bool rfl trivial rfl
    have h3 : ¬ n ≤ i := h3
    have hE : showsE root text i n p = 0 := by rw [showsE, hF, if_neg (by decide), if_neg h1, if_neg (by omega)]
    obtain ⟨i', rfl⟩ := Int.eq_ofNat_of_zero_le (show 0 ≤ i by omega)
    obtain ⟨n', rfl⟩ := Int.eq_ofNat_of_zero_le (show 0 ≤ n by omega)
    rw [hE] at he hok
    rw [if_pos rfl] at hok
    subst he
    have hpd : ∀ d ∈ p, isDig d = true := fun d hdm => by
      rw [hFe, Bool.and_eq_true] at hF
      exact List.all_eq_true.1 hF.2 d hdm
    refine ab 1000 rfl trivial ?_
    refine S_pure rfl rfl rfl digestBegun_ok (.nil _) ?_
    refine ab 1000 rfl trivial ?_
    refine S_guard rfl rfl rfl rfl (fun _ => ?_) (fun h => absurd h (by decide))
    refine ab 1000 rfl trivial ?_
    refine S_guard rfl rfl rfl rfl (fun _ => ?_) (fun h => absurd h (by decide))
    refine ab 1000 rfl trivial ?_
    refine S_guard rfl rfl rfl rfl (fun _ => ?_) (fun h => absurd h (by decide))
    refine ab 1000 rfl trivial ?_
    refine S_pure rfl rfl rfl (ShowsOf_ok (st := st) (fl := fl) root text i' n' p (by omega) (by omega) (by omega) (by omega) hpd hpl) (.cons (.refl .str) (.cons (.refl .str) (.cons (.refl .int) (.cons (.refl .int) (.cons (lend _) (.nil _)))))) ?_
    have hx : (decide (p.length = (sides i' n').length) && upS (leafS text) ((sides i' n').zip p.reverse) == root) = ok := by
      obtain ⟨q1, q2⟩ := shownR_eq (leafS text) p.reverse i' n' (by omega)
      rw [hok, showsV, Int.toNat_natCast, Int.toNat_natCast, q1]
      rw [List.length_reverse] at q1 q2 ⊢
      by_cases hq : p.length = (sides i' n').length
      · rw [q2 hq]
      · simp [hq]
    rw [hx]
    refine ab 1000 rfl trivial ?_
    refine S_retc .bool rfl trivial ?_
    exact congrArg AV.bool (beq_self_eq_true ok)

end Go.Proofs.YtjpmngjoohoddabDoor
