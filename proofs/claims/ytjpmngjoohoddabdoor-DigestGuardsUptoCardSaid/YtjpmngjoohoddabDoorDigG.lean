/-
  The plain law behind DigestGuards: a text's proof shows it; what is shown at a place, among texts of which no two unlike ones have one digest, is the text there.
-/
import Derived.Test.YtjpmngjoohoddabDoorDigW
import Derived.Test.YtjpmngjoohoddabDoorDigU
set_option linter.unusedVariables false
set_option linter.unusedSimpArgs false
set_option maxRecDepth 20000
namespace Go.Proofs.YtjpmngjoohoddabDoor
open Go Go.Ab

theorem hexV_inj {a b c d : UInt8} (ha : hexB a = true) (hb : hexB b = true) (hc : hexB c = true) (hd : hexB d = true) (h : UInt8.ofNat (16 * hexV a + hexV b) = UInt8.ofNat (16 * hexV c + hexV d)) : a = c ∧ b = d := by
  have h1 := congrArg UInt8.toNat h
  simp only [UInt8.toNat_ofNat'] at h1
  have la := hexV_lt ha; have lb := hexV_lt hb; have lc := hexV_lt hc; have ld := hexV_lt hd
  have e1 : hexV a = hexV c := by omega
  have e2 : hexV b = hexV d := by omega
  have inj : ∀ {x y : UInt8}, hexB x = true → hexB y = true → hexV x = hexV y → x = y := by
    intro x y hx hy he
    unfold hexB at hx hy; unfold hexV at he
    simp only [Bool.or_eq_true, Bool.and_eq_true, decide_eq_true_eq] at hx hy
    have : x.toNat = y.toNat := by split at he <;> split at he <;> omega
    exact UInt8.toNat_inj.1 this
  exact ⟨inj ha hc e1, inj hb hd e2⟩

theorem unhex_inj : ∀ (k : Nat) (d e : List UInt8), HexE d k → HexE e k → unhex d = unhex e → d = e
  | 0, d, e, hd, he, h => by
    have h1 : d = [] := List.eq_nil_of_length_eq_zero (by simpa using hd.1)
    have h2 : e = [] := List.eq_nil_of_length_eq_zero (by simpa using he.1)
    rw [h1, h2]
  | k + 1, x :: y :: d, x' :: y' :: e, hd, he, h => by
    rw [unhex, unhex] at h
    obtain ⟨h1, h2⟩ := List.cons.inj h
    obtain ⟨rfl, rfl⟩ := hexV_inj (hd.2 x (by simp)) (hd.2 y (by simp)) (he.2 x' (by simp)) (he.2 y' (by simp)) h1
    rw [unhex_inj k d e ⟨by have := hd.1; simp only [List.length_cons] at this; omega, fun c hc => hd.2 c (by simp [hc])⟩ ⟨by have := he.1; simp only [List.length_cons] at this; omega, fun c hc => he.2 c (by simp [hc])⟩ h2]
  | k + 1, [x], e, hd, he, h => by have := hd.1; simp at this; omega
  | k + 1, [], e, hd, he, h => by have := hd.1; simp at this
  | k + 1, x :: y :: d, [x'], hd, he, h => by have := he.1; simp at this; omega
  | k + 1, x :: y :: d, [], hd, he, h => by have := he.1; simp at this

theorem pairT_inj {a b c d : List UInt8} (ha : isDig a = true) (hb : isDig b = true) (hc : isDig c = true) (hd : isDig d = true) (h : pairT a b = pairT c d) : a = c ∧ b = d := by
  have ea := hexE_dig ha; have eb := hexE_dig hb; have ec := hexE_dig hc; have ed := hexE_dig hd
  have h := (List.cons.inj h).2
  have hl : (unhex a).length = (unhex c).length := by rw [unhex_len 32 a ea.1, unhex_len 32 c ec.1]
  obtain ⟨h1, h2⟩ := List.append_inj h hl
  exact ⟨unhex_inj 32 a c ea ec h1, unhex_inj 32 b d eb ed h2⟩

/-- What is summed on the way to a root. -/
def summedL (l : List (List UInt8)) : List (List UInt8) :=
  if l.length = 0 then [[]] else if h : l.length ≤ 1 then [0 :: l.headD []] else summedL (l.take (halfN l.length)) ++ summedL (l.drop (halfN l.length)) ++ [pairT (rootS (l.take (halfN l.length))) (rootS (l.drop (halfN l.length)))]
termination_by l.length
decreasing_by
  · have := halfN_spec (n := l.length) (by omega); rw [List.length_take]; omega
  · have := halfN_spec (n := l.length) (by omega); rw [List.length_drop]; omega

/-- What is summed on the way from a text upwards; the whole's comes first in 'z', last here. -/
def chainT (t : List UInt8) : List (Bool × List UInt8) → List (List UInt8)
  | [] => [0 :: t]
  | (s, d) :: r => chainT t r ++ [if s then pairT d (upS (leafS t) r) else pairT (upS (leafS t) r) d]

theorem root_one {l : List (List UInt8)} (h : l.length = 1) : rootS l = leafS (l.headD []) := by
  match l, h with
  | [a], _ => rw [rootS, if_neg (by simp), List.map_cons, List.map_nil, mroot, dif_pos (by simp)]; rfl

theorem leaf_dig (t : List UInt8) : isDig (leafS t) = true := isDig_sha _

theorem sound (t : List UInt8) (n : Nat) : ∀ (l : List (List UInt8)) (j : Nat) (ps : List (List UInt8)), l.length = n → 1 ≤ n → (hj : j < l.length) → ps.length = (sides j n).length → (∀ d ∈ ps, isDig d = true) →
    (∀ a ∈ summedL l, ∀ b ∈ chainT t ((sides j n).zip ps), sha a = sha b → a = b) → upS (leafS t) ((sides j n).zip ps) = rootS l → t = l[j] := by
  induction n using Nat.strongRecOn with
  | _ n ih =>
    intro l j ps hl h1 hj hps hd hc hr
    by_cases hn : n = 1
    · subst hn
      match l, hl, j, hj with
      | [x], _, 0, _ =>
        rw [sides, dif_pos (by omega)] at hps hc hr
        rw [List.zip_nil_left] at hc hr
        rw [root_one rfl] at hr
        have hs : summedL [x] = [0 :: x] := by rw [summedL, if_neg (by simp), dif_pos (by simp)]; rfl
        have := hc (0 :: x) (by rw [hs]; simp) (0 :: t) (by simp [chainT]) hr.symm
        exact (List.cons.inj this).2.symm
    · have hs := halfN_spec (n := n) (by omega)
      obtain ⟨k, hk⟩ : ∃ k, k = halfN n := ⟨_, rfl⟩
      have hrs := rootS_split (l := l) (k := k) (by omega) (by rw [hl]; exact hk)
      have hsm : summedL l = summedL (l.take k) ++ summedL (l.drop k) ++ [pairT (rootS (l.take k)) (rootS (l.drop k))] := by
        conv => lhs; rw [summedL, if_neg (by omega), dif_neg (by omega)]
        rw [hl, ← hk]
      rw [← hk] at hs
      rw [sides, dif_neg (by omega), ← hk] at hps hc hr
      match ps, hps, hd with
      | [], hps, _ => split at hps <;> simp at hps
      | d :: ps, hps, hd =>
        have hdd := hd d (by simp)
        by_cases hkj : k ≤ j
        · rw [if_pos hkj] at hps hc hr
          rw [List.zip_cons_cons] at hc hr
          have hu := upS_dig (leaf_dig t) ((sides (j - k) (n - k)).zip ps)
          rw [upS, if_pos rfl, hrs] at hr
          have he := hc (pairT (rootS (l.take k)) (rootS (l.drop k))) (by rw [hsm]; simp) (pairT d (upS (leafS t) ((sides (j - k) (n - k)).zip ps))) (by simp [chainT]) hr.symm
          obtain ⟨e1, e2⟩ := pairT_inj (rootS_dig _) (rootS_dig _) hdd hu he
          have hj' : j - k < (l.drop k).length := by rw [List.length_drop]; omega
          have := ih (n - k) (by omega) (l.drop k) (j - k) ps (by rw [List.length_drop]; omega) (by omega) hj' (by simpa using hps) (fun x hx => hd x (by simp [hx]))
            (fun a ha b hb => hc a (by rw [hsm]; simp [ha]) b (by simp [chainT, hb])) e2.symm
          rw [this, List.getElem_drop]
          congr 1; omega
        · rw [if_neg hkj] at hps hc hr
          rw [List.zip_cons_cons] at hc hr
          have hu := upS_dig (leaf_dig t) ((sides j k).zip ps)
          rw [upS, if_neg (by decide), hrs] at hr
          have he := hc (pairT (rootS (l.take k)) (rootS (l.drop k))) (by rw [hsm]; simp) (pairT (upS (leafS t) ((sides j k).zip ps)) d) (by simp [chainT]) hr.symm
          obtain ⟨e1, e2⟩ := pairT_inj (rootS_dig _) (rootS_dig _) hu hdd he
          have hj' : j < (l.take k).length := by rw [List.length_take]; omega
          have := ih k (by omega) (l.take k) j ps (by rw [List.length_take]; omega) (by omega) hj' (by simpa using hps) (fun x hx => hd x (by simp [hx]))
            (fun a ha b hb => hc a (by rw [hsm]; simp [ha]) b (by simp [chainT, hb])) e1.symm
          rw [this, List.getElem_take]

theorem complete (n : Nat) : ∀ (l : List (List UInt8)) (i : Nat), l.length = n → (hi : i < l.length) → shownR (leafS l[i]) i n (proofL l i).reverse = (rootS l, true) := by
  induction n using Nat.strongRecOn with
  | _ n ih =>
    intro l i hl hi
    by_cases hn : n = 1
    · subst hn
      match l, hl, i, hi with
      | [x], _, 0, _ =>
        rw [proofL, dif_pos (by simp), List.reverse_nil, shownR, if_pos rfl, root_one rfl]; rfl
    · have hs := halfN_spec (n := n) (by omega)
      obtain ⟨k, hk⟩ : ∃ k, k = halfN n := ⟨_, rfl⟩
      have hrs := rootS_split (l := l) (k := k) (by omega) (by rw [hl]; exact hk)
      rw [← hk] at hs
      rw [proofL, dif_neg (by omega), hl, ← hk]
      by_cases hik : i < k
      · rw [if_pos hik, List.reverse_append, List.reverse_singleton, List.singleton_append, shownR, if_neg hn, ← hk, if_neg (by omega)]
        have hj' : i < (l.take k).length := by rw [List.length_take]; omega
        have := ih k (by omega) (l.take k) i (by rw [List.length_take]; omega) hj'
        rw [List.getElem_take] at this
        rw [this, hrs]
      · rw [if_neg hik, List.reverse_append, List.reverse_singleton, List.singleton_append, shownR, if_neg hn, ← hk, if_pos (by omega)]
        have hj' : i - k < (l.drop k).length := by rw [List.length_drop]; omega
        have := ih (n - k) (by omega) (l.drop k) (i - k) (by rw [List.length_drop]; omega) hj'
        rw [List.getElem_drop] at this
        simp only [show k + (i - k) = i by omega] at this
        rw [this, hrs]

end Go.Proofs.YtjpmngjoohoddabDoor
