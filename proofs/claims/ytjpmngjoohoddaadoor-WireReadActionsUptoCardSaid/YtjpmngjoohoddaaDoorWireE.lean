/-
  The reader: numbers and texts, one behind the other; or a panic.
-/
import Derived.Test.YtjpmngjoohoddaaDoorWireB
import Derived.Test.YtjpmngjoohoddaaDoorRefT
set_option linter.unusedVariables false
set_option linter.unusedSimpArgs false
set_option maxRecDepth 20000
namespace Go.Proofs.YtjpmngjoohoddaaDoor
open Go Go.Ab

def rd (v : Nat) (s : List UInt8) : Heap := [(v, some (.cells [.str s] ⟨false, some 88⟩))]
def brk : AV := .iface 85 (.agg [])

/-- A reading: what it finds, and what is left; or the panic. -/
def Rd {α : Type} (v : Nat) (x : Option (α × List UInt8)) (f : α → AV) : Out → Heap → Prop := fun o σ' =>
  match x with
  | some (a, r) => o = .ret (f a) ∧ σ' = rd v r
  | none => o = .panic brk ∧ ∃ r, σ' = rd v r

def rTake (n : Nat) (s : List UInt8) : Option (List UInt8 × List UInt8) := if s.length < n then none else some (s.take n, s.drop n)
def rNum (s : List UInt8) : Option (Nat × List UInt8) := if (readN s 0 0).2.2 = 0 then some ((readN s 0 0).1, s.drop (readN s 0 0).2.1) else none
def rText (s : List UInt8) : Option (List UInt8 × List UInt8) :=
  match rNum s with
  | some (n, r) => rTake n r
  | none => none
def rMany (s : List UInt8) : Option (Nat × List UInt8) :=
  match rNum s with
  | some (n, r) => if r.length < n then none else some (n, r)
  | none => none

theorem readN_bds : ∀ (s : List UInt8) (i n : Nat), i ≤ 8 → (readN s i n).1 ≤ 9007199254740991 ∧ (readN s i n).2.1 ≤ i + s.length ∧ ((readN s i n).2.2 = 0 → i < (readN s i n).2.1)
  | [], i, n, h => by simp [readN]
  | c :: r, i, n, h => by
    have ih := readN_bds r (i + 1) (n + c.toNat % 128 * 128 ^ i)
    unfold readN
    split
    · simp
    · simp only
      split
      · have := ih (by omega)
        simp only [List.length_cons]; omega
      · split
        · simp
        · split
          · simp
          · simp; omega

theorem rNum_bd {s : List UInt8} {n : Nat} {r : List UInt8} (h : rNum s = some (n, r)) : n ≤ 9007199254740991 ∧ r.length + 1 ≤ s.length := by
  have := readN_bds s 0 0 (by decide)
  unfold rNum at h
  split at h
  · rename_i h0
    cases h
    have h1 := this.2.2 h0
    rw [List.length_drop]; omega
  · cases h

theorem rTake_bd {s t r : List UInt8} {n : Nat} (h : rTake n s = some (t, r)) : t.length + r.length = s.length ∧ t.length = n := by
  unfold rTake at h
  split at h
  · cases h
  · cases h; simp; omega

theorem rText_bd {s t r : List UInt8} (h : rText s = some (t, r)) : t.length + r.length + 1 ≤ s.length := by
  unfold rText at h
  split at h
  · rename_i n r' h1
    have := rNum_bd h1
    have := rTake_bd h
    omega
  · cases h

/-- The reader's box at a place. -/
def rdE (v : Nat) (s : List UInt8) : Nat × Option Box := (v, some (.cells [.str s] ⟨false, some 88⟩))

section
variable {n : Nat} {B : Bs} {k : List AI} {Q : Post} {fr : Fr} {σ : Heap}

/-- A call of a reader's method. -/
theorem S_rd {α : Type} {all : Array Oper} {o : Oper} {l : List Oper} {K : List Nat} {f : FuncId} {v : Nat} {s : List UInt8} {bs bs' : List AV} {x : Option (α × List UInt8)} {g : α → AV} (j : Nat) (hc : callA cx fr o.op = some (f, .ptr j v 0 :: bs)) (hg : guardA all o K fr = some true) (hd : dstOk n o.dst = true)
    (hj : σ[j]? = some (rdE v s)) (has : bs = bs') (hfa : ∀ y ∈ bs', Free false y) (hcall : CallOk cx f (.ptr 0 v 0 :: bs') (rd v s) (Rd v x g)) (hfg : ∀ a, Free false (g a))
    (hr : ∀ a r, x = some (a, r) → S cx n B (.ops all l K :: k) Q (setA o.dst (g a) fr) (σ.set j (rdE v r))) (hp : x = none → ∀ r, Q (.panic brk) fr (σ.set j (rdE v r))) : S cx n B (.ops all (o :: l) K :: k) Q fr σ := by
  subst has
  have hjl : j < σ.length := by
    rcases Nat.lt_or_ge j σ.length with h | h
    · exact h
    · rw [List.getElem?_eq_none h] at hj; cases hj
  refine S_callf [j] hcall hc (.cons (.ptr rfl) (.free hfa)) (Part.mk' (es := [rdE v s]) rfl ?_ (.cons (.live (.cells (.cons (.free .str) (.nil _)))) (.nil _))) hg hd ?_ ?_
  · simp only [pickAll, hj]
  · intro y σ1 h
    cases hx : x with
    | none => rw [hx] at h; cases h.1
    | some p =>
      obtain ⟨a, r⟩ := p
      rw [hx] at h
      obtain ⟨h1, rfl⟩ := h
      cases h1
      exact ⟨g a, [rdE v r], .cons (.live (.cells (.cons (.free .str) (.nil _)))) (.nil _), .free (hfg a), by simpa [putAll] using hr a r hx⟩
  · intro y σ1 h
    cases hx : x with
    | some p => rw [hx] at h; cases h.1
    | none =>
      rw [hx] at h
      obtain ⟨h1, r, rfl⟩ := h
      cases h1
      exact ⟨brk, [rdE v r], .cons (.live (.cells (.cons (.free .str) (.nil _)))) (.nil _), .iface (.agg rfl (fun i h => absurd h (by simp))), by simpa [putAll] using hp hx r⟩
end

theorem take_ok (v : Nat) (s : List UInt8) (n : Nat) (hn : n ≤ 9223372036854775807) :
    CallOk cx 56 [.ptr 0 v 0, .int .i64 n] (rd v s) (Rd v (rTake n s) .str) :=
  callOk_intro (fun a w => Tryd.call56 a w) Tryd.func56 rfl Tryd.ntmps56 rfl fun B => by
    refine ab 1000 rfl ⟨rfl, trivial⟩ ?_
    refine S_dec rfl (fun h => ?_) (fun h => ?_)
    · refine ab 1000 rfl trivial ?_
      refine S_panic rfl rfl rfl ?_
      show Rd v (rTake n s) .str (.panic brk) _
      rw [rTake, if_pos (by omega)]
      exact ⟨rfl, s, rfl⟩
    · refine ab 1000 rfl ⟨lble rfl, rfl, by omega, by omega, rfl, by omega, by omega, rfl, trivial⟩ ?_
      refine S_ret ⟨_, _, rfl, trivial, ?_⟩
      rw [rTake, if_neg (by omega)]
      exact ⟨rfl, rfl⟩

theorem rnumber_ok (v : Nat) (s : List UInt8) (hs : s.length ≤ 9223372036854775806) :
    CallOk cx 45 [.ptr 0 v 0] (rd v s) (Rd v (rNum s) (fun n => .int .i64 (n : Nat))) :=
  callOk_intro (fun a w => Tryd.call45 a w) Tryd.func45 rfl Tryd.ntmps45 rfl fun B => by
    refine ab 1000 rfl ⟨rfl, trivial⟩ ?_
    refine S_pure rfl rfl rfl (ReadNumber_ok s hs) (.cons (.refl .str) (.nil _)) ?_
    refine ab 1000 rfl trivial ?_
    have hb := readN_bds s 0 0 (by decide)
    refine S_bne rfl (fun h => ?_) (fun h => ?_)
    · refine ab 1000 rfl trivial ?_
      refine S_panic rfl rfl rfl ?_
      show Rd v (rNum s) _ (.panic brk) _
      rw [rNum, if_neg (by omega)]
      exact ⟨rfl, s, rfl⟩
    · refine ab 1000 rfl trivial ?_
      have h0 : (readN s 0 0).2.2 = 0 := by omega
      have hrt : rTake (readN s 0 0).2.1 s = some (s.take (readN s 0 0).2.1, s.drop (readN s 0 0).2.1) := by
        rw [rTake, if_neg (by omega)]
      refine S_call rfl rfl rfl (take_ok v s (readN s 0 0).2.1 (by omega)) ?_ ?_
      · intro x σ' h
        rw [hrt] at h
        obtain ⟨h1, rfl⟩ := h
        refine ab 1000 rfl trivial ?_
        refine S_ret ⟨_, _, rfl, trivial, ?_⟩
        rw [rNum, if_pos h0]
        exact ⟨rfl, rfl⟩
      · intro x σ' h
        rw [hrt] at h
        cases h.1

theorem rtext_ok (v : Nat) (s : List UInt8) (hs : s.length ≤ 9223372036854775806) :
    CallOk cx 44 [.ptr 0 v 0] (rd v s) (Rd v (rText s) .str) :=
  callOk_intro (fun a w => Tryd.call44 a w) Tryd.func44 rfl Tryd.ntmps44 rfl fun B => by
    refine ab 1000 rfl trivial ?_
    refine S_call rfl rfl rfl (rnumber_ok v s hs) ?_ ?_
    · intro x σ' h
      cases hx : rNum s with
      | none => rw [hx] at h; cases h.1
      | some p =>
        obtain ⟨n, r⟩ := p
        rw [hx] at h
        obtain ⟨h1, rfl⟩ := h
        cases h1
        have hb := rNum_bd hx
        refine ab 1000 rfl trivial ?_
        refine S_call rfl rfl rfl (take_ok v r n (by omega)) ?_ ?_
        · intro y σ' h
          cases ht : rTake n r with
          | none => rw [ht] at h; cases h.1
          | some q =>
            rw [ht] at h
            obtain ⟨h1, rfl⟩ := h
            cases h1
            refine ab 1000 rfl trivial ?_
            refine S_ret ⟨_, _, rfl, trivial, ?_⟩
            simp only [rText, hx, ht]
            exact ⟨rfl, rfl⟩
        · intro y σ' h
          cases ht : rTake n r with
          | some q => rw [ht] at h; cases h.1
          | none =>
            rw [ht] at h
            obtain ⟨h1, r', rfl⟩ := h
            cases h1
            show Rd v (rText s) .str (.panic brk) _
            simp only [rText, hx, ht]
            exact ⟨rfl, r', rfl⟩
    · intro x σ' h
      cases hx : rNum s with
      | some p => rw [hx] at h; cases h.1
      | none =>
        rw [hx] at h
        obtain ⟨h1, r', rfl⟩ := h
        cases h1
        show Rd v (rText s) .str (.panic brk) _
        simp only [rText, hx]
        exact ⟨rfl, r', rfl⟩

theorem rmany_ok (v : Nat) (s : List UInt8) (hs : s.length ≤ 9223372036854775806) :
    CallOk cx 55 [.ptr 0 v 0] (rd v s) (Rd v (rMany s) (fun n => .int .i64 (n : Nat))) :=
  callOk_intro (fun a w => Tryd.call55 a w) Tryd.func55 rfl Tryd.ntmps55 rfl fun B => by
    refine ab 1000 rfl trivial ?_
    refine S_call rfl rfl rfl (rnumber_ok v s hs) ?_ ?_
    · intro x σ' h
      cases hx : rNum s with
      | none => rw [hx] at h; cases h.1
      | some p =>
        obtain ⟨n, r⟩ := p
        rw [hx] at h
        obtain ⟨h1, rfl⟩ := h
        cases h1
        have hb := rNum_bd hx
        refine ab 1000 rfl ⟨rfl, trivial⟩ ?_
        refine S_dec rfl (fun hh => ?_) (fun hh => ?_)
        · refine ab 1000 rfl trivial ?_
          refine S_panic rfl rfl rfl ?_
          show Rd v (rMany s) _ (.panic brk) _
          simp only [rMany, hx, if_pos (show r.length < n by omega)]
          exact ⟨rfl, r, rfl⟩
        · refine ab 1000 rfl trivial ?_
          refine S_ret ⟨_, _, rfl, trivial, ?_⟩
          simp only [rMany, hx, if_neg (show ¬ r.length < n by omega)]
          exact ⟨rfl, rfl⟩
    · intro x σ' h
      cases hx : rNum s with
      | some p => rw [hx] at h; cases h.1
      | none =>
        rw [hx] at h
        obtain ⟨h1, r', rfl⟩ := h
        cases h1
        show Rd v (rMany s) _ (.panic brk) _
        simp only [rMany, hx]
        exact ⟨rfl, r', rfl⟩

end Go.Proofs.YtjpmngjoohoddaaDoor
