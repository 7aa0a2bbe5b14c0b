/-
  Slicing; fields; indexes; interface values; lengths. And all reading operations in one function.
-/
import Derived.Test.YtjpmngjoohoddaaAbD
set_option linter.unusedVariables false
set_option linter.unusedSimpArgs false
namespace Go.Ab
open Go

theorem run_sliceBound (P : Program) (w : World) (k : IntKind) (i : Int) (y : Nat) (c : BoundsCode) (h0 : 0 ≤ i) (h1 : i ≤ y) : (Instr.sliceBound (.int k i) y c).run P w = .ok i.toNat w := by
  simp [Instr.sliceBound, asIntOf, h0, h1]

/-- A bound that stands there is a number; one that does not is none. -/
inductive Bd (r : Rl) (w : World) : Option Value → Option Int → Prop
  | none : Bd r w none none
  | some {k n} : Bd r w (some (.int k n)) (some n)

def bInt : Option AV → Option (Option Int)
  | none => some none
  | some (.int _ n) => some (some n)
  | _ => none

theorem bInt_bd {r : Rl} {w : World} {x : Option Value} {x' : Option AV} {n : Option Int} (h : bInt x' = some n) (hx : ∀ v, x = some v → ∃ v', x' = some v' ∧ VRel r w v v') (hn : x = none → x' = none) : Bd r w x n := by
  cases x with
  | none =>
    rw [hn rfl] at h
    simp only [bInt, Option.some.injEq] at h
    subst h; exact .none
  | some v =>
    obtain ⟨v', rfl, hv⟩ := hx v rfl
    cases hv <;> simp only [bInt, Option.some.injEq, reduceCtorEq] at h
    subst h; exact .some

theorem run_bounds (P : Program) (w : World) (r : Rl) (isSlice : Bool) (len cap : Nat) (lo hi mx : Option Value) (l h m : Option Int) (hl : Bd r w lo l) (hh : Bd r w hi h) (hm : Bd r w mx m)
    (h1 : 0 ≤ l.getD 0) (h2 : l.getD 0 ≤ h.getD len) (h3 : h.getD len ≤ m.getD cap) (h4 : m.getD cap ≤ cap) (h5 : h = none → m = none) :
    (Instr.sliceBounds isSlice len cap lo hi mx).run P w = .ok ((l.getD 0).toNat, (h.getD len).toNat, (m.getD cap).toNat) w := by
  have hm' : ∀ x, m = some x → 0 ≤ x ∧ x ≤ cap := fun x hx => by subst hx; simp only [Option.getD_some] at *; omega
  cases hm with
  | none =>
    cases hh with
    | none =>
      cases hl with
      | none => simp [Instr.sliceBounds]
      | some => simp only [Option.getD_some, Option.getD_none] at *; simp [Instr.sliceBounds, run_sliceBound P w _ _ _ _ h1 h2]
    | some =>
      simp only [Option.getD_some, Option.getD_none] at h2 h3
      cases hl with
      | none => simp only [Option.getD_none] at h2; simp [Instr.sliceBounds, run_sliceBound P w _ _ _ _ h2 h3]
      | some =>
        simp only [Option.getD_some] at h1 h2
        rename_i k1 n1 k2 n2
        have h2' : n2 ≤ ((n1.toNat : Nat) : Int) := by omega
        simp [Instr.sliceBounds, run_sliceBound P w _ _ _ _ (Int.le_trans h1 h2) h3, run_sliceBound P w _ _ _ _ h1 h2']
  | some =>
    rename_i km nm
    cases hh with
    | none => exact absurd (h5 rfl) (by simp)
    | some =>
      simp only [Option.getD_some] at *
      rename_i k1 n1
      cases hl with
      | none =>
        simp only [Option.getD_none] at h2
        have h3' : n1 ≤ ((nm.toNat : Nat) : Int) := by omega
        simp [Instr.sliceBounds, run_sliceBound P w _ _ _ _ (Int.le_trans h2 h3) h4, run_sliceBound P w _ _ _ _ h2 h3']
      | some =>
        simp only [Option.getD_some] at h1 h2
        rename_i k2 n2
        have h3' : n1 ≤ ((nm.toNat : Nat) : Int) := by omega
        have h2' : n2 ≤ ((n1.toNat : Nat) : Int) := by omega
        simp [Instr.sliceBounds, run_sliceBound P w _ _ _ _ (Int.le_trans (Int.le_trans h1 h2) h3) h4, run_sliceBound P w _ _ _ _ (Int.le_trans h1 h2) h3', run_sliceBound P w _ _ _ _ h1 h2']

def cutL {α : Type} (l h : Option Int) (s : List α) : List α :=
  match l, h with
  | none, none => s
  | some l, none => s.drop l.toNat
  | none, some h => s.take h.toNat
  | some l, some h => (s.take h.toNat).drop l.toNat

theorem cutL_eq {α : Type} (l h : Option Int) (s : List α) (h1 : 0 ≤ l.getD 0) (h2 : l.getD 0 ≤ h.getD s.length) (h3 : h.getD s.length ≤ s.length) :
    cutL l h s = (s.take (h.getD s.length).toNat).drop (l.getD 0).toNat := by
  cases l <;> cases h <;> simp [cutL]

/-- What must hold of bounds, and no more than that. -/
def cutC (l h : Option Int) (n : Nat) : List Prop :=
  match l, h with
  | none, none => []
  | some l, none => [0 ≤ l, l ≤ n]
  | none, some h => [0 ≤ h, h ≤ n]
  | some l, some h => [0 ≤ l, l ≤ h, h ≤ n]

theorem cutC_all {l h : Option Int} {n : Nat} {D : List Prop} (hc : AllP (cutC l h n ++ D)) : (0 ≤ l.getD 0 ∧ l.getD 0 ≤ h.getD n ∧ h.getD n ≤ n) ∧ AllP D := by
  cases l <;> cases h <;> simp only [cutC, List.nil_append, List.cons_append, AllP, Option.getD_none, Option.getD_some] at hc ⊢
  · exact ⟨⟨Int.le_refl _, by omega, Int.le_refl _⟩, hc⟩
  · exact ⟨⟨Int.le_refl _, hc.1, hc.2.1⟩, hc.2.2⟩
  · exact ⟨⟨hc.1, hc.2.1, Int.le_refl _⟩, hc.2.2⟩
  · exact ⟨⟨hc.1, hc.2.1, hc.2.2.1⟩, hc.2.2.2⟩

def aSlice (P : Program) (t : TypeId) (x : AV) (lo hi mx : Option AV) (σ : Heap) : Option (List Prop × AV) :=
  match bInt lo, bInt hi, bInt mx with
  | some l, some h, some m =>
    match P.underlying t with
    | some .string => match x, m with
      | .str s, none => some (cutC l h s.length ++ [], .str (cutL l h s))
      | _, _ => none
    | some (.slice e) => match szOf P e with
      | some n => match x with
        | .nils => match l, h, m with
          | none, none, none => some ([], .nils)
          | _, _, _ => none
        | .sl st fl sz xs => match m with
          | none => some (cutC l h xs.length ++ [sz = n], .sl st (match h with | none => fl | some _ => false) sz (cutL l h xs))
          | some m => match h with
            | some hh => some (cutC l h xs.length ++ [sz = n, m = hh], .sl st true sz (cutL l h xs))
            | none => none
        | .ms id ver off len sz fl => match m with
          | none => some (cutC l h len ++ [sz = n], .ms id ver (off + (l.getD 0).toNat * sz) ((h.getD len).toNat - (l.getD 0).toNat) sz (match h with | none => fl | some _ => false))
          | some m => match h with
            | some hh => some (cutC l h len ++ [sz = n, m = hh], .ms id ver (off + (l.getD 0).toNat * sz) (hh.toNat - (l.getD 0).toNat) sz true)
            | none => none
        | _ => none
      | none => none
    | some (.array n e) => match szOf P e with
      | some sz => match x, m with
        | .ptr id ver off, none => match boxAt σ id with
          | some (cur, cs, _) => some (cutC l h n ++ [ver = cur, off + n * sz ≤ cs.length, 0 < sz], .ms id ver (off + (l.getD 0).toNat * sz) ((h.getD n).toNat - (l.getD 0).toNat) sz false)
          | none => none
        | _, _ => none
      | none => none
    | _ => none
  | _, _, _ => none

theorem extract_toList (s : ByteArray) (l h : Nat) : (s.extract l h).data.toList = (s.data.toList.take h).drop l := by
  rw [ByteArray.data_extract, Array.toList_extract, List.extract_eq_take_drop]
  rw [List.drop_take]

theorem sl_cut {r : Rl} {w : World} {st fl fl' : Bool} {a : Option Addr} {sz n cap l h m : Nat} {xs : List AV} (hx : VRel r w (.slice a n cap) (.sl st fl sz xs)) (h1 : l ≤ h) (h2 : h ≤ xs.length) (h3 : h ≤ m)
    (hf : fl' = true → m = h) : VRel r w (.slice (if m = l then a else a.map (·.add (l * sz))) (h - l) (m - l)) (.sl st fl' sz ((xs.take h).drop l)) := by
  by_cases he : l = h
  · subst he
    have : (xs.take l).drop l = [] := by simp
    rw [this, Nat.sub_self]
    exact .sl0 (fun h => by rw [hf h]; omega)
  · cases hx with
    | sl0 => simp at h2; omega
    | sl hn hc0 hff hI hS hsz f hc hv =>
      rename_i b o
      rw [if_neg (by omega)]
      simp only [Option.map_some, Addr.add_lit]
      have hlen : ((xs.take h).drop l).length = h - l := by simp; omega
      have hget : ∀ e (he : e < ((xs.take h).drop l).length), ((xs.take h).drop l)[e] = xs[l + e]'(by rw [hlen] at he; omega) := by
        intro e he; simp
      refine .sl hlen.symm (by omega) (fun h => by rw [hf h]) hI hS (fun x hx => hsz x (List.mem_of_mem_take (List.mem_of_mem_drop hx))) (fun e j => f (l + e) j) (fun e he' j hj => ?_) (fun e he' j hj => ?_)
      · rw [hlen] at he'
        have := hc (l + e) (by omega) j hj
        rw [show o + l * sz + e * sz + j = o + (l + e) * sz + j by rw [Nat.add_mul]; omega]
        exact this
      · rw [hlen] at he'
        have h5 := hget e (by rw [hlen]; exact he')
        have h6 := hv (l + e) (by omega) j (by rw [← h5]; exact hj)
        simp only [h5]; exact h6

theorem aSlice_run {cx : Cx} {r : Rl} {σ : Heap} {w : World} {t : TypeId} {x : Value} {x' v : AV} {lo hi mx : Option Value} {lo' hi' mx' : Option AV} {C : List Prop} (hinv : Inv cx r σ w)
    (h : aSlice cx.P t x' lo' hi' mx' σ = some (C, v)) (hC : AllP C) (hx : VRel r w x x') (hlo : ∀ n, bInt lo' = some n → Bd r w lo n) (hhi : ∀ n, bInt hi' = some n → Bd r w hi n) (hmx : ∀ n, bInt mx' = some n → Bd r w mx n) :
    ∃ v', (Instr.sliceAt t x lo hi mx).run cx.P w = .ok v' w ∧ VRel r w v' v := by
  unfold aSlice at h
  split at h
  case h_2 => cases h
  rename_i l hh m h1 h2 h3
  have hl := hlo l h1
  have hhb := hhi hh h2
  have hm := hmx m h3
  split at h
  · -- a string
    rename_i hu
    split at h
    case h_2 => cases h
    simp only [Option.some.injEq, Prod.mk.injEq] at h; obtain ⟨rfl, rfl⟩ := h
    obtain ⟨⟨c1, c2, c3⟩, _⟩ := cutC_all hC
    cases hx with
    | str hs =>
      rename_i s
      subst hs
      have hsz : s.size = s.data.toList.length := by rw [Array.length_toList]; rfl
      rw [← hsz] at c2 c3
      cases hm with
      | none =>
        have hb := run_bounds cx.P w r false s.size s.size lo hi none l hh none hl hhb .none c1 c2 (by rw [Option.getD_none]; exact c3) (Int.le_refl _) (fun _ => rfl)
        refine ⟨.string (s.extract (l.getD 0).toNat (hh.getD s.size).toNat), ?_, .str ?_⟩
        · simp only [Instr.sliceAt, Instr.slice, Sem.run_bind, run_underlying hu, Result.andThen_ok, Option.isSome_none, Bool.false_eq_true, if_false, hb, Sem.run_pure]
        · rw [extract_toList, cutL_eq l hh _ c1 (by rw [← hsz]; exact c2) (by rw [← hsz]; exact c3), hsz]
  · -- a slice
    rename_i e hu
    split at h
    case h_2 => cases h
    rename_i n hn
    have hrun : ∀ (a : Option Addr) (len cap M : Nat), 0 ≤ l.getD 0 → l.getD 0 ≤ hh.getD (len : Int) → hh.getD (len : Int) ≤ m.getD (cap : Int) → m.getD (cap : Int) ≤ (cap : Int) → (hh = none → m = none) → (m.getD (cap : Int)).toNat = M →
        (Instr.sliceAt t (.slice a len cap) lo hi mx).run cx.P w = .ok (.slice (if M = (l.getD 0).toNat then a else a.map (·.add ((l.getD 0).toNat * n))) ((hh.getD (len : Int)).toNat - (l.getD 0).toNat) (M - (l.getD 0).toNat)) w := by
      intro a len cap M c1 c2 c3 c4 c5 hM
      have hb := run_bounds cx.P w r true len cap lo hi mx l hh m hl hhb hm c1 c2 c3 c4 c5
      rw [hM] at hb
      simp only [Instr.sliceAt, Instr.slice, Sem.run_bind, run_underlying hu, Result.andThen_ok, hb, run_sizeOf' hn, Sem.run_pure]
    split at h
    · -- nil
      split at h
      case h_2 => cases h
      simp only [Option.some.injEq, Prod.mk.injEq] at h; obtain ⟨rfl, rfl⟩ := h
      cases hx
      have := hrun none 0 0 0 (by simp) (by simp) (by simp) (by simp) (fun _ => rfl) rfl
      exact ⟨_, this, by simpa using VRel.nils⟩
    · -- what bears its contents
      rename_i st fl sz xs
      split at h
      · simp only [Option.some.injEq, Prod.mk.injEq] at h; obtain ⟨rfl, rfl⟩ := h
        obtain ⟨⟨c1, c2, c3⟩, c4, _⟩ := cutC_all hC
        subst c4
        rename_i hsz0
        cases x with
        | slice a len cap =>
          have hlen : len = xs.length ∧ len ≤ cap ∧ (fl = true → cap = len) := by
            cases hx with
            | sl0 hf => exact ⟨rfl, Nat.zero_le _, hf⟩
            | sl hn hc0 hf => exact ⟨hn, hc0, hf⟩
          obtain ⟨rfl, hcap, hfl⟩ := hlen
          have hr := hrun a xs.length cap cap c1 c2 (by simp; omega) (by simp) (fun _ => rfl) (by simp)
          refine ⟨_, hr, ?_⟩
          rw [cutL_eq l hh xs c1 c2 c3]
          refine sl_cut hx (by omega) (by omega) (by omega) (fun hf => ?_)
          cases hh with
          | none => simp only at hf; have := hfl hf; simp; omega
          | some y => simp at hf
        | _ => cases hx
      · rename_i m' 
        split at h
        case h_2 => cases h
        rename_i y
        simp only [Option.some.injEq, Prod.mk.injEq] at h; obtain ⟨rfl, rfl⟩ := h
        obtain ⟨⟨c1, c2, c3⟩, c4, c5, _⟩ := cutC_all hC
        subst c4; subst c5
        cases x with
        | slice a len cap =>
          have hlen : len = xs.length ∧ len ≤ cap := by
            cases hx with
            | sl0 hf => exact ⟨rfl, Nat.zero_le _⟩
            | sl hn hc0 hf => exact ⟨hn, hc0⟩
          obtain ⟨rfl, hcap⟩ := hlen
          simp only [Option.getD_some] at c2 c3
          have hr := hrun a xs.length cap m'.toNat c1 c2 (by simp) (by simp; omega) (fun h => by simp at h) (by simp)
          refine ⟨_, hr, ?_⟩
          rw [cutL_eq l (some m') xs c1 c2 c3]
          exact sl_cut hx (by simp; omega) (by simp; omega) (by simp) (fun _ => by simp)
        | _ => cases hx
    · -- what lies in a box
      rename_i id ver off len sz fl
      split at h
      · simp only [Option.some.injEq, Prod.mk.injEq] at h; obtain ⟨rfl, rfl⟩ := h
        obtain ⟨⟨c1, c2, c3⟩, c4, _⟩ := cutC_all hC
        subst c4
        cases hx with
        | ms0 =>
          rename_i a
          have hr := hrun a 0 0 0 c1 c2 (by simpa using c3) (by simp) (fun _ => rfl) (by simp)
          have e1 : (hh.getD ((0 : Nat) : Int)).toNat = 0 := by omega
          have e2 : (l.getD 0).toNat = 0 := by omega
          refine ⟨_, hr, ?_⟩
          rw [e1, e2]
          simpa using VRel.ms0
        | ms hρ hcap hn hf =>
          rename_i b o cap
          have hr := hrun (some ⟨b, o + off, none⟩) len cap cap c1 c2 (by simp; omega) (by simp) (fun _ => rfl) (by simp)
          refine ⟨_, hr, ?_⟩
          by_cases hm' : cap = (l.getD 0).toNat
          · have e1 : (hh.getD (len : Int)).toNat - (l.getD 0).toNat = 0 := by omega
            rw [e1, if_pos hm', hm', Nat.sub_self]
            exact .ms0
          · rw [if_neg hm']
            simp only [Option.map_some, Addr.add_lit, Nat.add_assoc]
            obtain ⟨c, t', f, q1, q2⟩ := hcap
            refine .ms hρ ⟨c, t', f, q1, ?_⟩ (by omega) (fun hf' => ?_)
            · have : (l.getD 0).toNat * sz + (cap - (l.getD 0).toNat) * sz = cap * sz := by rw [← Nat.add_mul]; congr 1; omega
              omega
            · cases hh with
              | none => simp only at hf'; have := hf hf'; simp; omega
              | some y => simp at hf'
      · rename_i m'
        split at h
        case h_2 => cases h
        rename_i y
        simp only [Option.some.injEq, Prod.mk.injEq] at h; obtain ⟨rfl, rfl⟩ := h
        obtain ⟨⟨c1, c2, c3⟩, c4, c5, _⟩ := cutC_all hC
        subst c4; subst c5
        simp only [Option.getD_some] at c2 c3
        cases hx with
        | ms0 =>
          rename_i a
          have hr := hrun a 0 0 m'.toNat c1 c2 (by simp) (by simpa using c3) (fun h => by simp at h) (by simp)
          have e1 : m'.toNat = 0 := by omega
          have e2 : (l.getD 0).toNat = 0 := by omega
          refine ⟨_, hr, ?_⟩
          simp only [Option.getD_some, e1, e2]
          simpa using VRel.ms0
        | ms hρ hcap hn hf =>
          rename_i b o cap
          have hr := hrun (some ⟨b, o + off, none⟩) len cap m'.toNat c1 c2 (by simp) (by simp; omega) (fun h => by simp at h) (by simp)
          refine ⟨_, hr, ?_⟩
          simp only [Option.getD_some]
          by_cases hm' : m'.toNat = (l.getD 0).toNat
          · rw [if_pos hm', hm', Nat.sub_self]
            exact .ms0
          · rw [if_neg hm']
            simp only [Option.map_some, Addr.add_lit, Nat.add_assoc]
            obtain ⟨c, t', f, q1, q2⟩ := hcap
            refine .ms hρ ⟨c, t', f, q1, ?_⟩ (by omega) (fun hf' => rfl)
            have : (l.getD 0).toNat * sz + (cap - (l.getD 0).toNat) * sz = cap * sz := by rw [← Nat.add_mul]; congr 1; omega
            have : (m'.toNat - (l.getD 0).toNat) * sz ≤ (cap - (l.getD 0).toNat) * sz := Nat.mul_le_mul_right _ (by omega)
            omega
    · cases h
  · -- an array
    rename_i n e hu
    split at h
    case h_2 => cases h
    rename_i sz hsz
    split at h
    case h_2 => cases h
    split at h
    case h_2 => cases h
    rename_i cur cs ro hbx
    simp only [Option.some.injEq, Prod.mk.injEq] at h; obtain ⟨rfl, rfl⟩ := h
    obtain ⟨⟨c1, c2, c3⟩, c4, c5, c6, _⟩ := cutC_all hC
    cases hm with
    | none =>
    cases hx with
    | ptr hρ =>
      rename_i b o
      have hbr := hinv.cells hbx c4 hρ
      have hb := run_bounds cx.P w r false n n lo hi none l hh none hl hhb .none c1 c2 (by simpa using c3) (by simp) (fun _ => rfl)
      obtain ⟨c, t', lo', hi', q1, q2, q3⟩ := hbr
      have hsz' : cs.length = 0 ∨ o + cs.length ≤ c.size := by
        rcases Nat.eq_zero_or_pos cs.length with h0 | h0
        · exact .inl h0
        · obtain ⟨v, hv, _⟩ := q2 (cs.length - 1) (by omega)
          rcases Nat.lt_or_ge (o + (cs.length - 1)) c.size with h | h
          · right; omega
          · rw [Array.getElem?_eq_none h] at hv; cases hv
      refine ⟨_, by
        simp only [Instr.sliceAt, Instr.sureAddr, Sem.run_bind, run_underlying hu, Result.andThen_ok, Sem.run_pure, hb, run_sizeOf' hsz]
        rfl, ?_⟩
      simp only [Option.getD_none, Int.toNat_natCast]
      by_cases hm' : n = (l.getD 0).toNat
      · have e1 : (hh.getD (n : Int)).toNat - (l.getD 0).toNat = 0 := by omega
        rw [e1, if_pos hm', ← hm', Nat.sub_self]
        exact .ms0
      · rw [if_neg hm', Addr.add_lit, Nat.add_assoc]
        refine .ms hρ ⟨c, t', _, q1, ?_⟩ (by omega) (fun h => by simp at h)
        have h6 : (l.getD 0).toNat * sz + (n - (l.getD 0).toNat) * sz = n * sz := by rw [← Nat.add_mul]; congr 1; omega
        have h7 : 0 < n * sz := Nat.mul_pos (by omega) c6
        omega
  · cases h

end Go.Ab
