/-
  Texts of our own, in one file.
-/
import Derived.Test.YtmdegomejbpldaaGreatDoorGrpC
import Derived.Lib.ItoaNum
section
set_option linter.unusedVariables false
set_option linter.unusedSimpArgs false
set_option maxRecDepth 20000
namespace Go.Proofs.YtmdegomejbpldaaGreatDoor
open Go Go.Ab
def okTx (t : List UInt8) : Prop := ∀ c ∈ t, 32 ≤ c.toNat ∨ c = 9 ∨ c = 10
def ops13 : List (List UInt8) := [wOr, wAnd, [61, 61], [33, 61], [60], [60, 61], wIn, [43], [45], [42], [47, 47], [37]]
def shp (k n : Nat) (t : List UInt8) (m : Nat) (ns : List (List UInt8)) : Prop := match k with
  | 1 => n = 0 ∧ t = [] ∧ m = 0 ∧ ns = []
  | 2 => n = 0 ∧ t = [] ∧ m = 0 ∧ ns = []
  | 3 => n = 0 ∧ t = [] ∧ m = 0 ∧ ns = []
  | 4 => n ≤ 9007199254740991 ∧ t = [] ∧ m = 0 ∧ ns = []
  | 5 => n = 0 ∧ okTx t ∧ m = 0 ∧ ns = []
  | 6 => n = 0 ∧ isNm t = true ∧ m = 0 ∧ ns = []
  | 7 => n = 0 ∧ t = [] ∧ ns = []
  | 8 => n = 0 ∧ t = [] ∧ m % 2 = 0 ∧ ns = []
  | 9 => n = 0 ∧ isNm t = true ∧ (m = 2 ∨ m = 3) ∧ ns = []
  | 10 => n = 0 ∧ t = [] ∧ ns.length + 1 ≤ m ∧ (∀ s ∈ ns, isNm s = true) ∧ ns.Nodup
  | 11 => n = 0 ∧ t = [] ∧ m = 2 ∧ ns = []
  | 12 => n = 0 ∧ t = [] ∧ m = 1 ∧ ns = []
  | 13 => n = 0 ∧ t = [] ∧ m = 1 ∧ ns = []
  | 14 => n = 0 ∧ t ∈ ops13 ∧ m = 2 ∧ ns = []
  | _ => False
inductive Wx (M : Nat) : Ex → Prop
  | mk {k n : Nat} {t : List UInt8} {ks : List Ex} {ns : List (List UInt8)} (h1 : ks.length ≤ M) (h2 : ns.length ≤ M) (h3 : ∀ x ∈ ks, Wx M x) (h4 : shp k n t ks.length ns) : Wx M (.mk k n t ks ns)
structure TokW (t : Tok) : Prop where
  name : t.kind = 1 → isNm t.text = true
  num : t.num ≤ 9007199254740991
  text : t.kind = 3 → okTx t.text
theorem esc_ok {c e : UInt8} (h : esc c = some e) : 32 ≤ e.toNat ∨ e = 9 ∨ e = 10 := by
  unfold esc at h
  split at h
  · cases h; right; right; rfl
  · split at h
    · cases h; right; left; rfl
    · split at h
      · cases h; left; decide
      · split at h
        · cases h; left; decide
        · cases h
theorem quoteS_ok : ∀ (n : Nat) (s : List UInt8), s.length ≤ n → ∀ {i : Nat} {b b' : List UInt8} {j : Nat}, okTx b → quoteS s i b = .inr (b', j) → okTx b'
  | 0, s, hn, i, b, b', j, hb, h => by
    have : s = [] := List.length_eq_zero_iff.1 (by omega)
    subst this; simp [quoteS] at h
  | n + 1, [], hn, i, b, b', j, hb, h => by simp [quoteS] at h
  | n + 1, c :: r, hn, i, b, b', j, hb, h => by
    have snoc : ∀ {d : UInt8}, (32 ≤ d.toNat ∨ d = 9 ∨ d = 10) → okTx (b ++ [d]) := fun hd x hx => by
      rcases List.mem_append.1 hx with hx | hx
      · exact hb x hx
      · rw [List.mem_singleton] at hx; rw [hx]; exact hd
    simp only [List.length_cons] at hn
    rw [quoteS.eq_def] at h
    simp only at h
    split at h
    · cases h
    · rename_i h32
      split at h
      · cases h; exact hb
      · split at h
        · exact quoteS_ok n r (by omega) (snoc (.inl (by omega))) h
        · split at h
          · cases h
          · rename_i d r
            simp only [List.length_cons] at hn
            split at h
            · cases h
            · rename_i e he
              exact quoteS_ok n r (by omega) (snoc (esc_ok he)) h
theorem cut_let {s : List UInt8} {i : Nat} (hi : i < s.length) (h1 : isLet (s.getD i 0) = true) : (cutT s i (stopAt (fun c => isLet c || isDg c) s i)) ≠ [] ∧ isLet ((cutT s i (stopAt (fun c => isLet c || isDg c) s i)).getD 0 0) = true ∧ ∀ c ∈ cutT s i (stopAt (fun c => isLet c || isDg c) s i), (isLet c || isDg c) = true := by
  have e : cutT s i (stopAt (fun c => isLet c || isDg c) s i) = (s.drop i).takeWhile (fun c => isLet c || isDg c) := by
    unfold cutT stopAt
    rw [List.drop_take, Nat.add_sub_cancel_left]
    exact (List.prefix_iff_eq_take.1 (List.takeWhile_prefix _)).symm
  rw [e, List.drop_eq_getElem_cons hi]
  have hgd : s.getD i 0 = s[i] := by simp [List.getD, hi]
  rw [hgd] at h1
  rw [List.takeWhile_cons, if_pos (by rw [h1]; rfl)]
  refine ⟨by simp, h1, fun c hc => ?_⟩
  rcases List.mem_cons.1 hc with hc | hc
  · rw [hc, h1]; rfl
  · exact mem_tw hc
theorem splitS_w (s : List UInt8) : ∀ t ∈ (splitS s).1, TokW t := by
  refine splitS_all (fun i o t j o' hi h => ?_) (fun _ => ⟨nofun, Nat.zero_le _, nofun⟩) (fun _ => ⟨nofun, Nat.zero_le _, nofun⟩) (fun _ => ⟨nofun, Nat.zero_le _, nofun⟩)
  have hg := oneS_good hi h
  refine ⟨fun hk => ?_, hg.num, fun hk => ?_⟩
  · obtain ⟨i', hi', h1, h2, h3⟩ := hg.name hk
    have := cut_let hi' h1
    rw [← h2] at this
    exact (isNm_iff _).2 ⟨this.1, this.2.1, this.2.2, h3⟩
  · unfold oneS at h
    split at h
    · cases h
      exfalso; revert hk; show (if _ then 5 else 1) = 3 → False; split <;> omega
    · split at h
      · split at h
        · cases h
        · cases h; cases hk
      · split at h
        · split at h
          · cases h
          · rename_i hq
            cases h
            exact quoteS_ok _ _ (Nat.le_refl _) (by intro c hc; cases hc) hq
        · split at h
          · cases h
          · have fin : ∀ {x : Flt ⊕ (Tok × Nat × Nat)} {g : List UInt8} {jj oo : Nat}, x = .inr (⟨4, g, 0, i⟩, jj, oo) → x = .inr (t, j, o') → False := fun h1 h2 => by
              rw [h1] at h2; cases h2; cases hk
            split at h
            · split at h
              · cases h
              · exact (fin rfl h).elim
            · split at h
              · split at h
                · cases h
                · exact (fin rfl h).elim
              · exact (fin rfl h).elim
def Qx {α : Type} (l : List Tok) (P : α → Prop) (x : Pr α) : Prop := ∀ y u, x = .ok y u → P y ∧ u <:+ l
section
variable {α β : Type} {l : List Tok} {P : α → Prop} {P' : β → Prop}
theorem Qx.out : Qx l P (.out : Pr α) := nofun
theorem Qx.bad {e : Nat} {u : List Tok} : Qx l P (.bad e u : Pr α) := nofun
theorem Qx.ok {u : List Tok} {x : α} (h : P x) (hu : u <:+ l) : Qx l P (.ok x u) := by intro _ _ h'; cases h'; exact ⟨h, hu⟩
theorem Qx.bind {x : Pr α} {f : α → List Tok → Pr β} (h : Qx l P x) (hf : ∀ y u, P y → u <:+ l → Qx l P' (f y u)) : Qx l P' (x.bind f) := by
  cases x with
  | out => exact .out
  | bad e v => exact .bad
  | ok y v => exact hf y v (h y v rfl).1 (h y v rfl).2
theorem Qx.ite {x y : Pr α} {c : Prop} [Decidable c] (h : c → Qx l P x) (h' : ¬ c → Qx l P y) : Qx l P (if c then x else y) := by
  by_cases hc : c
  · rw [if_pos hc]; exact h hc
  · rw [if_neg hc]; exact h' hc
end
theorem mustS_q {l r : List Tok} (s : List UInt8) (h : r <:+ l) : Qx l (fun _ => True) (mustS s r) := fun y u hx => ⟨trivial, (mustS_s s r y u hx).trans h⟩
theorem takeS_q {l r : List Tok} (hl : ∀ t ∈ l, TokW t) (k : Nat) (h : r <:+ l) : Qx l (fun t => TokW t ∧ t.kind = k) (takeS k r) := fun y u hx => by
  refine ⟨?_, (takeS_s k r y u hx).trans h⟩
  unfold takeS at hx
  split at hx
  · cases hx
  · rename_i t v
    split at hx
    · cases hx
      exact ⟨hl _ (h.subset (List.mem_cons_self ..)), by assumption⟩
    · cases hx
structure AllQ (M : Nat) (l : List Tok) (F : Nat) : Prop where
  expr : ∀ n r, r <:+ l → Qx l (Wx M) (exprS F n r)
  lev : ∀ k n r, r <:+ l → Qx l (Wx M) (levS F k n r)
  loop : ∀ k n x r, Wx M x → r <:+ l → Qx l (Wx M) (loopS F k n x r)
  post : ∀ n x r, Wx M x → r <:+ l → Qx l (Wx M) (postS F n x r)
  call : ∀ n ks ns r, (∀ x ∈ ks, Wx M x) → ns.length + 1 ≤ ks.length → ks.length + F ≤ M → (∀ s ∈ ns, isNm s = true) → ns.Nodup → r <:+ l → Qx l (Wx M) (callS F n ks ns r)
  atom : ∀ n r, r <:+ l → Qx l (Wx M) (atomS F n r)
  list : ∀ n r, r <:+ l → Qx l (Wx M) (listS F n r)
  item : ∀ n ks r, (∀ x ∈ ks, Wx M x) → ks.length + F ≤ M → r <:+ l → Qx l (Wx M) (itemS F n ks r)
  dict : ∀ n ks r, (∀ x ∈ ks, Wx M x) → ks.length % 2 = 0 → ks.length + 2 * F ≤ M → r <:+ l → Qx l (Wx M) (dictS F n ks r)
theorem isOf_ops {k : Nat} {r : List Tok} (h : isOf (binS k) r = true) : hdT r ∈ ops13 := by
  unfold isOf at h
  simp only [Bool.and_eq_true] at h
  have := List.contains_iff_mem.1 h.2
  have key : ∀ k, ∀ s ∈ binS k, s ∈ ops13 := by
    intro k
    match k with
    | 0 => decide
    | 1 => decide
    | 2 => decide
    | 3 => decide
    | 4 => decide
    | k + 5 => intro s hs; cases hs
  exact key k _ this
theorem wx_snoc {M : Nat} {ks : List Ex} {y : Ex} (h : ∀ x ∈ ks, Wx M x) (hy : Wx M y) : ∀ x ∈ ks ++ [y], Wx M x := fun x hx => by
  rcases List.mem_append.1 hx with hx | hx
  · exact h x hx
  · rw [List.mem_singleton] at hx; rw [hx]; exact hy
theorem wx_one {M : Nat} {y : Ex} (hy : Wx M y) : ∀ x ∈ [y], Wx M x := fun x hx => by
  rw [List.mem_singleton] at hx; rw [hx]; exact hy
theorem wx_two {M : Nat} {x y : Ex} (hx : Wx M x) (hy : Wx M y) : ∀ z ∈ [x, y], Wx M z := fun z hz => by
  rcases List.mem_cons.1 hz with h | h
  · rw [h]; exact hx
  · exact wx_one hy z h
theorem wx_three {M : Nat} {x y z : Ex} (hx : Wx M x) (hy : Wx M y) (hz : Wx M z) : ∀ w ∈ [x, y, z], Wx M w := fun w hw => by
  rcases List.mem_cons.1 hw with h | h
  · rw [h]; exact hx
  · exact wx_two hy hz w h
theorem wx_nil {M : Nat} : ∀ x ∈ ([] : List Ex), Wx M x := nofun
theorem name_tok {l r : List Tok} (hl : ∀ t ∈ l, TokW t) (h : r <:+ l) (hn : nameS r = true) : isNm (hdT r) = true := by
  unfold nameS at hn
  simp only [Bool.and_eq_true, beq_iff_eq] at hn
  cases r with
  | nil => cases hn.1.1
  | cons t u => exact (hl t (h.subset (List.mem_cons_self ..))).name hn.1.1
theorem allQ (M : Nat) (l : List Tok) (hl : ∀ t ∈ l, TokW t) (F : Nat) : 2 * F + 10 ≤ M → AllQ M l F := by
  induction F with
  | zero => intro _; exact ⟨fun _ _ _ => .out, fun _ _ _ _ => .out, fun _ _ _ _ _ _ => .out, fun _ _ _ _ _ => .out, fun _ _ _ _ _ _ _ _ _ _ => .out, fun _ _ _ => .out, fun _ _ _ => .out, fun _ _ _ _ _ _ => .out, fun _ _ _ _ _ _ _ => .out⟩
  | succ F ih =>
    intro hM
    have ih := ih (by omega)
    have bin : ∀ {k n : Nat} {r : List Tok}, r <:+ l → Qx l (Wx M) ((levS F (k + 1) n r).bind fun x r => loopS F k n x r) := fun {k n r} hr => (ih.lev (k + 1) n r hr).bind fun y u hy hu => ih.loop k n y u hy hu
    refine ⟨?_, ?_, ?_, ?_, ?_, ?_, ?_, ?_, ?_⟩
    · intro n r hr
      rw [exprS]
      exact .ite (fun _ => .bad) (fun _ => ih.lev 0 _ r hr)
    · intro k n r hr
      unfold levS
      split
      · exact .ite (fun _ => .ite (fun _ => .bad) (fun _ => (ih.lev 2 _ r.tail ((suf_tl r).trans hr)).bind fun y u hy hu => .ok (.mk (by simp; omega) (by simp) (wx_one hy) ⟨rfl, rfl, rfl, rfl⟩) hu))
          (fun _ => (ih.lev 3 n r hr).bind fun y u hy hu => .ite (fun ho => (ih.lev 3 n u.tail ((suf_tl u).trans hu)).bind fun z v hz hv => .ok (.mk (by simp; omega) (by simp) (wx_two hy hz) ⟨rfl, isOf_ops ho, rfl, rfl⟩) hv) (fun _ => .ok hy hu))
      · exact .ite (fun _ => .ite (fun _ => .bad) (fun _ => (ih.lev 5 _ r.tail ((suf_tl r).trans hr)).bind fun y u hy hu => .ok (.mk (by simp; omega) (by simp) (wx_one hy) ⟨rfl, rfl, rfl, rfl⟩) hu))
          (fun _ => (ih.atom n r hr).bind fun y u hy hu => ih.post n y u hy hu)
      · exact bin hr
    · intro k n x r hx hr
      rw [loopS]
      exact .ite (fun ho => (ih.lev (k + 1) n r.tail ((suf_tl r).trans hr)).bind fun y u hy hu => ih.loop k n _ u (.mk (by simp; omega) (by simp) (wx_two hx hy) ⟨rfl, isOf_ops ho, rfl, rfl⟩) hu) (fun _ => .ok hx hr)
    · intro n x r hx hr
      rw [postS]
      exact .ite (fun _ => (ih.call n _ _ r.tail (wx_one hx) (by simp) (by simp; omega) (by nofun) (by simp) ((suf_tl r).trans hr)).bind fun y u hy hu => ih.post n _ u hy hu)
        (fun _ => .ite (fun _ => (ih.expr n r.tail ((suf_tl r).trans hr)).bind fun y u hy hu => (mustS_q _ hu).bind fun _ v _ hv => ih.post n _ v (.mk (by simp; omega) (by simp) (wx_two hx hy) ⟨rfl, rfl, rfl, rfl⟩) hv) (fun _ => .ok hx hr))
    · intro n ks ns r hks hlen hF hns hnd hr
      rw [callS]
      have hm : Qx l (fun _ => True) (if ks.length > 1 then mustS [44] r else .ok () r) := .ite (fun _ => mustS_q _ hr) (fun _ => .ok trivial hr)
      refine .ite (fun _ => .ok (.mk (by omega) (by omega) hks ⟨rfl, rfl, hlen, hns, hnd⟩) ((suf_tl r).trans hr)) (fun _ => hm.bind fun _ u _ hu => .ite (fun hn => .ite (fun _ => .bad) (fun hc => ?_)) (fun _ => .ite (fun _ => .bad) (fun h0 => ?_)))
      · have hnm := name_tok hl hu hn
        refine (ih.expr n u.tail.tail ((suf_tl2 u).trans hu)).bind fun y v hy hv => ih.call n _ _ v (wx_snoc hks hy) (by simp; omega) (by simp; omega) (fun s hs => ?_) ?_ hv
        · rcases List.mem_append.1 hs with hs | hs
          · exact hns s hs
          · rw [List.mem_singleton] at hs; rw [hs]; exact hnm
        · refine List.nodup_append.2 ⟨hnd, by simp, fun a ha b hb => ?_⟩
          rw [List.mem_singleton] at hb
          rw [hb]
          rintro rfl
          exact hc (List.contains_iff_mem.2 ha)
      · exact (ih.expr n u hu).bind fun y v hy hv => ih.call n _ _ v (wx_snoc hks hy) (by simp; omega) (by simp; omega) hns hnd hv
    · intro n r hr
      cases r with
      | nil => exact .bad
      | cons t u =>
        have hu : u <:+ l := (List.suffix_cons t u).trans hr
        have ht := hl t (hr.subset (List.mem_cons_self ..))
        exact .ite (fun h => .ok (.mk (by simp) (by simp) wx_nil ⟨rfl, ht.name h, rfl, rfl⟩) hu) (fun _ => .ite (fun _ => .ok (.mk (by simp) (by simp) wx_nil ⟨ht.num, rfl, rfl, rfl⟩) hu) (fun _ => .ite (fun h => .ok (.mk (by simp) (by simp) wx_nil ⟨rfl, ht.text h, rfl, rfl⟩) hu)
          (fun _ => .ite (fun _ => .ok (.mk (by simp) (by simp) wx_nil ⟨rfl, rfl, rfl, rfl⟩) hu) (fun _ => .ite (fun _ => .ok (.mk (by simp) (by simp) wx_nil ⟨rfl, rfl, rfl, rfl⟩) hu) (fun _ => .ite (fun _ => .ok (.mk (by simp) (by simp) wx_nil ⟨rfl, rfl, rfl, rfl⟩) hu)
          (fun _ => .ite (fun _ => (ih.expr n u hu).bind fun y v hy hv => (mustS_q _ hv).bind fun _ w _ hw => .ok hy hw)
          (fun _ => .ite (fun _ => ih.list n u hu) (fun _ => .ite (fun _ => ih.dict n _ u wx_nil rfl (by simp; omega) hu) (fun _ => .bad)))))))))
    · intro n r hr
      rw [listS]
      refine .ite (fun _ => .ok (.mk (by simp) (by simp) wx_nil ⟨rfl, rfl, rfl⟩) ((suf_tl r).trans hr)) (fun _ => (ih.expr n r hr).bind fun y u hy hu => .ite (fun _ => ?_) (fun _ => ih.item n _ u (wx_one hy) (by simp; omega) hu))
      refine (takeS_q hl 1 ((suf_tl u).trans hu)).bind fun t v ht hv => (mustS_q _ hv).bind fun _ w _ hw => (ih.expr n w hw).bind fun z x hz hx => .ite (fun _ => (ih.expr n x.tail ((suf_tl x).trans hx)).bind fun q p hq hp => (mustS_q _ hp).bind fun _ o _ ho => ?_) (fun _ => (mustS_q _ hx).bind fun _ o _ ho => ?_)
      · exact .ok (.mk (by simp; omega) (by simp) (wx_three hy hz hq) ⟨rfl, ht.1.name ht.2, .inr rfl, rfl⟩) ho
      · exact .ok (.mk (by simp; omega) (by simp) (wx_two hy hz) ⟨rfl, ht.1.name ht.2, .inl rfl, rfl⟩) ho
    · intro n ks r hks hF hr
      rw [itemS]
      exact .ite (fun _ => .ok (.mk (by omega) (by simp) hks ⟨rfl, rfl, rfl⟩) ((suf_tl r).trans hr)) (fun _ => (mustS_q _ hr).bind fun _ u _ hu => (ih.expr n u hu).bind fun y v hy hv => ih.item n _ v (wx_snoc hks hy) (by simp; omega) hv)
    · intro n ks r hks he hF hr
      rw [dictS]
      have hm : Qx l (fun _ => True) (if ks.length > 0 then mustS [44] r else .ok () r) := .ite (fun _ => mustS_q _ hr) (fun _ => .ok trivial hr)
      exact .ite (fun _ => .ok (.mk (by omega) (by simp) hks ⟨rfl, rfl, he, rfl⟩) ((suf_tl r).trans hr)) (fun _ => hm.bind fun _ u _ hu => (ih.expr n u hu).bind fun y v hy hv => (mustS_q _ hv).bind fun _ w _ hw => (ih.expr n w hw).bind fun z x hz hx => ih.dict n _ x (wx_snoc (wx_snoc hks hy) hz) (by simp; omega) (by simp; omega) hx)
def shs (M k : Nat) (t : List UInt8) (ns : List (List UInt8)) (x : Ex) (b e : List St) : Prop := match k with
  | 1 => t = [] ∧ ns = [] ∧ x = .zero ∧ b = [] ∧ e = []
  | 2 => t = [] ∧ ns = [] ∧ Wx M x ∧ b = [] ∧ e = []
  | 3 => isNm t = true ∧ ns = [] ∧ Wx M x ∧ b = [] ∧ e = []
  | 4 => okTx t ∧ (ns ≠ [] ∧ ∀ s ∈ ns, isNm s = true) ∧ x = .zero ∧ b = [] ∧ e = []
  | 5 => t = [] ∧ ns = [] ∧ Wx M x ∧ b = [] ∧ e = []
  | 6 => isNm t = true ∧ ((∀ s ∈ ns, isNm s = true) ∧ ns.Nodup) ∧ x = .zero ∧ e = []
  | 7 => t = [] ∧ ns = [] ∧ Wx M x
  | 8 => isNm t = true ∧ ns = [] ∧ Wx M x ∧ e = []
  | _ => False
inductive Ws (M : Nat) : St → Prop
  | mk {k : Nat} {t : List UInt8} {ns : List (List UInt8)} {x : Ex} {b e : List St} (h1 : ns.length ≤ M) (h2 : b.length ≤ M) (h3 : e.length ≤ M) (h4 : ∀ s ∈ b, Ws M s) (h5 : ∀ s ∈ e, Ws M s) (h6 : shs M k t ns x b e) : Ws M (.mk k t ns x b e)
theorem paramS_q {M : Nat} {l : List Tok} (hl : ∀ t ∈ l, TokW t) : ∀ (F : Nat) (ns : List (List UInt8)) (r : List Tok), r <:+ l → ns.length + F ≤ M → (∀ s ∈ ns, isNm s = true) → ns.Nodup → Qx l (fun ns => ns.length ≤ M ∧ (∀ s ∈ ns, isNm s = true) ∧ ns.Nodup) (paramS F ns r)
  | 0, _, _, _, _, _, _ => .out
  | F + 1, ns, r, hr, hF, hns, hnd => by
    rw [paramS]
    refine .ite (fun _ => .bad) (fun hc => ?_)
    intro y u hx
    cases ht : takeS 1 r with
    | out => rw [ht] at hx; cases hx
    | bad k v => rw [ht] at hx; cases hx
    | ok t v =>
      rw [ht] at hx
      obtain ⟨⟨hw, hk⟩, hv⟩ := takeS_q hl 1 hr t v ht
      have htx : hdK r = 1 ∧ hdT r = t.text := by
        unfold takeS at ht
        split at ht
        · cases ht
        · split at ht
          · cases ht; exact ⟨hk, rfl⟩
          · cases ht
      rw [htx.1, htx.2] at hc
      have hc : t.text ∉ ns := fun h => hc (by rw [List.contains_iff_mem.2 h]; rfl)
      have h1 : ∀ s ∈ ns ++ [t.text], isNm s = true := fun s hs => by
        rcases List.mem_append.1 hs with hs | hs
        · exact hns s hs
        · rw [List.mem_singleton] at hs; rw [hs]; exact hw.name hk
      have h2 : (ns ++ [t.text]).Nodup := by
        refine List.nodup_append.2 ⟨hnd, by simp, fun a ha b hb => ?_⟩
        rw [List.mem_singleton] at hb
        rw [hb]
        rintro rfl
        exact hc ha
      have hx : (if isS [44] v then paramS F (ns ++ [t.text]) v.tail else .ok (ns ++ [t.text]) v) = .ok y u := hx
      split at hx
      · exact paramS_q hl F _ _ ((suf_tl v).trans hv) (by simp; omega) h1 h2 y u hx
      · cases hx; exact ⟨⟨by simp; omega, h1, h2⟩, hv⟩
theorem namesS_q {M : Nat} {l : List Tok} (hl : ∀ t ∈ l, TokW t) : ∀ (F : Nat) (ns : List (List UInt8)) (r : List Tok), r <:+ l → ns.length + F ≤ M → (∀ s ∈ ns, isNm s = true) → Qx l (fun ns => ns.length ≤ M ∧ ns ≠ [] ∧ ∀ s ∈ ns, isNm s = true) (namesS F ns r)
  | 0, _, _, _, _, _ => .out
  | F + 1, ns, r, hr, hF, hns => by
    rw [namesS]
    refine .ite (fun _ => .bad) (fun hc => ?_)
    intro y u hx
    cases ht : takeS 3 r with
    | out => rw [ht] at hx; cases hx
    | bad k v => rw [ht] at hx; cases hx
    | ok t v =>
      rw [ht] at hx
      obtain ⟨⟨hw, hk⟩, hv⟩ := takeS_q hl 3 hr t v ht
      have htx : hdK r = 3 ∧ hdT r = t.text := by
        unfold takeS at ht
        split at ht
        · cases ht
        · split at ht
          · cases ht; exact ⟨hk, rfl⟩
          · cases ht
      rw [htx.1, htx.2] at hc
      have hnm : isNm t.text = true := by
        cases h : isNm t.text with
        | true => rfl
        | false => rw [h] at hc; exact absurd rfl hc
      have h1 : ∀ s ∈ ns ++ [t.text], isNm s = true := fun s hs => by
        rcases List.mem_append.1 hs with hs | hs
        · exact hns s hs
        · rw [List.mem_singleton] at hs; rw [hs]; exact hnm
      have hx : (if isS [44] v then namesS F (ns ++ [t.text]) v.tail else .ok (ns ++ [t.text]) v) = .ok y u := hx
      split at hx
      · exact namesS_q hl F _ _ ((suf_tl v).trans hv) (by simp; omega) h1 y u hx
      · cases hx; exact ⟨⟨by simp; omega, by simp, h1⟩, hv⟩
theorem smallS_q {M : Nat} {l : List Tok} (hl : ∀ t ∈ l, TokW t) (F b d : Nat) (r : List Tok) (hF : 2 * F + 10 ≤ M) (hr : r <:+ l) : Qx l (Ws M) (smallS F b d r) := by
  have hA := allQ M l hl F hF
  have nilB : ∀ s ∈ ([] : List St), Ws M s := nofun
  unfold smallS loadS
  refine .ite (fun _ => .ok (.mk (by simp) (by simp) (by simp) nilB nilB ⟨rfl, rfl, rfl, rfl, rfl⟩) ((suf_tl r).trans hr)) (fun _ => .ite (fun _ => .ite (fun _ => .bad) (fun _ => .ite (fun _ => ?_) (fun _ => ?_))) (fun _ => .ite (fun _ => .ite (fun _ => .bad) (fun _ => ?_)) (fun _ => .ite (fun hn => ?_) (fun _ => ?_))))
  · exact (hA.expr 0 r.tail ((suf_tl r).trans hr)).bind fun x u hx hu => .ok (.mk (by simp) (by simp) (by simp) nilB nilB ⟨rfl, rfl, hx, rfl, rfl⟩) hu
  · exact .ok (.mk (by simp) (by simp) (by simp) nilB nilB ⟨rfl, rfl, .mk (by simp) (by simp) wx_nil ⟨rfl, rfl, rfl, rfl⟩, rfl, rfl⟩) ((suf_tl r).trans hr)
  · exact (mustS_q _ ((suf_tl r).trans hr)).bind fun _ u _ hu => (takeS_q hl 3 hu).bind fun t v ht hv => (mustS_q _ hv).bind fun _ w _ hw => (namesS_q (M := M) hl F [] w hw (by simp; omega) (by nofun)).bind fun ns x hns hx => (mustS_q _ hx).bind fun _ y _ hy => .ok (.mk hns.1 (by simp) (by simp) nilB nilB ⟨ht.1.text ht.2, ⟨hns.2.1, hns.2.2⟩, rfl, rfl, rfl⟩) hy
  · exact (hA.expr 0 r.tail.tail ((suf_tl2 r).trans hr)).bind fun x u hx hu => .ok (.mk (by simp) (by simp) (by simp) nilB nilB ⟨name_tok hl hr hn, rfl, hx, rfl, rfl⟩) hu
  · exact (hA.expr 0 r hr).bind fun x u hx hu => .ok (.mk (by simp) (by simp) (by simp) nilB nilB ⟨rfl, rfl, hx, rfl, rfl⟩) hu
structure AllQS (M : Nat) (l : List Tok) (F : Nat) : Prop where
  stmts : ∀ top b d ls r, (∀ s ∈ ls, Ws M s) → ls.length + F ≤ M → r <:+ l → Qx l (fun ls => ls.length ≤ M ∧ ∀ s ∈ ls, Ws M s) (stmtsS F top b d ls r)
  block : ∀ b d r, r <:+ l → Qx l (fun ls => ls.length ≤ M ∧ ∀ s ∈ ls, Ws M s) (blockS F b d r)
  stmt : ∀ b d r, r <:+ l → Qx l (Ws M) (stmtS F b d r)
theorem allQS (M : Nat) (l : List Tok) (hl : ∀ t ∈ l, TokW t) (F : Nat) : 2 * F + 10 ≤ M → AllQS M l F := by
  induction F with
  | zero => intro _; exact ⟨fun _ _ _ _ _ _ _ _ => .out, fun _ _ _ _ => .out, fun _ _ _ _ => .out⟩
  | succ F ih =>
    intro hM
    have ih := ih (by omega)
    have hA := allQ M l hl F (by omega)
    have nilB : ∀ s ∈ ([] : List St), Ws M s := nofun
    refine ⟨?_, ?_, ?_⟩
    · intro top b d ls r hls hF hr
      rw [stmtsS]
      refine .ite (fun _ => .ok ⟨by omega, hls⟩ hr) (fun _ => (ih.stmt b d r hr).bind fun s u hs hu => ih.stmts top b d _ u (fun x hx => ?_) (by simp; omega) hu)
      rcases List.mem_append.1 hx with hx | hx
      · exact hls x hx
      · rw [List.mem_singleton] at hx; rw [hx]; exact hs
    · intro b d r hr
      rw [blockS]
      exact (mustS_q _ hr).bind fun _ u _ hu => (takeS_q hl _ hu).bind fun _ v _ hv => (takeS_q hl _ hv).bind fun _ w _ hw => (ih.stmts false _ _ _ w nilB (by simp; omega) hw).bind fun ls x hls hx => (takeS_q hl _ hx).bind fun _ y _ hy => .ok hls hy
    · intro b d r hr
      rw [stmtS]
      refine .ite (fun _ => .ite (fun _ => .bad) (fun _ => (takeS_q hl 1 ((suf_tl r).trans hr)).bind fun t u ht hu => (mustS_q _ hu).bind fun _ v _ hv => ?_)) (fun _ => .ite (fun _ => ?_) (fun _ => .ite (fun _ => ?_) (fun _ => ?_)))
      · have hm : Qx l (fun ns => ns.length ≤ M ∧ (∀ s ∈ ns, isNm s = true) ∧ ns.Nodup) (if hdK v = 1 then paramS F [] v else .ok [] v) := .ite (fun _ => paramS_q (M := M) hl F [] v hv (by simp; omega) (by nofun) (by simp)) (fun _ => .ok ⟨by simp, by nofun, by simp⟩ hv)
        exact hm.bind fun ns w hns hw => (mustS_q _ hw).bind fun _ x _ hx => (ih.block _ _ x hx).bind fun ls y hls hy => .ok (.mk hns.1 hls.1 (by simp) hls.2 nilB ⟨ht.1.name ht.2, ⟨hns.2.1, hns.2.2⟩, rfl, rfl⟩) hy
      · refine (hA.expr 0 _ ((suf_tl r).trans hr)).bind fun x u hx hu => (ih.block _ _ u hu).bind fun ls v hls hv => .ite (fun _ => (ih.block _ _ v.tail ((suf_tl v).trans hv)).bind fun ms w hms hw => ?_) (fun _ => ?_)
        · exact .ok (.mk (by simp) hls.1 hms.1 hls.2 hms.2 ⟨rfl, rfl, hx⟩) hw
        · exact .ok (.mk (by simp) hls.1 (by simp) hls.2 nilB ⟨rfl, rfl, hx⟩) hv
      · exact (takeS_q hl 1 ((suf_tl r).trans hr)).bind fun t u ht hu => (mustS_q _ hu).bind fun _ v _ hv => (hA.expr 0 v hv).bind fun x w hx hw => (ih.block _ _ w hw).bind fun ls y hls hy => .ok (.mk (by simp) hls.1 (by simp) hls.2 nilB ⟨ht.1.name ht.2, rfl, hx, rfl⟩) hy
      · exact (smallS_q hl F b d r (by omega) hr).bind fun s u hs hu => (takeS_q hl _ hu).bind fun _ v _ hv => .ok hs hv
theorem parseS_w (s : List UInt8) : (parseS s).1.length ≤ 800000 ∧ ∀ x ∈ (parseS s).1, Ws 800000 x := by
  have hl := splitS_w s
  have hz := splitS_size s
  unfold parseS
  generalize splitS s = y at hl hz ⊢
  obtain ⟨l, f⟩ := y
  have hz : l.length ≤ 24040 := hz
  have h := (allQS 800000 l hl (fuelS l) (by unfold fuelS; omega)).stmts true 0 0 [] l nofun (by unfold fuelS; simp; omega) (List.suffix_refl _)
  simp only
  split
  · exact ⟨Nat.zero_le _, nofun⟩
  · split
    · rename_i hx; exact (h _ _ hx).1
    · exact ⟨Nat.zero_le _, nofun⟩
    · exact ⟨Nat.zero_le _, nofun⟩
end Go.Proofs.YtmdegomejbpldaaGreatDoor
end
section
set_option linter.unusedVariables false
set_option linter.unusedSimpArgs false
set_option maxRecDepth 20000
namespace Go.Proofs.YtmdegomejbpldaaGreatDoor
open Go Go.Ab
def quoC (c : UInt8) : List UInt8 := if c = 10 then [92, 110] else if c = 9 then [92, 116] else if c = 92 then [92, 92] else if c = 34 then [92, 34] else [c]
def quoT (t : List UInt8) : List UInt8 := [34] ++ t.flatMap quoC ++ [34]
abbrev Pcs := List (List UInt8)
def exK : Ex → Nat | .mk k _ _ _ _ => k
def apart (x : Ex) : Bool := exK x == 12 || exK x == 13 || exK x == 14
def eachA (sep : List UInt8) (args : List Pcs) : Pcs := (args.mapIdx fun i p => (if 0 < i then [sep] else []) ++ p).flatten
def sepD (i : Nat) : List UInt8 := if i % 2 = 0 then [44, 32] else [58, 32]
def dictA (w : List (Bool × Pcs)) : List Pcs := w.mapIdx fun i p => (if 0 < i then [sepD i] else []) ++ p.2
def callPs (ns : List (List UInt8)) (w : List (Bool × Pcs)) : List Pcs := w.mapIdx fun i p => (if w.length - ns.length ≤ i then [ns.getD (i - (w.length - ns.length)) [], [61]] else []) ++ p.2
def plW (w : List (Bool × Pcs)) (i : Nat) : Pcs := (w.getD i (false, [])).2
def brk (b : Bool) (p : Pcs) : Pcs := if b then [[40]] ++ p ++ [[41]] else p
def inW (w : List (Bool × Pcs)) (i : Nat) : Pcs := brk (w.getD i (false, [])).1 (w.getD i (false, [])).2
def exB' (k n : Nat) (t : List UInt8) (ns : List (List UInt8)) (w : List (Bool × Pcs)) : Pcs := match k with
  | 1 => [wNone]
  | 2 => [wTrue]
  | 3 => [wFalse]
  | 4 => [Lib.itoa n]
  | 5 => [quoT t]
  | 6 => [t]
  | 7 => [[91]] ++ eachA [44, 32] (w.map (·.2)) ++ [[93]]
  | 8 => [[123]] ++ eachA [] (dictA w) ++ [[125]]
  | 9 => [[91]] ++ plW w 0 ++ [[32, 102, 111, 114, 32], t, [32, 105, 110, 32]] ++ plW w 1 ++ (if w.length > 2 then [[32, 105, 102, 32]] ++ plW w 2 else []) ++ [[93]]
  | 10 => inW w 0 ++ [[40]] ++ eachA [44, 32] (callPs ns w.tail) ++ [[41]]
  | 11 => inW w 0 ++ [[91]] ++ plW w 1 ++ [[93]]
  | 12 => [[110, 111, 116, 32]] ++ inW w 0
  | 13 => [[45]] ++ inW w 0
  | 14 => inW w 0 ++ [[32], t, [32]] ++ inW w 1
  | _ => []
mutual
def exW : Ex → Pcs
  | .mk k n t ks ns => exB' k n t ns (exWs ks)
  termination_by structural x => x
def exWs : List Ex → List (Bool × Pcs)
  | [] => []
  | x :: r => (apart x, exW x) :: exWs r
  termination_by structural x => x
end
theorem exWs_map (l : List Ex) : exWs l = l.map fun x => (apart x, exW x) := by
  induction l with
  | nil => rfl
  | cons x r ih => rw [exWs, ih]; rfl
def inP (x : Ex) : Pcs := brk (apart x) (exW x)
def joinT : List (List UInt8) → List UInt8
  | [] => []
  | s :: r => s ++ r.flatMap fun t => [44, 32] ++ t
def nl : List UInt8 := [10]
def tab4 : List UInt8 := [32, 32, 32, 32]
mutual
def stW : St → List UInt8 → Pcs
  | .mk k t ns x b e, i => match k with
    | 1 => [[112, 97, 115, 115, 10]]
    | 2 => [[114, 101, 116, 117, 114, 110, 32]] ++ exW x ++ [nl]
    | 3 => [t, [32, 61, 32]] ++ exW x ++ [nl]
    | 4 => [[108, 111, 97, 100, 40], quoT t] ++ ns.flatMap (fun n => [[44, 32], quoT n]) ++ [[41, 10]]
    | 5 => exW x ++ [nl]
    | 6 => [[100, 101, 102, 32], t, [40], joinT ns, [41]] ++ ([[58, 10]] ++ stWs b (i ++ tab4))
    | 7 => [[105, 102, 32]] ++ exW x ++ ([[58, 10]] ++ stWs b (i ++ tab4)) ++ (if e.length > 0 then [i, wElse] ++ ([[58, 10]] ++ stWs e (i ++ tab4)) else [])
    | 8 => [[102, 111, 114, 32], t, [32, 105, 110, 32]] ++ exW x ++ ([[58, 10]] ++ stWs b (i ++ tab4))
    | _ => []
  termination_by structural s _ => s
def stWs : List St → List UInt8 → Pcs
  | [], _ => []
  | s :: r, i => [i] ++ stW s i ++ stWs r i
  termination_by structural s _ => s
end
def srcT (l : List St) : List UInt8 := (stWs l []).flatten
def canonS (s : List UInt8) : List UInt8 × Flt :=
  if (parseS s).2.1 ≠ 0 then ([], (parseS s).2)
  else if 6000 < (srcT (parseS s).1).length ∨ (parseS (srcT (parseS s).1)).2.1 ≠ 0 then ([], (2, 0)) else (srcT (parseS s).1, (0, 0))
theorem eachA_snoc (sep : List UInt8) (l : List Pcs) (p : Pcs) : eachA sep (l ++ [p]) = eachA sep l ++ ((if 0 < l.length then [sep] else []) ++ p) := by
  unfold eachA
  rw [List.mapIdx_concat, List.flatten_append]; simp
theorem eachA_take (sep : List UInt8) (l : List Pcs) (i : Nat) (h : i < l.length) : eachA sep (l.take (i + 1)) = eachA sep (l.take i) ++ ((if 0 < i then [sep] else []) ++ l[i]) := by
  rw [List.take_succ_eq_append_getElem h, eachA_snoc, List.length_take, Nat.min_eq_left (by omega)]
end Go.Proofs.YtmdegomejbpldaaGreatDoor
end
section
set_option linter.unusedVariables false
set_option linter.unusedSimpArgs false
set_option maxRecDepth 20000
namespace Go.Proofs.YtmdegomejbpldaaGreatDoor
open Go Go.Ab
abbrev Nms := List (List UInt8)
def tG (s : List UInt8) : Tok := ⟨4, s, 0, 0⟩
def tW (s : List UInt8) : Tok := ⟨5, s, 0, 0⟩
def tN (s : List UInt8) : Tok := ⟨1, s, 0, 0⟩
def tI (n : Nat) : Tok := ⟨2, Lib.itoa n, n, 0⟩
def tX (s : List UInt8) : Tok := ⟨3, s, 0, 0⟩
def tO (s : List UInt8) : Tok := if words14.contains s then tW s else tG s
def brkT (b : Bool) (p : List Tok) : List Tok := if b then tG [40] :: (p ++ [tG [41]]) else p
def itemT : List (List Tok) → List Tok
  | [] => []
  | p :: r => tG [44] :: (p ++ itemT r)
def listT : List (List Tok) → List Tok
  | [] => []
  | p :: r => p ++ itemT r
def dictT : Bool → List (List Tok) → List Tok
  | f, a :: b :: r => (if f then [] else [tG [44]]) ++ (a ++ tG [58] :: (b ++ dictT false r))
  | _, _ => []
def argT : List (List Tok) → Nms → List (List Tok)
  | [], _ => []
  | p :: r, ns => if ns.length = r.length + 1 then (tN (ns.headD []) :: tG [61] :: p) :: argT r ns.tail else p :: argT r ns
def plT (w : List (Bool × List Tok)) (i : Nat) : List Tok := (w.getD i (false, [])).2
def inTw (w : List (Bool × List Tok)) (i : Nat) : List Tok := brkT (w.getD i (false, [])).1 (w.getD i (false, [])).2
def exBT (k n : Nat) (t : List UInt8) (ns : Nms) (w : List (Bool × List Tok)) : List Tok := match k with
  | 1 => [tW wNone]
  | 2 => [tW wTrue]
  | 3 => [tW wFalse]
  | 4 => [tI n]
  | 5 => [tX t]
  | 6 => [tN t]
  | 7 => tG [91] :: (listT (w.map (·.2)) ++ [tG [93]])
  | 8 => tG [123] :: (dictT true (w.map (·.2)) ++ [tG [125]])
  | 9 => tG [91] :: (plT w 0 ++ tW wFor :: tN t :: tW wIn :: (plT w 1 ++ ((if w.length > 2 then tW wIf :: plT w 2 else []) ++ [tG [93]])))
  | 10 => inTw w 0 ++ tG [40] :: (listT (argT (w.tail.map (·.2)) ns) ++ [tG [41]])
  | 11 => inTw w 0 ++ tG [91] :: (plT w 1 ++ [tG [93]])
  | 12 => tW wNot :: inTw w 0
  | 13 => tG [45] :: inTw w 0
  | 14 => inTw w 0 ++ tO t :: inTw w 1
  | _ => []
mutual
def exTK : Ex → List Tok
  | .mk k n t ks ns => exBT k n t ns (exTs ks)
  termination_by structural x => x
def exTs : List Ex → List (Bool × List Tok)
  | [] => []
  | x :: r => (apart x, exTK x) :: exTs r
  termination_by structural x => x
end
theorem exTs_map (l : List Ex) : exTs l = l.map fun x => (apart x, exTK x) := by
  induction l with
  | nil => rfl
  | cons x r ih => rw [exTs, ih]; rfl
theorem exTs_snd (l : List Ex) : (exTs l).map (·.2) = l.map exTK := by rw [exTs_map, List.map_map]; rfl
def inT (x : Ex) : List Tok := brkT (apart x) (exTK x)
theorem inTw_at {l : List Ex} {i : Nat} (h : i < l.length) : inTw (exTs l) i = inT l[i] := by
  unfold inTw inT
  rw [exTs_map]
  simp [List.getD, h]
def FstB (b : Bool) (t : Tok) : Prop := t.kind = 1 ∨ t.kind = 2 ∨ t.kind = 3 ∨ (t.kind = 5 ∧ t.text ∈ [wNone, wTrue, wFalse]) ∨ (t.kind = 4 ∧ t.text ∈ [[40], [91], [123]]) ∨ (b = true ∧ ((t.kind = 5 ∧ t.text = wNot) ∨ (t.kind = 4 ∧ t.text = [45])))
theorem FstB.up {b : Bool} {t : Tok} (h : FstB false t) : FstB b t := by
  rcases h with h | h | h | h | h | ⟨h, _⟩
  · exact .inl h
  · exact .inr (.inl h)
  · exact .inr (.inr (.inl h))
  · exact .inr (.inr (.inr (.inl h)))
  · exact .inr (.inr (.inr (.inr (.inl h))))
  · cases h
theorem FstB.no {b : Bool} {t : Tok} (h : FstB b t) (r : List Tok) {s : List UInt8} (hs : s ∉ [wNone, wTrue, wFalse, [40], [91], [123]]) (hs2 : b = true → s ≠ wNot ∧ s ≠ [45]) : isS s (t :: r) = false := by
  show ((t.kind == 4 || t.kind == 5) && t.text == s) = false
  rcases h with h | h | h | ⟨h, h2⟩ | ⟨h, h2⟩ | ⟨hb, ⟨h, h2⟩ | ⟨h, h2⟩⟩
  · rw [h]; rfl
  · rw [h]; rfl
  · rw [h]; rfl
  · have : t.text ≠ s := fun e => hs (by subst e; exact List.mem_append_left [[40], [91], [123]] h2)
    simp [this]
  · have : t.text ≠ s := fun e => hs (by subst e; exact List.mem_append_right [wNone, wTrue, wFalse] h2)
    simp [this]
  · have : t.text ≠ s := fun e => (hs2 hb).1 (by rw [← e, h2])
    simp [this]
  · have : t.text ≠ s := fun e => (hs2 hb).2 (by rw [← e, h2])
    simp [this]
def isUn (x : Ex) : Bool := exK x == 12 || exK x == 13
theorem in_fst {x : Ex} (h : ∃ t r, exTK x = t :: r ∧ FstB (isUn x) t) : ∃ t r, inT x = t :: r ∧ FstB false t := by
  unfold inT brkT
  cases ha : apart x with
  | true => exact ⟨tG [40], _, rfl, .inr (.inr (.inr (.inr (.inl ⟨rfl, by decide⟩))))⟩
  | false =>
    obtain ⟨t, r, h1, h2⟩ := h
    have hu : isUn x = false := by
      unfold apart at ha
      unfold isUn
      cases h12 : (exK x == 12) with
      | true => rw [h12] at ha; cases ha
      | false => cases h13 : (exK x == 13) with
        | true => rw [h12, h13] at ha; cases ha
        | false => rfl
    rw [hu] at h2
    exact ⟨t, r, h1, h2⟩
theorem ex_fst {M : Nat} {x : Ex} (h : Wx M x) : ∃ t r, exTK x = t :: r ∧ FstB (isUn x) t := by
  induction h with
  | @mk k n t ks ns h1 h2 h3 h4 ih =>
    rw [exTK]
    have hin : ∀ i (hi : i < ks.length), ∃ t r, inT ks[i] = t :: r ∧ FstB false t := fun i hi => in_fst (ih _ (List.getElem_mem hi))
    match k, h4 with
    | 1, _ => exact ⟨_, _, rfl, .inr (.inr (.inr (.inl ⟨rfl, by decide⟩)))⟩
    | 2, _ => exact ⟨_, _, rfl, .inr (.inr (.inr (.inl ⟨rfl, by decide⟩)))⟩
    | 3, _ => exact ⟨_, _, rfl, .inr (.inr (.inr (.inl ⟨rfl, by decide⟩)))⟩
    | 4, _ => exact ⟨_, _, rfl, .inr (.inl rfl)⟩
    | 5, _ => exact ⟨_, _, rfl, .inr (.inr (.inl rfl))⟩
    | 6, _ => exact ⟨_, _, rfl, .inl rfl⟩
    | 7, _ => exact ⟨_, _, rfl, .inr (.inr (.inr (.inr (.inl ⟨rfl, by decide⟩))))⟩
    | 8, _ => exact ⟨_, _, rfl, .inr (.inr (.inr (.inr (.inl ⟨rfl, by decide⟩))))⟩
    | 9, _ => exact ⟨_, _, rfl, .inr (.inr (.inr (.inr (.inl ⟨rfl, by decide⟩))))⟩
    | 10, h4 =>
      have hl : 0 < ks.length := by have := h4.2.2.1; omega
      obtain ⟨a, r, e, hf⟩ := hin 0 hl
      exact ⟨a, r ++ tG [40] :: (listT (argT ((exTs ks).tail.map (·.2)) ns) ++ [tG [41]]), by show inTw (exTs ks) 0 ++ _ = _; rw [inTw_at hl, e]; rfl, hf.up⟩
    | 11, h4 =>
      have hl : 0 < ks.length := by have := h4.2.2.1; omega
      obtain ⟨a, r, e, hf⟩ := hin 0 hl
      exact ⟨a, r ++ tG [91] :: (plT (exTs ks) 1 ++ [tG [93]]), by show inTw (exTs ks) 0 ++ _ = _; rw [inTw_at hl, e]; rfl, hf.up⟩
    | 12, _ => exact ⟨_, _, rfl, .inr (.inr (.inr (.inr (.inr ⟨rfl, .inl ⟨rfl, rfl⟩⟩))))⟩
    | 13, _ => exact ⟨_, _, rfl, .inr (.inr (.inr (.inr (.inr ⟨rfl, .inr ⟨rfl, rfl⟩⟩))))⟩
    | 14, h4 =>
      have hl : 0 < ks.length := by have := h4.2.2.1; omega
      obtain ⟨a, r, e, hf⟩ := hin 0 hl
      exact ⟨a, r ++ tO t :: inTw (exTs ks) 1, by show inTw (exTs ks) 0 ++ _ = _; rw [inTw_at hl, e]; rfl, hf.up⟩
    | 0, h4 => exact h4.elim
    | k + 15, h4 => exact h4.elim
def eqS (r : List Tok) : Bool := hdK r == 4 && hdT r == [61]
theorem nameS_c (t : Tok) (r : List Tok) : nameS (t :: r) = (t.kind == 1 && eqS r) := by
  show ((t.kind == 1) && (hdK r == 4) && (hdT r == [61])) = _
  unfold eqS; rw [Bool.and_assoc]
theorem in_name {x : Ex} (h : ∀ z, eqS z = false → nameS (exTK x ++ z) = false) : ∀ z, eqS z = false → nameS (inT x ++ z) = false := by
  intro z hz
  unfold inT brkT
  cases ha : apart x with
  | true =>
    show nameS (tG [40] :: _) = false
    rw [nameS_c]; rfl
  | false => exact h z hz
theorem tO_eq (t : List UInt8) (ht : t ∈ ops13) (r : List Tok) : eqS (tO t :: r) = false := by
  have : ∀ t ∈ ops13, ((tO t).kind == 4 && (tO t).text == [61]) = false := by decide
  exact this t ht
theorem ex_name {M : Nat} {x : Ex} (h : Wx M x) : ∀ z, eqS z = false → nameS (exTK x ++ z) = false := by
  induction h with
  | @mk k n t ks ns h1 h2 h3 h4 ih =>
    intro z hz
    rw [exTK]
    have hin : ∀ i (hi : i < ks.length) z, eqS z = false → nameS (inT ks[i] ++ z) = false := fun i hi => in_name (ih _ (List.getElem_mem hi))
    match k, h4 with
    | 1, _ => exact nameS_c _ _
    | 2, _ => exact nameS_c _ _
    | 3, _ => exact nameS_c _ _
    | 4, _ => exact nameS_c _ _
    | 5, _ => exact nameS_c _ _
    | 6, _ => exact (nameS_c _ _).trans hz
    | 7, _ => exact nameS_c _ _
    | 8, _ => exact nameS_c _ _
    | 9, _ => exact nameS_c _ _
    | 10, h4 =>
      have hl : 0 < ks.length := by have := h4.2.2.1; omega
      show nameS ((inTw (exTs ks) 0 ++ _) ++ z) = false
      rw [inTw_at hl, List.append_assoc]
      exact hin 0 hl _ rfl
    | 11, h4 =>
      have hl : 0 < ks.length := by have := h4.2.2.1; omega
      show nameS ((inTw (exTs ks) 0 ++ _) ++ z) = false
      rw [inTw_at hl, List.append_assoc]
      exact hin 0 hl _ rfl
    | 12, _ => exact nameS_c _ _
    | 13, _ => exact nameS_c _ _
    | 14, h4 =>
      have hl : 0 < ks.length := by have := h4.2.2.1; omega
      show nameS ((inTw (exTs ks) 0 ++ _) ++ z) = false
      rw [inTw_at hl, List.append_assoc]
      exact hin 0 hl _ (tO_eq t h4.2.1 _)
    | 0, h4 => exact h4.elim
    | k + 15, h4 => exact h4.elim
end Go.Proofs.YtmdegomejbpldaaGreatDoor
end
section
set_option linter.unusedVariables false
set_option linter.unusedSimpArgs false
set_option maxRecDepth 20000
namespace Go.Proofs.YtmdegomejbpldaaGreatDoor
open Go Go.Ab
theorem bind_ok {α β : Type} {x : Pr α} {f : α → List Tok → Pr β} {y : β} {u : List Tok} (h : x.bind f = .ok y u) : ∃ a r, x = .ok a r ∧ f a r = .ok y u := by
  cases x with
  | out => cases h
  | bad e r => cases h
  | ok a r => exact ⟨a, r, rfl, h⟩
theorem must_ok {s : List UInt8} {r : List Tok} {y : Unit} {u : List Tok} (h : mustS s r = .ok y u) : u = r.tail := by
  unfold mustS at h
  split at h
  · cases h; rfl
  · cases h
theorem take_ok {k : Nat} {t : Tok} {r : List Tok} {y : Tok} {u : List Tok} (h : takeS k (t :: r) = .ok y u) : y = t ∧ u = r := by
  unfold takeS at h
  simp only at h
  split at h
  · cases h; exact ⟨rfl, rfl⟩
  · cases h
theorem ite_n {α : Type} {c : Bool} (h : c = false) (a b : α) : (if c = true then a else b) = b := by rw [h]; rfl
theorem ite_y {α : Type} {c : Bool} (h : c = true) (a b : α) : (if c = true then a else b) = a := by rw [h]; rfl
theorem isS_c (s : List UInt8) (t : Tok) (r : List Tok) : isS s (t :: r) = ((t.kind == 4 || t.kind == 5) && t.text == s) := rfl
theorem isOf_c (l : List (List UInt8)) (t : Tok) (r : List Tok) : isOf l (t :: r) = ((t.kind == 4 || t.kind == 5) && l.contains t.text) := rfl
structure Bnd (k : Nat) (z : List Tok) : Prop where
  p : isS [40] z = false
  q : isS [91] z = false
  o : ∀ j, k ≤ j → j ≤ 4 → isOf (binS j) z = false
theorem Bnd.up {k m : Nat} {z : List Tok} (h : Bnd k z) (hk : k ≤ m) : Bnd m z := ⟨h.p, h.q, fun j h1 h2 => h.o j (by omega) h2⟩
theorem bnd_of {t : Tok} (h : ((t.kind == 4 || t.kind == 5) && [[40], [91], wOr, wAnd, [61, 61], [33, 61], [60], [60, 61], wIn, [43], [45], [42], [47, 47], [37]].contains t.text) = false) (z : List Tok) : Bnd 0 (t :: z) := by
  have key : ∀ l : List (List UInt8), (∀ s ∈ l, s ∈ [[40], [91], wOr, wAnd, [61, 61], [33, 61], [60], [60, 61], wIn, [43], [45], [42], [47, 47], [37]]) → ((t.kind == 4 || t.kind == 5) && l.contains t.text) = false := fun l hl => by
    cases hc : (t.kind == 4 || t.kind == 5) with
    | false => rfl
    | true =>
      rw [hc] at h
      have h : ([[40], [91], wOr, wAnd, [61, 61], [33, 61], [60], [60, 61], wIn, [43], [45], [42], [47, 47], [37]] : List (List UInt8)).contains t.text = false := h
      cases hd : l.contains t.text with
      | false => rfl
      | true =>
        have := hl _ (List.contains_iff_mem.1 hd)
        rw [List.contains_iff_mem.2 this] at h
        cases h
  have one : ∀ s : List UInt8, ((t.kind == 4 || t.kind == 5) && t.text == s) = ((t.kind == 4 || t.kind == 5) && [s].contains t.text) := fun s => by
    rw [List.contains_cons, List.contains_nil, Bool.or_false]
  refine ⟨?_, ?_, fun j _ hj => ?_⟩
  · rw [isS_c, one]; exact key _ (by decide)
  · rw [isS_c, one]; exact key _ (by decide)
  · rw [isOf_c]
    match j, hj with
    | 0, _ => exact key _ (by decide)
    | 1, _ => exact key _ (by decide)
    | 2, _ => exact key _ (by decide)
    | 3, _ => exact key _ (by decide)
    | 4, _ => exact key _ (by decide)
theorem op_lev {t : List UInt8} (ht : t ∈ ops13) : ∃ k, k ≤ 4 ∧ ∀ r, isOf (binS k) (tO t :: r) = true ∧ hdT (tO t :: r) = t ∧ Bnd (k + 1) (tO t :: r) := by
  have key : ∀ t ∈ ops13, ∃ k, k ≤ 4 ∧ (((tO t).kind == 4 || (tO t).kind == 5) && (binS k).contains (tO t).text) = true ∧ (tO t).text = t ∧ (((tO t).kind == 4 || (tO t).kind == 5) && (tO t).text == [40]) = false ∧ (((tO t).kind == 4 || (tO t).kind == 5) && (tO t).text == [91]) = false ∧ (∀ j, j ≤ 4 → k + 1 ≤ j → (((tO t).kind == 4 || (tO t).kind == 5) && (binS j).contains (tO t).text) = false) := by
    intro t ht
    simp only [ops13, List.mem_cons, List.not_mem_nil, or_false] at ht
    rcases ht with rfl | rfl | rfl | rfl | rfl | rfl | rfl | rfl | rfl | rfl | rfl | rfl
    · exact ⟨0, by decide⟩
    · exact ⟨1, by decide⟩
    · exact ⟨2, by decide⟩
    · exact ⟨2, by decide⟩
    · exact ⟨2, by decide⟩
    · exact ⟨2, by decide⟩
    · exact ⟨2, by decide⟩
    · exact ⟨3, by decide⟩
    · exact ⟨3, by decide⟩
    · exact ⟨4, by decide⟩
    · exact ⟨4, by decide⟩
    · exact ⟨4, by decide⟩
  obtain ⟨k, hk, h1, h2, h3, h4, h5⟩ := key t ht
  exact ⟨k, hk, fun r => ⟨h1, h2, h3, h4, fun j a b => h5 j b a⟩⟩
def PX (x : Ex) : Prop := ∀ F n z y u, Bnd 0 z → exprS F n (exTK x ++ z) = .ok y u → y = x ∧ u = z
def CX (p : List Tok) (x : Ex) : Prop := ∀ F n r y u, ((atomS F n (p ++ r)).bind fun x r => postS F n x r) = .ok y u → ∃ F', postS F' n x r = .ok y u
theorem post_end {F n : Nat} {x y : Ex} {z u : List Tok} (hz : Bnd 5 z) (h : postS F n x z = .ok y u) : y = x ∧ u = z := by
  cases F with
  | zero => cases h
  | succ F =>
    rw [postS, ite_n hz.p, ite_n hz.q] at h
    cases h; exact ⟨rfl, rfl⟩
theorem loop_end {F k n : Nat} {x y : Ex} {z u : List Tok} (hz : isOf (binS k) z = false) (h : loopS F k n x z = .ok y u) : y = x ∧ u = z := by
  cases F with
  | zero => cases h
  | succ F =>
    rw [loopS, ite_n hz] at h
    cases h; exact ⟨rfl, rfl⟩
theorem down {R z : List Tok} {x : Ex} {k : Nat} (hk : k ≤ 5) (hz : Bnd 0 z) (hn : 2 < k → isS wNot R = false) (h : ∀ F n y u, levS F k n R = .ok y u → y = x ∧ u = z) : ∀ d j, j + d = k → ∀ F n y u, levS F j n R = .ok y u → y = x ∧ u = z
  | 0, j, hj => by obtain rfl : j = k := by omega
                   exact h
  | d + 1, j, hj => by
    have ih := down hk hz hn h d (j + 1) (by omega)
    intro F n y u hy
    cases F with
    | zero => cases hy
    | succ F =>
      by_cases h2 : j = 2
      · subst h2
        rw [levS_2, ite_n (hn (by omega))] at hy
        obtain ⟨a, r, e1, e2⟩ := bind_ok hy
        obtain ⟨rfl, rfl⟩ := ih _ _ _ _ e1
        rw [ite_n (hz.o 2 (by decide) (by decide))] at e2
        cases e2; exact ⟨rfl, rfl⟩
      · rw [levS_b (by omega)] at hy
        obtain ⟨a, r, e1, e2⟩ := bind_ok hy
        obtain ⟨rfl, rfl⟩ := ih _ _ _ _ e1
        exact loop_end (hz.o j (by omega) (by omega)) e2
theorem operand {p : List Tok} {x : Ex} (hc : CX p x) (h45 : ∀ z, isS [45] (p ++ z) = false) (hnot : ∀ z, isS wNot (p ++ z) = false) : ∀ d k, k + d = 5 → ∀ F n z y u, Bnd k z → levS F k n (p ++ z) = .ok y u → y = x ∧ u = z
  | 0, k, hk => by
    obtain rfl : k = 5 := by omega
    intro F n z y u hz h
    cases F with
    | zero => cases h
    | succ F =>
      rw [levS_5, ite_n (h45 z)] at h
      obtain ⟨F', h'⟩ := hc _ _ _ _ _ h
      exact post_end hz h'
  | d + 1, k, hk => by
    have ih := operand hc h45 hnot d (k + 1) (by omega)
    intro F n z y u hz h
    cases F with
    | zero => cases h
    | succ F =>
      by_cases h2 : k = 2
      · subst h2
        rw [levS_2, ite_n (hnot z)] at h
        obtain ⟨a, r, e1, e2⟩ := bind_ok h
        obtain ⟨rfl, rfl⟩ := ih _ _ _ _ _ (hz.up (by decide)) e1
        rw [ite_n (hz.o 2 (by decide) (by decide))] at e2
        cases e2; exact ⟨rfl, rfl⟩
      · rw [levS_b (by omega)] at h
        obtain ⟨a, r, e1, e2⟩ := bind_ok h
        obtain ⟨rfl, rfl⟩ := ih _ _ _ _ _ (hz.up (by omega)) e1
        exact loop_end (hz.o k (by omega) (by omega)) e2
theorem expr_lev {F n : Nat} {r u : List Tok} {y : Ex} (h : exprS F n r = .ok y u) : ∃ F' n', levS F' 0 n' r = .ok y u := by
  cases F with
  | zero => cases h
  | succ F =>
    rw [exprS] at h
    split at h
    · cases h
    · exact ⟨_, _, h⟩
theorem brk_CX {x : Ex} (hp : PX x) : CX (tG [40] :: (exTK x ++ [tG [41]])) x := by
  intro F n r y u h
  cases F with
  | zero => cases h
  | succ F =>
    obtain ⟨a, v, e1, e2⟩ := bind_ok h
    have e1 : ((exprS F n (exTK x ++ [tG [41]] ++ r)).bind fun x r => (mustS [41] r).bind fun _ r => .ok x r) = .ok a v := e1
    rw [List.append_assoc] at e1
    obtain ⟨b, w, e3, e4⟩ := bind_ok e1
    obtain ⟨rfl, rfl⟩ := hp _ _ _ _ _ (bnd_of (by decide) _) e3
    obtain ⟨c, v2, e5, e6⟩ := bind_ok e4
    obtain rfl := must_ok e5
    cases e6
    exact ⟨_, e2⟩
theorem bnd_sep (s : List UInt8) (hs : s ∈ [[44], [58], [93], [41], [125]]) (z : List Tok) : Bnd 0 (tG s :: z) := by
  simp only [List.mem_cons, List.not_mem_nil, or_false] at hs
  rcases hs with rfl | rfl | rfl | rfl | rfl <;> exact bnd_of (by decide) z
structure KX (x : Ex) : Prop where
  p : PX x
  f : ∃ t r, exTK x = t :: r ∧ FstB (isUn x) t
  n : ∀ z, eqS z = false → nameS (exTK x ++ z) = false
theorem KX.no {x : Ex} (h : KX x) {s : List UInt8} (hs : s ∉ [wNone, wTrue, wFalse, [40], [91], [123]]) (h2 : s ≠ wNot ∧ s ≠ [45]) (z : List Tok) : isS s (exTK x ++ z) = false := by
  obtain ⟨t, r, e, hf⟩ := h.f
  rw [e]
  exact hf.no _ hs (fun _ => h2)
theorem item_ok : ∀ (ks : List Ex), (∀ x ∈ ks, KX x) → ∀ F n k0 r y u, itemS F n k0 (itemT (ks.map exTK) ++ tG [93] :: r) = .ok y u → y = .mk 7 0 [] (k0 ++ ks) [] ∧ u = r
  | [], _, F, n, k0, r, y, u, h => by
    cases F with
    | zero => cases h
    | succ F =>
      rw [itemS] at h
      have h : Pr.ok (Ex.mk 7 0 [] k0 []) r = .ok y u := h
      cases h
      rw [List.append_nil]; exact ⟨rfl, rfl⟩
  | x :: ks, hk, F, n, k0, r, y, u, h => by
    cases F with
    | zero => cases h
    | succ F =>
      have hx := hk x (List.mem_cons_self ..)
      rw [itemS] at h
      have h : ((mustS [44] (tG [44] :: (exTK x ++ itemT (ks.map exTK)) ++ tG [93] :: r)).bind fun _ r => (exprS F n r).bind fun y r => itemS F n (k0 ++ [y]) r) = .ok y u := h
      obtain ⟨_, v, e1, e2⟩ := bind_ok h
      obtain rfl := must_ok e1
      obtain ⟨b, w, e3, e4⟩ := bind_ok e2
      have e3 : exprS F n ((exTK x ++ itemT (ks.map exTK)) ++ tG [93] :: r) = .ok b w := e3
      rw [List.append_assoc] at e3
      have hb : Bnd 0 (itemT (ks.map exTK) ++ tG [93] :: r) := by
        cases ks with
        | nil => exact bnd_sep _ (by decide) _
        | cons x' ks' => exact bnd_sep [44] (by decide) _
      obtain ⟨rfl, rfl⟩ := hx.p _ _ _ _ _ hb e3
      have := item_ok ks (fun z hz => hk z (List.mem_cons_of_mem _ hz)) _ _ _ _ _ _ e4
      rw [List.append_assoc] at this
      exact this
theorem dict_ok : ∀ (m : Nat) (ks : List Ex), ks.length = 2 * m → (∀ x ∈ ks, KX x) → ∀ F n k0 r y u, dictS F n k0 (dictT k0.isEmpty (ks.map exTK) ++ tG [125] :: r) = .ok y u → y = .mk 8 0 [] (k0 ++ ks) [] ∧ u = r
  | 0, [], _, _, F, n, k0, r, y, u, h => by
    cases F with
    | zero => cases h
    | succ F =>
      rw [dictS] at h
      have h : Pr.ok (Ex.mk 8 0 [] k0 []) r = .ok y u := h
      cases h
      rw [List.append_nil]; exact ⟨rfl, rfl⟩
  | m + 1, x1 :: x2 :: ks, hl, hk, F, n, k0, r, y, u, h => by
    cases F with
    | zero => cases h
    | succ F =>
      have hx1 := hk x1 (List.mem_cons_self ..)
      have hx2 := hk x2 (List.mem_cons_of_mem _ (List.mem_cons_self ..))
      rw [dictS] at h
      have e0 : dictT k0.isEmpty ((x1 :: x2 :: ks).map exTK) ++ tG [125] :: r = (if k0.isEmpty then [] else [tG [44]]) ++ (exTK x1 ++ (tG [58] :: (exTK x2 ++ (dictT false (ks.map exTK) ++ tG [125] :: r)))) := by
        show ((if k0.isEmpty then [] else [tG [44]]) ++ (exTK x1 ++ tG [58] :: (exTK x2 ++ dictT false (ks.map exTK)))) ++ tG [125] :: r = _
        simp only [List.append_assoc, List.cons_append]
      rw [e0] at h
      have hn : isS [125] ((if k0.isEmpty then [] else [tG [44]]) ++ (exTK x1 ++ (tG [58] :: (exTK x2 ++ (dictT false (ks.map exTK) ++ tG [125] :: r))))) = false := by
        cases k0 with
        | nil => exact hx1.no (by decide) (by decide) _
        | cons a k0 => rfl
      rw [ite_n hn] at h
      obtain ⟨_, v, e1, e2⟩ := bind_ok h
      have hv : v = exTK x1 ++ (tG [58] :: (exTK x2 ++ (dictT false (ks.map exTK) ++ tG [125] :: r))) := by
        cases k0 with
        | nil => cases e1; rfl
        | cons a k0 =>
          rw [if_pos (by simp)] at e1
          exact must_ok e1
      subst hv
      obtain ⟨b, w, e3, e4⟩ := bind_ok e2
      obtain ⟨rfl, rfl⟩ := hx1.p _ _ _ _ _ (bnd_sep _ (by decide) _) e3
      obtain ⟨_, v2, e5, e6⟩ := bind_ok e4
      obtain rfl := must_ok e5
      obtain ⟨b2, w2, e7, e8⟩ := bind_ok e6
      have hb : Bnd 0 (dictT false (ks.map exTK) ++ tG [125] :: r) := by
        match ks, hl with
        | [], _ => exact bnd_sep _ (by decide) _
        | [x], hl => simp at hl; omega
        | x :: x' :: ks', _ => exact bnd_sep [44] (by decide) _
      obtain ⟨rfl, rfl⟩ := hx2.p _ _ _ _ _ hb e7
      have := dict_ok m ks (by simp only [List.length_cons] at hl; omega) (fun z hz => hk z (List.mem_cons_of_mem _ (List.mem_cons_of_mem _ hz))) F n (k0 ++ [b] ++ [b2]) r y u (by
        rw [show (k0 ++ [b] ++ [b2]).isEmpty = false by cases k0 <;> rfl]; exact e8)
      simp only [List.append_assoc, List.cons_append, List.nil_append] at this
      exact this
  | 0, x :: ks, hl, _, _, _, _, _, _, _, _ => by simp at hl
  | m + 1, [], hl, _, _, _, _, _, _, _, _ => by simp at hl
  | m + 1, [x], hl, _, _, _, _, _, _, _, _ => by simp at hl; omega
def sepsT (b : Bool) (l : List (List Tok)) : List Tok := if b then itemT l else listT l
theorem call_okK : ∀ (ks : List Ex), (∀ x ∈ ks, KX x) → ∀ (nr : Nms) F n (k0 : List Ex) (n0 : Nms) r y u, nr.length ≤ ks.length → 1 ≤ k0.length → (n0 ≠ [] → nr.length = ks.length) → (n0 ++ nr).Nodup →
    callS F n k0 n0 (sepsT (decide (k0.length > 1)) (argT (ks.map exTK) nr) ++ tG [41] :: r) = .ok y u → y = .mk 10 0 [] (k0 ++ ks) (n0 ++ nr) ∧ u = r
  | [], _, nr, F, n, k0, n0, r, y, u, hl, h1, hn, hd, h => by
    cases F with
    | zero => cases h
    | succ F =>
      have hnr : nr = [] := List.eq_nil_of_length_eq_zero (Nat.le_zero.1 hl)
      subst hnr
      have e0 : sepsT (decide (k0.length > 1)) (argT (([] : List Ex).map exTK) []) = [] := by unfold sepsT; split <;> rfl
      rw [e0, callS] at h
      have h : Pr.ok (Ex.mk 10 0 [] k0 n0) r = .ok y u := h
      cases h
      rw [List.append_nil, List.append_nil]; exact ⟨rfl, rfl⟩
  | x :: ks, hk, nr, F, n, k0, n0, r, y, u, hl, h1, hn, hd, h => by
    cases F with
    | zero => cases h
    | succ F =>
      have hx := hk x (List.mem_cons_self ..)
      have hks : ∀ z ∈ ks, KX z := fun z hz => hk z (List.mem_cons_of_mem _ hz)
      have ek : ∀ y : Ex, decide ((k0 ++ [y]).length > 1) = true := fun y => decide_eq_true (by simp; omega)
      have hb : ∀ l, Bnd 0 (itemT l ++ tG [41] :: r) := fun l => by
        cases l with
        | nil => exact bnd_sep _ (by decide) _
        | cons a l => exact bnd_sep [44] (by decide) _
      have hq : ∀ l, eqS (itemT l ++ tG [41] :: r) = false := fun l => by cases l <;> rfl
      have strip : ∀ (p : List Tok) (l : List (List Tok)) (f : Unit → List Tok → Pr Ex), ((if k0.length > 1 then mustS [44] (sepsT (decide (k0.length > 1)) (p :: l) ++ tG [41] :: r) else .ok () (sepsT (decide (k0.length > 1)) (p :: l) ++ tG [41] :: r)).bind f) = .ok y u → f () (p ++ (itemT l ++ tG [41] :: r)) = .ok y u := fun p l f hf => by
        by_cases hc : k0.length > 1
        · rw [if_pos hc, decide_eq_true hc] at hf
          obtain ⟨_, v, e1, e2⟩ := bind_ok hf
          have e1 := must_ok e1
          have e3 : v = (p ++ itemT l) ++ tG [41] :: r := e1
          rw [e3, List.append_assoc] at e2
          exact e2
        · rw [if_neg hc, decide_eq_false hc] at hf
          obtain ⟨_, v, e1, e2⟩ := bind_ok hf
          have e3 : (p ++ itemT l) ++ tG [41] :: r = v := by cases e1; rfl
          rw [← e3, List.append_assoc] at e2
          exact e2
      have endno : ∀ (p : List Tok) (l : List (List Tok)), (∀ z, isS [41] (p ++ z) = false) → isS [41] (sepsT (decide (k0.length > 1)) (p :: l) ++ tG [41] :: r) = false := fun p l hp => by
        unfold sepsT
        split
        · rfl
        · show isS [41] ((p ++ itemT l) ++ _) = false
          rw [List.append_assoc]; exact hp _
      by_cases hnm : nr.length = ks.length + 1
      · match nr, hnm with
        | nm :: nr, hnm =>
          have e0 : argT ((x :: ks).map exTK) (nm :: nr) = (tN nm :: tG [61] :: exTK x) :: argT (ks.map exTK) nr := by
            show (if (nm :: nr).length = (ks.map exTK).length + 1 then _ else _) = _
            rw [if_pos (by rw [List.length_map]; exact hnm)]; rfl
          rw [e0, callS, ite_n (endno _ _ (fun z => rfl))] at h
          have h := strip _ _ _ h
          have hnt : nameS ((tN nm :: tG [61] :: exTK x) ++ (itemT (argT (ks.map exTK) nr) ++ tG [41] :: r)) = true := rfl
          have hct : n0.contains nm = false := by
            cases hc : n0.contains nm with
            | false => rfl
            | true => exact absurd rfl ((List.nodup_append.1 hd).2.2 nm (List.contains_iff_mem.1 hc) nm (List.mem_cons_self ..))
          have h : (if nameS ((tN nm :: tG [61] :: exTK x) ++ (itemT (argT (ks.map exTK) nr) ++ tG [41] :: r)) = true then (if n0.contains nm = true then Pr.bad 6 ((tN nm :: tG [61] :: exTK x) ++ (itemT (argT (ks.map exTK) nr) ++ tG [41] :: r)) else (exprS F n (exTK x ++ (itemT (argT (ks.map exTK) nr) ++ tG [41] :: r))).bind fun y r' => callS F n (k0 ++ [y]) (n0 ++ [nm]) r') else _) = .ok y u := h
          rw [ite_y hnt, ite_n hct] at h
          obtain ⟨b, w, e3, e4⟩ := bind_ok h
          obtain ⟨rfl, rfl⟩ := hx.p _ _ _ _ _ (hb _) e3
          have := call_okK ks hks nr F n (k0 ++ [b]) (n0 ++ [nm]) r y u (by simp only [List.length_cons] at hnm; omega) (by simp) (fun _ => by simp only [List.length_cons] at hnm; omega) (by rw [List.append_assoc]; exact hd) (by
            rw [ek]; exact e4)
          simp only [List.append_assoc, List.cons_append, List.nil_append] at this
          exact this
      · have e0 : argT ((x :: ks).map exTK) nr = exTK x :: argT (ks.map exTK) nr := by
          show (if nr.length = (ks.map exTK).length + 1 then _ else _) = _
          rw [if_neg (by rw [List.length_map]; exact hnm)]
        have hn0 : n0 = [] := by
          cases n0 with
          | nil => rfl
          | cons a n0 => exact absurd (hn (by simp)) (by simpa using hnm)
        subst hn0
        rw [e0, callS, ite_n (endno _ _ (fun z => hx.no (by decide) (by decide) z))] at h
        have h := strip _ _ _ h
        rw [ite_n (hx.n _ (hq _))] at h
        have h : ((exprS F n (exTK x ++ (itemT (argT (ks.map exTK) nr) ++ tG [41] :: r))).bind fun y r => callS F n (k0 ++ [y]) [] r) = .ok y u := h
        obtain ⟨b, w, e3, e4⟩ := bind_ok h
        obtain ⟨rfl, rfl⟩ := hx.p _ _ _ _ _ (hb _) e3
        have := call_okK ks hks nr F n (k0 ++ [b]) [] r y u (by simp only [List.length_cons] at hl; omega) (by simp) (fun e => absurd rfl e) hd (by rw [ek]; exact e4)
        simp only [List.append_assoc, List.cons_append, List.nil_append] at this
        exact this
end Go.Proofs.YtmdegomejbpldaaGreatDoor
end
section
set_option linter.unusedVariables false
set_option linter.unusedSimpArgs false
set_option maxRecDepth 20000
namespace Go.Proofs.YtmdegomejbpldaaGreatDoor
open Go Go.Ab
theorem atom_CX {p : List Tok} {x : Ex} (h : ∀ F n r a v, atomS (F + 1) n (p ++ r) = .ok a v → a = x ∧ v = r) : CX p x := by
  intro F n r y u hy
  obtain ⟨a, v, e1, e2⟩ := bind_ok hy
  cases F with
  | zero => cases e1
  | succ F =>
    obtain ⟨rfl, rfl⟩ := h F n r a v e1
    exact ⟨_, e2⟩
theorem list_okK {ks : List Ex} (hk : ∀ x ∈ ks, KX x) {F n : Nat} {r u : List Tok} {y : Ex} (h : listS F n (listT (ks.map exTK) ++ tG [93] :: r) = .ok y u) : y = .mk 7 0 [] ks [] ∧ u = r := by
  cases F with
  | zero => cases h
  | succ F =>
    rw [listS] at h
    cases ks with
    | nil =>
      have h : Pr.ok (Ex.mk 7 0 [] [] []) r = .ok y u := h
      cases h; exact ⟨rfl, rfl⟩
    | cons x ks =>
      have hx := hk x (List.mem_cons_self ..)
      have e0 : listT ((x :: ks).map exTK) ++ tG [93] :: r = exTK x ++ (itemT (ks.map exTK) ++ tG [93] :: r) := by
        show (exTK x ++ itemT (ks.map exTK)) ++ _ = _
        rw [List.append_assoc]
      rw [e0, ite_n (hx.no (by decide) (by decide) _)] at h
      obtain ⟨b, w, e3, e4⟩ := bind_ok h
      have hb : Bnd 0 (itemT (ks.map exTK) ++ tG [93] :: r) := by
        cases ks with
        | nil => exact bnd_sep _ (by decide) _
        | cons a l => exact bnd_sep [44] (by decide) _
      obtain ⟨rfl, rfl⟩ := hx.p _ _ _ _ _ hb e3
      have hf : isS wFor (itemT (ks.map exTK) ++ tG [93] :: r) = false := by cases ks <;> rfl
      rw [ite_n hf] at e4
      exact item_ok ks (fun z hz => hk z (List.mem_cons_of_mem _ hz)) _ _ _ _ _ _ e4
def ifT : List Ex → List Tok
  | [] => []
  | x3 :: _ => tW wIf :: exTK x3
theorem each_okK {x1 x2 : Ex} {nm : List UInt8} (h1 : KX x1) (h2 : KX x2) {m : List Ex} (hm : m = [] ∨ ∃ x3, m = [x3] ∧ KX x3) {F n : Nat} {r u : List Tok} {y : Ex}
    (h : listS F n (exTK x1 ++ (tW wFor :: tN nm :: tW wIn :: (exTK x2 ++ (ifT m ++ tG [93] :: r)))) = .ok y u) : y = .mk 9 0 nm ([x1, x2] ++ m) [] ∧ u = r := by
  cases F with
  | zero => cases h
  | succ F =>
    rw [listS, ite_n (h1.no (by decide) (by decide) _)] at h
    obtain ⟨b, w, e3, e4⟩ := bind_ok h
    obtain ⟨rfl, rfl⟩ := h1.p _ _ _ _ _ (bnd_of (by decide) _) e3
    have hf : isS wFor (tW wFor :: tN nm :: tW wIn :: (exTK x2 ++ (ifT m ++ tG [93] :: r))) = true := rfl
    rw [ite_y hf] at e4
    obtain ⟨t, w1, e5, e6⟩ := bind_ok e4
    obtain ⟨rfl, rfl⟩ := take_ok e5
    obtain ⟨_, w2, e7, e8⟩ := bind_ok e6
    obtain rfl := must_ok e7
    obtain ⟨c, w3, e9, e10⟩ := bind_ok e8
    rcases hm with rfl | ⟨x3, rfl, h3⟩
    · have e9 : exprS F n (exTK x2 ++ (tG [93] :: r)) = .ok c w3 := e9
      obtain ⟨rfl, rfl⟩ := h2.p _ _ _ _ _ (bnd_sep _ (by decide) _) e9
      have hi : isS wIf (tG [93] :: r) = false := rfl
      rw [ite_n hi] at e10
      obtain ⟨_, w4, e11, e12⟩ := bind_ok e10
      obtain rfl := must_ok e11
      cases e12; exact ⟨rfl, rfl⟩
    · have e9 : exprS F n (exTK x2 ++ (tW wIf :: (exTK x3 ++ tG [93] :: r))) = .ok c w3 := e9
      obtain ⟨rfl, rfl⟩ := h2.p _ _ _ _ _ (bnd_of (by decide) _) e9
      have hi : isS wIf (tW wIf :: (exTK x3 ++ tG [93] :: r)) = true := rfl
      rw [ite_y hi] at e10
      obtain ⟨d, w5, e13, e14⟩ := bind_ok e10
      have e13 : exprS F n (exTK x3 ++ tG [93] :: r) = .ok d w5 := e13
      obtain ⟨rfl, rfl⟩ := h3.p _ _ _ _ _ (bnd_sep _ (by decide) _) e13
      obtain ⟨_, w4, e11, e12⟩ := bind_ok e14
      obtain rfl := must_ok e11
      cases e12; exact ⟨rfl, rfl⟩
theorem in_CX_to {x : Ex} {M : Nat} (hw : Wx M x) (hc : CX (inT x) x) (k : Nat) (hk : k ≤ 5) : ∀ F n z y u, Bnd k z → levS F k n (inT x ++ z) = .ok y u → y = x ∧ u = z := by
  obtain ⟨t, r, e, hf⟩ := in_fst (ex_fst hw)
  exact operand hc (fun z => by rw [e]; exact hf.no _ (by decide) nofun) (fun z => by rw [e]; exact hf.no _ (by decide) nofun) (5 - k) k (by omega)
theorem len0 {α : Type} {l : List α} (h : l.length = 0) : l = [] := List.eq_nil_of_length_eq_zero h
theorem len1 {α : Type} {l : List α} (h : l.length = 1) : ∃ a, l = [a] := by
  match l, h with
  | [a], _ => exact ⟨a, rfl⟩
theorem len2K {α : Type} {l : List α} (h : l.length = 2) : ∃ a b, l = [a, b] := by
  match l, h with
  | [a, b], _ => exact ⟨a, b, rfl⟩
theorem len3K {α : Type} {l : List α} (h : l.length = 3) : ∃ a b c, l = [a, b, c] := by
  match l, h with
  | [a, b, c], _ => exact ⟨a, b, c, rfl⟩
theorem PX_of {x : Ex} {M : Nat} (hw : Wx M x) (ha : apart x = false) (hc : CX (exTK x) x) : PX x ∧ CX (inT x) x := by
  have hi : inT x = exTK x := by unfold inT brkT; rw [ha]; rfl
  have hc' : CX (inT x) x := by rw [hi]; exact hc
  refine ⟨fun F n z y u hz h => ?_, hc'⟩
  obtain ⟨F', n', h'⟩ := expr_lev h
  rw [← hi] at h'
  exact in_CX_to hw hc' 0 (by decide) _ _ _ _ _ hz h'
theorem PX_apart {x : Ex} (ha : apart x = true) (hp : PX x) : PX x ∧ CX (inT x) x := ⟨hp, by
  have hi : inT x = tG [40] :: (exTK x ++ [tG [41]]) := by unfold inT brkT; rw [ha]; rfl
  rw [hi]; exact brk_CX hp⟩
theorem ex_back {M : Nat} {x : Ex} (h : Wx M x) : PX x ∧ CX (inT x) x := by
  induction h with
  | @mk k n t ks ns h1 h2 h3 h4 ih =>
    have hw : Wx M (.mk k n t ks ns) := .mk h1 h2 h3 h4
    have hK : ∀ x ∈ ks, KX x := fun x hx => ⟨(ih x hx).1, ex_fst (h3 x hx), ex_name (h3 x hx)⟩
    have hL : ∀ x ∈ ks, ∀ k, k ≤ 5 → ∀ F n z y u, Bnd k z → levS F k n (inT x ++ z) = .ok y u → y = x ∧ u = z := fun x hx k hk => in_CX_to (h3 x hx) (ih x hx).2 k hk
    match k, h4, hw with
    | 1, h4, hw =>
      obtain ⟨rfl, rfl, hl, rfl⟩ := h4
      obtain rfl := len0 hl
      exact PX_of hw rfl (atom_CX fun F n r a v e => by cases e; exact ⟨rfl, rfl⟩)
    | 2, h4, hw =>
      obtain ⟨rfl, rfl, hl, rfl⟩ := h4
      obtain rfl := len0 hl
      exact PX_of hw rfl (atom_CX fun F n r a v e => by cases e; exact ⟨rfl, rfl⟩)
    | 3, h4, hw =>
      obtain ⟨rfl, rfl, hl, rfl⟩ := h4
      obtain rfl := len0 hl
      exact PX_of hw rfl (atom_CX fun F n r a v e => by cases e; exact ⟨rfl, rfl⟩)
    | 4, h4, hw =>
      obtain ⟨_, rfl, hl, rfl⟩ := h4
      obtain rfl := len0 hl
      exact PX_of hw rfl (atom_CX fun F n' r a v e => by
        have e : Pr.ok (Ex.mk 4 n [] [] []) r = .ok a v := e
        cases e; exact ⟨rfl, rfl⟩)
    | 5, h4, hw =>
      obtain ⟨rfl, _, hl, rfl⟩ := h4
      obtain rfl := len0 hl
      exact PX_of hw rfl (atom_CX fun F n r a v e => by
        have e : Pr.ok (Ex.mk 5 0 t [] []) r = .ok a v := e
        cases e; exact ⟨rfl, rfl⟩)
    | 6, h4, hw =>
      obtain ⟨rfl, _, hl, rfl⟩ := h4
      obtain rfl := len0 hl
      exact PX_of hw rfl (atom_CX fun F n r a v e => by
        have e : Pr.ok (Ex.mk 6 0 t [] []) r = .ok a v := e
        cases e; exact ⟨rfl, rfl⟩)
    | 7, h4, hw =>
      obtain ⟨rfl, rfl, rfl⟩ := h4
      refine PX_of hw rfl (atom_CX fun F n r a v e => ?_)
      have e : listS F n ((listT ((exTs ks).map (·.2)) ++ [tG [93]]) ++ r) = .ok a v := e
      rw [exTs_snd, List.append_assoc] at e
      exact list_okK hK e
    | 8, h4, hw =>
      obtain ⟨rfl, rfl, hev, rfl⟩ := h4
      refine PX_of hw rfl (atom_CX fun F n r a v e => ?_)
      have e : dictS F n [] ((dictT true ((exTs ks).map (·.2)) ++ [tG [125]]) ++ r) = .ok a v := e
      rw [exTs_snd, List.append_assoc] at e
      have := dict_ok (ks.length / 2) ks (by omega) hK F n [] r a v e
      rw [List.nil_append] at this
      exact this
    | 9, h4, hw =>
      obtain ⟨rfl, _, hl, rfl⟩ := h4
      refine PX_of hw rfl (atom_CX fun F n r a v e => ?_)
      rcases hl with hl | hl
      · obtain ⟨x1, x2, rfl⟩ := len2K hl
        have e : listS F n ((exTK x1 ++ tW wFor :: tN t :: tW wIn :: (exTK x2 ++ ([] ++ [tG [93]]))) ++ r) = .ok a v := e
        simp only [List.append_assoc, List.cons_append, List.nil_append] at e
        exact each_okK (m := []) (hK x1 (by simp)) (hK x2 (by simp)) (.inl rfl) e
      · obtain ⟨x1, x2, x3, rfl⟩ := len3K hl
        have e : listS F n ((exTK x1 ++ tW wFor :: tN t :: tW wIn :: (exTK x2 ++ (tW wIf :: exTK x3 ++ [tG [93]]))) ++ r) = .ok a v := e
        simp only [List.append_assoc, List.cons_append, List.nil_append] at e
        exact each_okK (m := [x3]) (hK x1 (by simp)) (hK x2 (by simp)) (.inr ⟨x3, rfl, hK x3 (by simp)⟩) e
    | 10, h4, hw =>
      obtain ⟨rfl, rfl, hl, _, hnd⟩ := h4
      match ks, hl, hK, ih with
      | x :: ks, hl, hK, ih =>
        refine PX_of hw rfl fun F n r y u e => ?_
        have e : ((atomS F n ((inT x ++ tG [40] :: (listT (argT ((exTs ks).map (·.2)) ns) ++ [tG [41]])) ++ r)).bind fun x r => postS F n x r) = .ok y u := e
        rw [exTs_snd] at e
        simp only [List.append_assoc, List.cons_append, List.nil_append] at e
        obtain ⟨F', e⟩ := (ih x (List.mem_cons_self ..)).2 _ _ _ _ _ e
        cases F' with
        | zero => cases e
        | succ F' =>
          rw [postS] at e
          have e : ((callS F' n [x] [] (listT (argT (ks.map exTK) ns) ++ tG [41] :: r)).bind fun y r => postS F' n y r) = .ok y u := e
          obtain ⟨a, w, e1, e2⟩ := bind_ok e
          obtain ⟨rfl, rfl⟩ := call_okK ks (fun z hz => hK z (List.mem_cons_of_mem _ hz)) ns F' n [x] [] r a w (by simp only [List.length_cons] at hl; omega) (by simp) (fun h => absurd rfl h) hnd e1
          exact ⟨_, e2⟩
      | [], hl, _, _ => simp at hl
    | 11, h4, hw =>
      obtain ⟨rfl, rfl, hl, rfl⟩ := h4
      obtain ⟨x1, x2, rfl⟩ := len2K hl
      refine PX_of hw rfl fun F n r y u e => ?_
      have e : ((atomS F n ((inT x1 ++ tG [91] :: (exTK x2 ++ [tG [93]])) ++ r)).bind fun x r => postS F n x r) = .ok y u := e
      simp only [List.append_assoc, List.cons_append, List.nil_append] at e
      obtain ⟨F', e⟩ := (ih x1 (List.mem_cons_self ..)).2 _ _ _ _ _ e
      cases F' with
      | zero => cases e
      | succ F' =>
        rw [postS] at e
        have e : ((exprS F' n (exTK x2 ++ tG [93] :: r)).bind fun y r => (mustS [93] r).bind fun _ r => postS F' n (.mk 11 0 [] [x1, y] []) r) = .ok y u := e
        obtain ⟨a, w, e1, e2⟩ := bind_ok e
        obtain ⟨rfl, rfl⟩ := (hK x2 (by simp)).p _ _ _ _ _ (bnd_sep _ (by decide) _) e1
        obtain ⟨_, w2, e3, e4⟩ := bind_ok e2
        obtain rfl := must_ok e3
        exact ⟨_, e4⟩
    | 12, h4, hw =>
      obtain ⟨rfl, rfl, hl, rfl⟩ := h4
      obtain ⟨x1, rfl⟩ := len1 hl
      refine PX_apart rfl fun F n z y u hz e => ?_
      obtain ⟨F', n', e⟩ := expr_lev e
      refine down (k := 2) (by decide) hz (fun h => absurd h (by decide)) (fun F n y u e => ?_) 2 0 rfl _ _ _ _ e
      cases F with
      | zero => cases e
      | succ F =>
        rw [levS_2] at e
        have e : (if n = 30 then Pr.bad 2 (inT x1 ++ z) else (levS F 2 (n + 1) (inT x1 ++ z)).bind fun x r => .ok (.mk 12 0 [] [x] []) r) = .ok y u := e
        split at e
        · cases e
        · obtain ⟨a, w, e1, e2⟩ := bind_ok e
          obtain ⟨rfl, rfl⟩ := hL x1 (by simp) 2 (by decide) _ _ _ _ _ (hz.up (by decide)) e1
          cases e2; exact ⟨rfl, rfl⟩
    | 13, h4, hw =>
      obtain ⟨rfl, rfl, hl, rfl⟩ := h4
      obtain ⟨x1, rfl⟩ := len1 hl
      refine PX_apart rfl fun F n z y u hz e => ?_
      obtain ⟨F', n', e⟩ := expr_lev e
      refine down (k := 5) (by decide) hz (fun h => rfl) (fun F n y u e => ?_) 5 0 rfl _ _ _ _ e
      cases F with
      | zero => cases e
      | succ F =>
        rw [levS_5] at e
        have e : (if n = 30 then Pr.bad 2 (inT x1 ++ z) else (levS F 5 (n + 1) (inT x1 ++ z)).bind fun x r => .ok (.mk 13 0 [] [x] []) r) = .ok y u := e
        split at e
        · cases e
        · obtain ⟨a, w, e1, e2⟩ := bind_ok e
          obtain ⟨rfl, rfl⟩ := hL x1 (by simp) 5 (by decide) _ _ _ _ _ (hz.up (by decide)) e1
          cases e2; exact ⟨rfl, rfl⟩
    | 14, h4, hw =>
      obtain ⟨rfl, ht, hl, rfl⟩ := h4
      obtain ⟨x1, x2, rfl⟩ := len2K hl
      refine PX_apart rfl fun F n z y u hz e => ?_
      obtain ⟨F', n', e⟩ := expr_lev e
      obtain ⟨lv, hlv, hop⟩ := op_lev ht
      have e0 : exTK (.mk 14 0 t [x1, x2] []) ++ z = inT x1 ++ (tO t :: (inT x2 ++ z)) := by
        show (inT x1 ++ tO t :: inT x2) ++ z = _
        simp only [List.append_assoc, List.cons_append]
      rw [e0] at e
      obtain ⟨ho1, ho2, ho3⟩ := hop (inT x2 ++ z)
      obtain ⟨ft, fr, fe, ff⟩ := in_fst (ex_fst (h3 x1 (by simp)))
      have hnot : isS wNot (inT x1 ++ (tO t :: (inT x2 ++ z))) = false := by rw [fe]; exact ff.no _ (by decide) nofun
      refine down (k := lv) (by omega) hz (fun h => hnot) (fun F n y u e => ?_) lv 0 (by omega) _ _ _ _ e
      cases F with
      | zero => cases e
      | succ F =>
        by_cases h2 : lv = 2
        · subst h2
          rw [levS_2, ite_n hnot] at e
          obtain ⟨a, w, e1, e2⟩ := bind_ok e
          obtain ⟨rfl, rfl⟩ := hL x1 (by simp) 3 (by decide) _ _ _ _ _ ho3 e1
          rw [ite_y ho1] at e2
          obtain ⟨b, w2, e3, e4⟩ := bind_ok e2
          obtain ⟨rfl, rfl⟩ := hL x2 (by simp) 3 (by decide) _ _ _ _ _ (hz.up (by decide)) e3
          rw [ho2] at e4
          cases e4; exact ⟨rfl, rfl⟩
        · rw [levS_b (by omega)] at e
          obtain ⟨a, w, e1, e2⟩ := bind_ok e
          obtain ⟨rfl, rfl⟩ := hL x1 (by simp) (lv + 1) (by omega) _ _ _ _ _ ho3 e1
          cases F with
          | zero => cases e2
          | succ F =>
            rw [loopS, ite_y ho1] at e2
            obtain ⟨b, w2, e3, e4⟩ := bind_ok e2
            obtain ⟨rfl, rfl⟩ := hL x2 (by simp) (lv + 1) (by omega) _ _ _ _ _ (hz.up (by omega)) e3
            rw [ho2] at e4
            exact loop_end (hz.o lv (by omega) hlv) e4
    | 0, h4, _ => exact h4.elim
    | k + 15, h4, _ => exact h4.elim
theorem ex_KX {M : Nat} {x : Ex} (h : Wx M x) : KX x := ⟨(ex_back h).1, ex_fst h, ex_name h⟩
end Go.Proofs.YtmdegomejbpldaaGreatDoor
end
section
set_option linter.unusedVariables false
set_option linter.unusedSimpArgs false
set_option maxRecDepth 20000
namespace Go.Proofs.YtmdegomejbpldaaGreatDoor
open Go Go.Ab
def tL : Tok := ⟨6, [], 0, 0⟩
def tA : Tok := ⟨7, [], 0, 0⟩
def tZ : Tok := ⟨8, [], 0, 0⟩
def moreN (ns : Nms) : List Tok := ns.flatMap fun n => [tG [44], tN n]
def moreX (ns : Nms) : List Tok := ns.flatMap fun n => [tG [44], tX n]
def parT : Nms → List Tok
  | [] => []
  | n :: r => tN n :: moreN r
def blkT (e : Bool) (p : List Tok) : List Tok := tG [58] :: tL :: (if e then [] else tA :: (p ++ [tZ]))
mutual
def stT : St → List Tok
  | .mk k t ns x b e => match k with
    | 1 => [tW wPass, tL]
    | 2 => tW wReturn :: (exTK x ++ [tL])
    | 3 => tN t :: tG [61] :: (exTK x ++ [tL])
    | 4 => tW wLoad :: tG [40] :: tX t :: (moreX ns ++ [tG [41], tL])
    | 5 => exTK x ++ [tL]
    | 6 => tW wDef :: tN t :: tG [40] :: (parT ns ++ tG [41] :: blkT b.isEmpty (stTs b))
    | 7 => tW wIf :: (exTK x ++ (blkT b.isEmpty (stTs b) ++ (if e.isEmpty then [] else tW wElse :: blkT e.isEmpty (stTs e))))
    | 8 => tW wFor :: tN t :: tW wIn :: (exTK x ++ blkT b.isEmpty (stTs b))
    | _ => []
  termination_by structural s => s
def stTs : List St → List Tok
  | [] => []
  | s :: r => stT s ++ stTs r
  termination_by structural s => s
end
structure Aft (z : List Tok) : Prop where
  a : hdK z ≠ 7
  e : isS wElse z = false
def PS (s : St) : Prop := ∀ F b d z y u, Aft z → stmtS F b d (stT s ++ z) = .ok y u → y = s ∧ u = z
structure SFst (t : Tok) (r : List Tok) : Prop where
  k : t.kind ≤ 5
  e : isS wElse (t :: r) = false
theorem fst_s {b : Bool} {t : Tok} (h : FstB b t) (r : List Tok) : SFst t r := ⟨by
  rcases h with h | h | h | ⟨h, _⟩ | ⟨h, _⟩ | ⟨_, ⟨h, _⟩ | ⟨h, _⟩⟩ <;> omega, h.no r (by decide) (fun _ => by decide)⟩
theorem st_fst {M : Nat} {s : St} (h : Ws M s) : ∃ t r, stT s = t :: r ∧ ∀ z, SFst t z := by
  obtain @⟨k, t, ns, x, b, e, h1, h2, h3, h4, h5, h6⟩ := h
  match k, h6 with
  | 1, _ => exact ⟨_, _, rfl, fun z => ⟨by decide, rfl⟩⟩
  | 2, _ => exact ⟨_, _, rfl, fun z => ⟨by decide, rfl⟩⟩
  | 3, _ => exact ⟨_, _, rfl, fun z => ⟨by show (1 : Nat) ≤ 5; decide, rfl⟩⟩
  | 4, _ => exact ⟨_, _, rfl, fun z => ⟨by decide, rfl⟩⟩
  | 5, h6 =>
    obtain ⟨a, r, e, hf⟩ := ex_fst h6.2.2.1
    exact ⟨a, r ++ [tL], by show exTK x ++ [tL] = _; rw [e]; rfl, fun z => fst_s hf z⟩
  | 6, _ => exact ⟨_, _, rfl, fun z => ⟨by decide, rfl⟩⟩
  | 7, _ => exact ⟨_, _, rfl, fun z => ⟨by decide, rfl⟩⟩
  | 8, _ => exact ⟨_, _, rfl, fun z => ⟨by decide, rfl⟩⟩
  | 0, h6 => exact h6.elim
  | k + 9, h6 => exact h6.elim
theorem aft_st {M : Nat} {s : St} (h : Ws M s) (z : List Tok) : Aft (stT s ++ z) ∧ hdK (stT s ++ z) ≠ 8 ∧ stT s ++ z ≠ [] := by
  obtain ⟨t, r, e, hf⟩ := st_fst h
  rw [e]
  have hk := (hf []).k
  exact ⟨⟨by show t.kind ≠ 7; omega, (hf (r ++ z)).e⟩, by show t.kind ≠ 8; omega, by simp⟩
theorem par_ok : ∀ (ns : Nms) (F : Nat) (n0 : Nms) (n : List UInt8) (z : List Tok) (y : Nms) (u : List Tok), paramS F n0 (tN n :: (moreN ns ++ tG [41] :: z)) = .ok y u → y = n0 ++ n :: ns ∧ u = tG [41] :: z
  | ns, 0, n0, n, z, y, u, h => by cases h
  | [], F + 1, n0, n, z, y, u, h => by
    rw [paramS] at h
    split at h
    · cases h
    · obtain ⟨t, w, e1, e2⟩ := bind_ok h
      obtain ⟨rfl, rfl⟩ := take_ok e1
      have e2 : Pr.ok (n0 ++ [n]) (tG [41] :: z) = .ok y u := e2
      cases e2; exact ⟨rfl, rfl⟩
  | m :: ns, F + 1, n0, n, z, y, u, h => by
    rw [paramS] at h
    split at h
    · cases h
    · obtain ⟨t, w, e1, e2⟩ := bind_ok h
      obtain ⟨rfl, rfl⟩ := take_ok e1
      have e2 : paramS F (n0 ++ [n]) (tN m :: (moreN ns ++ tG [41] :: z)) = .ok y u := e2
      have := par_ok ns F _ _ _ _ _ e2
      rw [List.append_assoc] at this
      exact this
theorem nam_ok : ∀ (ns : Nms) (F : Nat) (n0 : Nms) (n : List UInt8) (z : List Tok) (y : Nms) (u : List Tok), namesS F n0 (tX n :: (moreX ns ++ tG [41] :: z)) = .ok y u → y = n0 ++ n :: ns ∧ u = tG [41] :: z
  | ns, 0, n0, n, z, y, u, h => by cases h
  | [], F + 1, n0, n, z, y, u, h => by
    rw [namesS] at h
    split at h
    · cases h
    · obtain ⟨t, w, e1, e2⟩ := bind_ok h
      obtain ⟨rfl, rfl⟩ := take_ok e1
      have e2 : Pr.ok (n0 ++ [n]) (tG [41] :: z) = .ok y u := e2
      cases e2; exact ⟨rfl, rfl⟩
  | m :: ns, F + 1, n0, n, z, y, u, h => by
    rw [namesS] at h
    split at h
    · cases h
    · obtain ⟨t, w, e1, e2⟩ := bind_ok h
      obtain ⟨rfl, rfl⟩ := take_ok e1
      have e2 : namesS F (n0 ++ [n]) (tX m :: (moreX ns ++ tG [41] :: z)) = .ok y u := e2
      have := nam_ok ns F _ _ _ _ _ e2
      rw [List.append_assoc] at this
      exact this
theorem in_ok {M : Nat} : ∀ (b : List St), (∀ s ∈ b, Ws M s ∧ PS s) → ∀ F bb d l0 z y u, stmtsS F false bb d l0 (stTs b ++ tZ :: z) = .ok y u → y = l0 ++ b ∧ u = tZ :: z
  | b, _, 0, bb, d, l0, z, y, u, h => by cases h
  | [], _, F + 1, bb, d, l0, z, y, u, h => by
    rw [stmtsS] at h
    have h : Pr.ok l0 (tZ :: z) = .ok y u := h
    cases h; rw [List.append_nil]; exact ⟨rfl, rfl⟩
  | s :: b, hb, F + 1, bb, d, l0, z, y, u, h => by
    have hs := hb s (List.mem_cons_self ..)
    rw [stTs, List.append_assoc, stmtsS] at h
    have h8 := (aft_st hs.1 (stTs b ++ tZ :: z)).2.1
    have h8' : (hdK (stT s ++ (stTs b ++ tZ :: z)) == 8) = false := by simp [h8]
    have h : (if (hdK (stT s ++ (stTs b ++ tZ :: z)) == 8) = true then Pr.ok l0 (stT s ++ (stTs b ++ tZ :: z)) else (stmtS F bb d (stT s ++ (stTs b ++ tZ :: z))).bind fun s r => stmtsS F false bb d (l0 ++ [s]) r) = .ok y u := h
    rw [ite_n h8'] at h
    obtain ⟨a, w, e1, e2⟩ := bind_ok h
    have ha : Aft (stTs b ++ tZ :: z) := by
      cases b with
      | nil => exact ⟨fun h => absurd (show (8 : Nat) = 7 from h) (by decide), rfl⟩
      | cons s' b' => rw [stTs, List.append_assoc]; exact (aft_st (hb s' (by simp)).1 _).1
    obtain ⟨rfl, rfl⟩ := hs.2 _ _ _ _ _ _ ha e1
    have := in_ok b (fun x hx => hb x (List.mem_cons_of_mem _ hx)) F bb d _ z y u e2
    rw [List.append_assoc] at this
    exact this
theorem top_ok {M : Nat} : ∀ (b : List St), (∀ s ∈ b, Ws M s ∧ PS s) → ∀ F bb d l0 y u, stmtsS F true bb d l0 (stTs b) = .ok y u → y = l0 ++ b ∧ u = []
  | b, _, 0, bb, d, l0, y, u, h => by cases h
  | [], _, F + 1, bb, d, l0, y, u, h => by
    rw [stmtsS] at h
    have h : Pr.ok l0 [] = .ok y u := h
    cases h; rw [List.append_nil]; exact ⟨rfl, rfl⟩
  | s :: b, hb, F + 1, bb, d, l0, y, u, h => by
    have hs := hb s (List.mem_cons_self ..)
    rw [stTs, stmtsS] at h
    have h8 := (aft_st hs.1 (stTs b)).2.2
    have h8' : (stT s ++ stTs b).isEmpty = false := by simp [List.isEmpty_iff, h8]
    have h : (if (stT s ++ stTs b).isEmpty = true then Pr.ok l0 (stT s ++ stTs b) else (stmtS F bb d (stT s ++ stTs b)).bind fun s r => stmtsS F true bb d (l0 ++ [s]) r) = .ok y u := h
    rw [ite_n h8'] at h
    obtain ⟨a, w, e1, e2⟩ := bind_ok h
    have ha : Aft (stTs b) := by
      cases b with
      | nil => exact ⟨by decide, rfl⟩
      | cons s' b' => rw [stTs]; exact (aft_st (hb s' (by simp)).1 _).1
    obtain ⟨rfl, rfl⟩ := hs.2 _ _ _ _ _ _ ha e1
    have := top_ok b (fun x hx => hb x (List.mem_cons_of_mem _ hx)) F bb d _ y u e2
    rw [List.append_assoc] at this
    exact this
theorem blk_ok {M : Nat} {b : List St} (hb : ∀ s ∈ b, Ws M s ∧ PS s) {F bb d : Nat} {z u : List Tok} {y : List St} (hz : hdK z ≠ 7) (h : blockS F bb d (blkT b.isEmpty (stTs b) ++ z) = .ok y u) : y = b ∧ u = z := by
  cases F with
  | zero => cases h
  | succ F =>
    rw [blockS] at h
    obtain ⟨_, w, e1, e2⟩ := bind_ok h
    obtain rfl := must_ok e1
    obtain ⟨t, w, e3, e4⟩ := bind_ok e2
    have e3 : takeS 6 (tL :: ((if b.isEmpty then [] else tA :: (stTs b ++ [tZ])) ++ z)) = .ok t w := e3
    obtain ⟨rfl, rfl⟩ := take_ok e3
    obtain ⟨t, w, e5, e6⟩ := bind_ok e4
    cases b with
    | nil =>
      have e5 : takeS 7 z = .ok t w := e5
      unfold takeS at e5
      split at e5
      · cases e5
      · split at e5
        · rename_i hk; exact absurd hk hz
        · cases e5
    | cons s b =>
      have e5 : takeS 7 (tA :: ((stTs (s :: b) ++ [tZ]) ++ z)) = .ok t w := e5
      obtain ⟨rfl, rfl⟩ := take_ok e5
      obtain ⟨l, w, e7, e8⟩ := bind_ok e6
      rw [List.append_assoc] at e7
      obtain ⟨rfl, rfl⟩ := in_ok (s :: b) hb _ _ _ _ _ _ _ e7
      obtain ⟨t, w, e9, e10⟩ := bind_ok e8
      have e9 : takeS 8 (tZ :: z) = .ok t w := e9
      obtain ⟨rfl, rfl⟩ := take_ok e9
      cases e10; exact ⟨rfl, rfl⟩
theorem small_end {F b d : Nat} {s y : St} {r z u : List Tok} (h : ((smallS F b d r).bind fun s r => (takeS 6 r).bind fun _ r => .ok s r) = .ok y u) (hs : ∀ y u, smallS F b d r = .ok y u → y = s ∧ u = tL :: z) : y = s ∧ u = z := by
  obtain ⟨a, w, e1, e2⟩ := bind_ok h
  obtain ⟨rfl, rfl⟩ := hs _ _ e1
  obtain ⟨t, w, e3, e4⟩ := bind_ok e2
  obtain ⟨rfl, rfl⟩ := take_ok e3
  cases e4; exact ⟨rfl, rfl⟩
theorem bndL (z : List Tok) : Bnd 0 (tL :: z) := bnd_of (by decide) z
theorem st_back {M : Nat} {s : St} (h : Ws M s) : PS s := by
  induction h with
  | @mk k t ns x b e h1 h2 h3 h4 h5 h6 ih4 ih5 =>
    have hb : ∀ s ∈ b, Ws M s ∧ PS s := fun s hs => ⟨h4 s hs, ih4 s hs⟩
    have he : ∀ s ∈ e, Ws M s ∧ PS s := fun s hs => ⟨h5 s hs, ih5 s hs⟩
    intro F bb d z y u hz h
    cases F with
    | zero => cases h
    | succ F =>
      match k, h6 with
      | 1, h6 =>
        obtain ⟨rfl, rfl, rfl, rfl, rfl⟩ := h6
        have h : ((smallS F bb d (tW wPass :: tL :: z)).bind fun s r => (takeS 6 r).bind fun _ r => .ok s r) = .ok y u := h
        refine small_end h fun y u e1 => ?_
        have e1 : Pr.ok (St.mk 1 [] [] .zero [] []) (tL :: z) = .ok y u := e1
        cases e1; exact ⟨rfl, rfl⟩
      | 2, h6 =>
        obtain ⟨rfl, rfl, hx, rfl, rfl⟩ := h6
        have hk := ex_KX hx
        refine small_end h fun y u e1 => ?_
        obtain ⟨ft, fr, fe, ff⟩ := hk.f
        have h6 : hdK ((exTK x ++ [tL]) ++ z) ≠ 6 := by
          rw [fe]
          have := (fst_s ff []).k
          show ft.kind ≠ 6; omega
        have e1 : (if d = 0 then Pr.bad 4 (stT (.mk 2 [] [] x [] []) ++ z) else if hdK ((exTK x ++ [tL]) ++ z) ≠ 6 then (exprS F 0 ((exTK x ++ [tL]) ++ z)).bind fun x r => .ok (.mk 2 [] [] x [] []) r else .ok (.mk 2 [] [] (.mk 1 0 [] [] []) [] []) ((exTK x ++ [tL]) ++ z)) = .ok y u := e1
        split at e1
        · cases e1
        · rw [List.append_assoc] at e1
          obtain ⟨a, w, e3, e4⟩ := bind_ok e1
          obtain ⟨rfl, rfl⟩ := hk.p _ _ _ _ _ (bndL z) e3
          cases e4; exact ⟨rfl, rfl⟩
      | 3, h6 =>
        obtain ⟨_, rfl, hx, rfl, rfl⟩ := h6
        have hk := ex_KX hx
        refine small_end h fun y u e1 => ?_
        have e1 : ((exprS F 0 ((exTK x ++ [tL]) ++ z)).bind fun x r' => .ok (.mk 3 t [] x [] []) r') = .ok y u := e1
        rw [List.append_assoc] at e1
        obtain ⟨a, w, e3, e4⟩ := bind_ok e1
        obtain ⟨rfl, rfl⟩ := hk.p _ _ _ _ _ (bndL z) e3
        cases e4; exact ⟨rfl, rfl⟩
      | 4, h6 =>
        obtain ⟨_, ⟨hne, _⟩, rfl, rfl, rfl⟩ := h6
        refine small_end h fun y u e1 => ?_
        match ns, hne with
        | n :: ns, _ =>
          have e1 : loadS F bb (tW wLoad :: tG [40] :: tX t :: ((moreX (n :: ns) ++ [tG [41], tL]) ++ z)) = .ok y u := e1
          unfold loadS at e1
          split at e1
          · cases e1
          · obtain ⟨_, w, e3, e4⟩ := bind_ok e1
            obtain rfl := must_ok e3
            obtain ⟨q, w, e5, e6⟩ := bind_ok e4
            obtain ⟨rfl, rfl⟩ := take_ok e5
            obtain ⟨_, w, e7, e8⟩ := bind_ok e6
            obtain rfl := must_ok e7
            obtain ⟨ms, w, e9, e10⟩ := bind_ok e8
            have e9 : namesS F [] (tX n :: ((moreX ns ++ [tG [41], tL]) ++ z)) = .ok ms w := e9
            rw [List.append_assoc] at e9
            obtain ⟨rfl, rfl⟩ := nam_ok ns F [] n (tL :: z) _ _ e9
            obtain ⟨_, w, e11, e12⟩ := bind_ok e10
            obtain rfl := must_ok e11
            cases e12; exact ⟨rfl, rfl⟩
      | 5, h6 =>
        obtain ⟨rfl, rfl, hx, rfl, rfl⟩ := h6
        have hk := ex_KX hx
        have no : ∀ s, s ∉ [wNone, wTrue, wFalse, [40], [91], [123]] → s ≠ wNot ∧ s ≠ [45] → isS s (stT (.mk 5 [] [] x [] []) ++ z) = false := fun s h1 h2 => by
          show isS s ((exTK x ++ [tL]) ++ z) = false
          rw [List.append_assoc]; exact hk.no h1 h2 _
        rw [stmtS, ite_n (no _ (by decide) (by decide)), ite_n (no _ (by decide) (by decide)), ite_n (no _ (by decide) (by decide))] at h
        refine small_end h fun y u e1 => ?_
        unfold smallS at e1
        have hn : nameS (stT (.mk 5 [] [] x [] []) ++ z) = false := by
          show nameS ((exTK x ++ [tL]) ++ z) = false
          rw [List.append_assoc]; exact hk.n _ rfl
        rw [ite_n (no _ (by decide) (by decide)), ite_n (no _ (by decide) (by decide)), ite_n (no _ (by decide) (by decide)), ite_n hn] at e1
        have e1 : ((exprS F 0 ((exTK x ++ [tL]) ++ z)).bind fun x r => .ok (.mk 5 [] [] x [] []) r) = .ok y u := e1
        rw [List.append_assoc] at e1
        obtain ⟨a, w, e3, e4⟩ := bind_ok e1
        obtain ⟨rfl, rfl⟩ := hk.p _ _ _ _ _ (bndL z) e3
        cases e4; exact ⟨rfl, rfl⟩
      | 6, h6 =>
        obtain ⟨_, _, rfl, rfl⟩ := h6
        rw [stmtS] at h
        have h : (if bb > 0 then Pr.bad 4 (stT (.mk 6 t ns .zero b []) ++ z) else (takeS 1 (tN t :: tG [40] :: ((parT ns ++ tG [41] :: blkT b.isEmpty (stTs b)) ++ z))).bind fun t r => (mustS [40] r).bind fun _ r => (if hdK r = 1 then paramS F [] r else .ok [] r).bind fun ns r => (mustS [41] r).bind fun _ r => (blockS F bb (d + 1) r).bind fun l r => .ok (.mk 6 t.text ns .zero l []) r) = .ok y u := h
        split at h
        · cases h
        · obtain ⟨q, w, e1, e2⟩ := bind_ok h
          obtain ⟨rfl, rfl⟩ := take_ok e1
          obtain ⟨_, w, e3, e4⟩ := bind_ok e2
          obtain rfl := must_ok e3
          obtain ⟨ms, w, e5, e6⟩ := bind_ok e4
          have hms : ms = ns ∧ w = tG [41] :: (blkT b.isEmpty (stTs b) ++ z) := by
            cases ns with
            | nil =>
              have e5 : Pr.ok ([] : Nms) (tG [41] :: (blkT b.isEmpty (stTs b) ++ z)) = .ok ms w := e5
              cases e5; exact ⟨rfl, rfl⟩
            | cons n ns =>
              have e5 : paramS F [] (tN n :: ((moreN ns ++ tG [41] :: blkT b.isEmpty (stTs b)) ++ z)) = .ok ms w := e5
              rw [List.append_assoc] at e5
              exact par_ok ns F [] n _ _ _ e5
          obtain ⟨rfl, rfl⟩ := hms
          obtain ⟨_, w, e7, e8⟩ := bind_ok e6
          obtain rfl := must_ok e7
          obtain ⟨l, w, e9, e10⟩ := bind_ok e8
          obtain ⟨rfl, rfl⟩ := blk_ok hb hz.a e9
          cases e10; exact ⟨rfl, rfl⟩
      | 7, h6 =>
        obtain ⟨rfl, rfl, hx⟩ := h6
        have hk := ex_KX hx
        rw [stmtS] at h
        have h : ((exprS F 0 ((exTK x ++ (blkT b.isEmpty (stTs b) ++ (if e.isEmpty then [] else tW wElse :: blkT e.isEmpty (stTs e)))) ++ z)).bind fun x r => (blockS F bb d r).bind fun l r => if isS wElse r then (blockS F bb d r.tail).bind fun m r => .ok (.mk 7 [] [] x l m) r else .ok (.mk 7 [] [] x l []) r) = .ok y u := h
        rw [List.append_assoc, List.append_assoc] at h
        obtain ⟨a, w, e1, e2⟩ := bind_ok h
        obtain ⟨rfl, rfl⟩ := hk.p _ _ _ _ _ (bnd_sep [58] (by decide) _) e1
        obtain ⟨l, w, e3, e4⟩ := bind_ok e2
        cases e with
        | nil =>
          obtain ⟨rfl, rfl⟩ := blk_ok hb hz.a e3
          have e4 : (if isS wElse w = true then (blockS F bb d w.tail).bind fun m r => Pr.ok (St.mk 7 [] [] a l m) r else .ok (.mk 7 [] [] a l []) w) = .ok y u := e4
          rw [ite_n hz.e] at e4
          cases e4; exact ⟨rfl, rfl⟩
        | cons s e =>
          have e3 : blockS F bb d (blkT b.isEmpty (stTs b) ++ (tW wElse :: (blkT (s :: e).isEmpty (stTs (s :: e)) ++ z))) = .ok l w := e3
          obtain ⟨rfl, rfl⟩ := blk_ok hb (by show (5 : Nat) ≠ 7; decide) e3
          have e4 : ((blockS F bb d (blkT (s :: e).isEmpty (stTs (s :: e)) ++ z)).bind fun m r => Pr.ok (St.mk 7 [] [] a l m) r) = .ok y u := e4
          obtain ⟨m, w, e5, e6⟩ := bind_ok e4
          obtain ⟨rfl, rfl⟩ := blk_ok he hz.a e5
          cases e6; exact ⟨rfl, rfl⟩
      | 8, h6 =>
        obtain ⟨_, rfl, hx, rfl⟩ := h6
        have hk := ex_KX hx
        rw [stmtS] at h
        have h : ((takeS 1 (tN t :: tW wIn :: ((exTK x ++ blkT b.isEmpty (stTs b)) ++ z))).bind fun t r => (mustS wIn r).bind fun _ r => (exprS F 0 r).bind fun x r => (blockS F bb d r).bind fun l r => .ok (.mk 8 t.text [] x l []) r) = .ok y u := h
        obtain ⟨q, w, e1, e2⟩ := bind_ok h
        obtain ⟨rfl, rfl⟩ := take_ok e1
        obtain ⟨_, w, e3, e4⟩ := bind_ok e2
        obtain rfl := must_ok e3
        obtain ⟨a, w, e5, e6⟩ := bind_ok e4
        have e5 : exprS F 0 ((exTK x ++ blkT b.isEmpty (stTs b)) ++ z) = .ok a w := e5
        rw [List.append_assoc] at e5
        obtain ⟨rfl, rfl⟩ := hk.p _ _ _ _ _ (bnd_sep [58] (by decide) _) e5
        obtain ⟨l, w, e7, e8⟩ := bind_ok e6
        obtain ⟨rfl, rfl⟩ := blk_ok hb hz.a e7
        cases e8; exact ⟨rfl, rfl⟩
      | 0, h6 => exact h6.elim
      | k + 9, h6 => exact h6.elim
theorem read_back {M : Nat} {l : List St} (hl : ∀ s ∈ l, Ws M s) {F : Nat} {y : List St} {u : List Tok} (h : stmtsS F true 0 0 [] (stTs l) = .ok y u) : y = l :=
  (top_ok l (fun s hs => ⟨hl s hs, st_back (hl s hs)⟩) F 0 0 [] y u h).1
end Go.Proofs.YtmdegomejbpldaaGreatDoor
end
section
set_option linter.unusedVariables false
set_option linter.unusedSimpArgs false
set_option maxRecDepth 20000
namespace Go.Proofs.YtmdegomejbpldaaGreatDoor
open Go Go.Ab
def bareT (t : Tok) : Tok := ⟨t.kind, t.text, t.num, 0⟩
def bareL (l : List Tok) : List Tok := l.map bareT
theorem bareT_eq {t t' : Tok} (h : bareT t = bareT t') : t.kind = t'.kind ∧ t.text = t'.text ∧ t.num = t'.num := by
  unfold bareT at h
  simp only [Tok.mk.injEq, and_true] at h
  exact h
theorem bareL_cons {t : Tok} {u r' : List Tok} (h : bareL r' = bareL (t :: u)) : ∃ t' u', r' = t' :: u' ∧ bareT t = bareT t' ∧ bareL u' = bareL u := by
  cases r' with
  | nil => cases h
  | cons t' u' =>
    simp only [bareL, List.map_cons, List.cons.injEq] at h
    exact ⟨t', u', rfl, h.1.symm, h.2⟩
theorem bareL_hd {r r' : List Tok} (h : bareL r' = bareL r) : hdK r = hdK r' ∧ hdT r = hdT r' := by
  cases r with
  | nil => cases r' with
    | nil => exact ⟨rfl, rfl⟩
    | cons => cases h
  | cons t u =>
    obtain ⟨t', u', rfl, h1, _⟩ := bareL_cons h
    obtain ⟨h1, h2, _⟩ := bareT_eq h1
    exact ⟨h1, h2⟩
section
variable (z z' : List Tok) (Q : Prop) (e : Nat)
def Lf (r r' : List Tok) : Prop := ∃ a, r = a ++ z ∧ bareL r' = bareL (a ++ z')
def Sm {α : Type} (R : α → α → Prop) (m : Nat) (r r' : List Tok) (x x' : Pr α) : Prop :=
  (∀ y u, x = .ok y u → u <:+ r ∧ u.length + m ≤ r.length) ∧
  (Lf z z' r r' → ∀ y u, x = .ok y u → (∃ a, u = a ++ z ∧ (a = [] → Q)) → (∃ y' u', x' = .ok y' u' ∧ R y y' ∧ Lf z z' u u') ∨ (0 < e ∧ ∃ k, x' = .bad 2 k))
structure Ben : Prop where
  n1 : (hdK z == 4 && hdT z == [61]) = false
  n2 : (hdK z' == 4 && hdT z' == [61]) = false
  bin : Q → ∀ k, isOf (binS k) z' = false
  par : Q → isS [40] z' = false
  idx : Q → isS [91] z' = false
end
section
variable {z z' : List Tok} {Q : Prop} {e : Nat} {α β : Type} {R : α → α → Prop} {R' : β → β → Prop} {m m' : Nat} {r r' : List Tok}
theorem Sm.bad {k : Nat} {u : List Tok} {x' : Pr α} : Sm z z' Q e R m r r' (.bad k u) x' := ⟨nofun, fun _ => nofun⟩
theorem Sm.out {x' : Pr α} : Sm z z' Q e R m r r' .out x' := ⟨nofun, fun _ => nofun⟩
theorem Sm.ok {y y' : α} (h : R y y') : Sm z z' Q e R 0 r r' (.ok y r) (.ok y' r') :=
  ⟨by intro _ _ h; cases h; exact ⟨List.suffix_refl _, Nat.le_refl _⟩, fun hl _ _ hx _ => by cases hx; exact .inl ⟨y', r', rfl, h, hl⟩⟩
theorem Sm.bad2 {x : Pr α} {k : List Tok} (h : 0 < e) (hx : ∀ y u, x = .ok y u → u <:+ r ∧ u.length + m ≤ r.length) : Sm z z' Q e R m r r' x (.bad 2 k) := ⟨hx, fun _ _ _ _ _ => .inr ⟨h, k, rfl⟩⟩
theorem Sm.mono {x x' : Pr α} (h : Sm z z' Q e R m r r' x x') (hm : m' ≤ m) : Sm z z' Q e R m' r r' x x' := ⟨fun y u hx => by have := h.1 y u hx; exact ⟨this.1, by omega⟩, h.2⟩
theorem Sm.bind {x x' : Pr α} {f f' : α → List Tok → Pr β} (hr : ∀ y, R y y) (h : Sm z z' Q e R m r r' x x') (hf : ∀ y y' u u', R y y' → Sm z z' Q e R' m' u u' (f y u) (f' y' u')) : Sm z z' Q e R' (m + m') r r' (x.bind f) (x'.bind f') := by
  cases x with
  | out => exact .out
  | bad k u => exact .bad
  | ok y u =>
    refine ⟨fun w v hw => ?_, fun hL w v hw ha => ?_⟩
    · have h1 := h.1 y u rfl
      have h2 := (hf y y u u (hr y)).1 w v hw
      exact ⟨h2.1.trans h1.1, by omega⟩
    · have h2 := (hf y y u u (hr y)).1 w v hw
      obtain ⟨a, hav, haq⟩ := ha
      obtain ⟨b, hb⟩ := h2.1
      rcases h.2 hL y u rfl ⟨b ++ a, by rw [← hb, hav, List.append_assoc], fun h => haq (List.append_eq_nil_iff.1 h).2⟩ with ⟨y', u', hx', hR, hL'⟩ | ⟨he, k, hx'⟩
      · subst hx'
        exact (hf y y' u u' hR).2 hL' w v hw ⟨a, hav, haq⟩
      · subst hx'; exact .inr ⟨he, k, rfl⟩
def hdN (r : List Tok) : Nat := match r with | [] => 0 | t :: _ => t.num
structure Hd (r r' : List Tok) : Prop where
  num : hdN r = hdN r'
  k : hdK r = hdK r'
  t : hdT r = hdT r'
  n : nameS r = nameS r'
theorem Hd.is {r r' : List Tok} (h : Hd r r') (s : List UInt8) : isS s r = isS s r' := by unfold isS; rw [h.k, h.t]
theorem Hd.of {r r' : List Tok} (h : Hd r r') (s : List (List UInt8)) : isOf s r = isOf s r' := by unfold isOf; rw [h.k, h.t]
theorem Lf.hd (hB : Ben z z' False) (h : Lf z z' r r') (hlt : z.length < r.length) : Hd r r' ∧ Lf z z' r.tail r'.tail := by
  obtain ⟨a, rfl, hb⟩ := h
  cases a with
  | nil => simp at hlt
  | cons t a =>
    obtain ⟨t', u', rfl, h1, h2⟩ := bareL_cons hb
    obtain ⟨hk, ht, hn⟩ := bareT_eq h1
    refine ⟨⟨hn, hk, ht, ?_⟩, a, rfl, h2⟩
    have n1 := hB.n1
    have n2 := hB.n2
    have hh : (hdK (a ++ z) == 4 && hdT (a ++ z) == [61]) = (hdK u' == 4 && hdT u' == [61]) := by
      cases a with
      | nil =>
        have := bareL_hd h2
        have e2 : (hdK u' == 4 && hdT u' == [61]) = false := by rw [← this.1, ← this.2]; exact n2
        rw [List.nil_append, n1, e2]
      | cons s a =>
        obtain ⟨s', v', rfl, h3, h4⟩ := bareL_cons h2
        obtain ⟨hk, ht, _⟩ := bareT_eq h3
        show (s.kind == 4 && s.text == [61]) = (s'.kind == 4 && s'.text == [61])
        rw [ht, hk]
    show (t.kind == 1 && hdK (a ++ z) == 4 && hdT (a ++ z) == [61]) = (t'.kind == 1 && hdK u' == 4 && hdT u' == [61])
    rw [Bool.and_assoc, Bool.and_assoc, hk, hh]
theorem Sm.ite {b b' : Prop} [Decidable b] [Decidable b'] {x x' y y' : Pr α} (hB : Ben z z' False) (hb : Hd r r' → (b ↔ b')) (h1 : b → Sm z z' Q e R (m + 1) r r' x x') (h2 : ¬ b → Sm z z' Q e R (m + 1) r r' y y') : Sm z z' Q e R (m + 1) r r' (if b then x else y) (if b' then x' else y') := by
  have key : ∀ w v, (if b then x else y) = .ok w v → v <:+ r ∧ v.length + (m + 1) ≤ r.length := fun w v h => by
    by_cases hc : b
    · rw [if_pos hc] at h; exact (h1 hc).1 w v h
    · rw [if_neg hc] at h; exact (h2 hc).1 w v h
  refine ⟨key, fun hL w v h ha => ?_⟩
  have hk := key w v h
  have hz : z.length < r.length := by
    obtain ⟨a, hav, _⟩ := ha
    have := congrArg List.length hav
    rw [List.length_append] at this; omega
  have hbb := hb (hL.hd hB hz).1
  by_cases hc : b
  · rw [if_pos hc] at h; rw [if_pos (hbb.1 hc)]; exact (h1 hc).2 hL w v h ha
  · rw [if_neg hc] at h; rw [if_neg (fun h => hc (hbb.2 h))]; exact (h2 hc).2 hL w v h ha
theorem Sm.ite0 {b b' : Prop} [Decidable b] [Decidable b'] {x x' y y' : Pr α} (hB : Ben z z' False) (hb : Hd r r' → (b ↔ b')) (hz : Q → hdK r' = hdK z' → hdT r' = hdT z' → ¬ b') (h1 : b → Sm z z' Q e R 1 r r' x x') (h2 : ¬ b → Sm z z' Q e R 0 r r' y y') : Sm z z' Q e R 0 r r' (if b then x else y) (if b' then x' else y') := by
  refine ⟨fun w v h => ?_, fun hL w v h ha => ?_⟩
  · by_cases hc : b
    · rw [if_pos hc] at h; have := (h1 hc).1 w v h; exact ⟨this.1, by omega⟩
    · rw [if_neg hc] at h; exact (h2 hc).1 w v h
  · rcases Nat.lt_or_ge z.length r.length with hlt | hge
    · have hbb := hb (hL.hd hB hlt).1
      by_cases hc : b
      · rw [if_pos hc] at h; rw [if_pos (hbb.1 hc)]; exact (h1 hc).2 hL w v h ha
      · rw [if_neg hc] at h; rw [if_neg (fun h => hc (hbb.2 h))]; exact (h2 hc).2 hL w v h ha
    · have hrz : r = z := by
        obtain ⟨a, rfl, _⟩ := hL
        rw [List.length_append] at hge
        have : a = [] := List.length_eq_zero_iff.1 (by omega)
        rw [this]; rfl
      obtain ⟨a, hav, haq⟩ := ha
      have hal := congrArg List.length hav
      rw [List.length_append] at hal
      by_cases hc : b
      · rw [if_pos hc] at h
        have := (h1 hc).1 w v h
        omega
      · rw [if_neg hc] at h
        have hv := (h2 hc).1 w v h
        have hQ : Q := haq (List.length_eq_zero_iff.1 (by omega))
        have hbz : bareL r' = bareL z' := by
          obtain ⟨a, hra, hb⟩ := hL
          have : a = [] := by
            have := congrArg List.length hra
            rw [List.length_append] at this
            exact List.length_eq_zero_iff.1 (by omega)
          rw [this] at hb; exact hb
        have hh := bareL_hd hbz
        rw [if_neg (hz hQ hh.1.symm hh.2.symm)]
        exact (h2 hc).2 hL w v h ⟨a, hav, haq⟩
theorem Sm.tl {x x' : Pr α} (hB : Ben z z' False) (hp : r.tail.length + 1 ≤ r.length) (h : Sm z z' Q e R m r.tail r'.tail x x') : Sm z z' Q e R (m + 1) r r' x x' := by
  refine ⟨fun w v hx => ?_, fun hL w v hx ha => ?_⟩
  · have := h.1 w v hx; exact ⟨this.1.trans (suf_tl r), by omega⟩
  · have h1 := h.1 w v hx
    have hz : z.length < r.length := by
      obtain ⟨a, hav, _⟩ := ha
      have := congrArg List.length hav
      rw [List.length_append] at this; omega
    exact h.2 (hL.hd hB hz).2 w v hx ha
theorem Sm.hdw {x x' x1 : Pr α} (hB : Ben z z' False) (h : Sm z z' Q e R (m + 1) r r' x x1) (hx : Hd r r' → x' = x1) : Sm z z' Q e R (m + 1) r r' x x' := by
  refine ⟨h.1, fun hL w v hw ha => ?_⟩
  have hk := h.1 w v hw
  have hz : z.length < r.length := by
    obtain ⟨a, hav, _⟩ := ha
    have := congrArg List.length hav
    rw [List.length_append] at this; omega
  rw [hx (hL.hd hB hz).1]
  exact h.2 hL w v hw ha
theorem levS_d {F n : Nat} {r : List Tok} : ∀ k, k ≠ 2 → k ≠ 5 → levS (F + 1) k n r = (levS F (k + 1) n r).bind fun x r => loopS F k n x r
  | 0, _, _ => rfl
  | 1, _, _ => rfl
  | 2, h, _ => absurd rfl h
  | 3, _, _ => rfl
  | 4, _, _ => rfl
  | 5, _, h => absurd rfl h
  | k + 6, _, _ => rfl
theorem atomS_eq {F n : Nat} (r : List Tok) : atomS (F + 1) n r = if hdK r = 1 then .ok (.mk 6 0 (hdT r) [] []) r.tail else if hdK r = 2 then .ok (.mk 4 (hdN r) [] [] []) r.tail else if hdK r = 3 then .ok (.mk 5 0 (hdT r) [] []) r.tail
    else if isS wNone r then .ok (.mk 1 0 [] [] []) r.tail else if isS wTrue r then .ok (.mk 2 0 [] [] []) r.tail else if isS wFalse r then .ok (.mk 3 0 [] [] []) r.tail
    else if isS [40] r then (exprS F n r.tail).bind fun x r => (mustS [41] r).bind fun _ r => .ok x r else if isS [91] r then listS F n r.tail else if isS [123] r then dictS F n [] r.tail else .bad 1 r := by
  cases r with
  | nil => rfl
  | cons t u => rfl
theorem mustS_m (hB : Ben z z' False) (s : List UInt8) : Sm z z' Q e (fun _ _ => True) 1 r r' (mustS s r) (mustS s r') :=
  .ite hB (fun h => by rw [h.is]) (fun h => .tl hB (isS_pos h) (.ok trivial)) (fun _ => .bad)
theorem takeS_m (hB : Ben z z' False) (k : Nat) : Sm z z' Q e (fun t t' => t.text = t'.text ∧ t.num = t'.num) 1 r r' (takeS k r) (takeS k r') := by
  cases r with
  | nil => exact .bad
  | cons t u =>
    have hs : ∀ w v, takeS k (t :: u) = .ok w v → v <:+ (t :: u) ∧ v.length + 1 ≤ (t :: u).length := fun w v h => ⟨takeS_s k _ w v h, by
      have h : (if t.kind = k then Pr.ok t u else .bad 1 (t :: u)) = .ok w v := h
      by_cases hk : t.kind = k
      · rw [if_pos hk] at h; cases h; simp
      · rw [if_neg hk] at h; cases h⟩
    refine ⟨hs, fun hL w v h ha => ?_⟩
    have h1 := hs w v h
    have hz : z.length < (t :: u).length := by
      obtain ⟨a, hav, _⟩ := ha
      have := congrArg List.length hav
      rw [List.length_append] at this; omega
    obtain ⟨a, hra, hb⟩ := hL
    cases a with
    | nil => rw [hra] at hz; simp at hz
    | cons t2 a =>
      obtain ⟨rfl, rfl⟩ := List.cons.inj hra
      obtain ⟨t', u', rfl, h1, h2⟩ := bareL_cons hb
      obtain ⟨hk, ht, hn⟩ := bareT_eq h1
      have h : (if t.kind = k then Pr.ok t (a ++ z) else .bad 1 (t :: (a ++ z))) = .ok w v := h
      by_cases hkk : t.kind = k
      · rw [if_pos hkk] at h
        cases h
        refine .inl ⟨t', u', ?_, ⟨ht, hn⟩, a, rfl, h2⟩
        show (if t'.kind = k then _ else _) = _
        rw [if_pos (by rw [← hk]; exact hkk)]
      · rw [if_neg hkk] at h; cases h
structure AllM (z z' : List Tok) (Q : Prop) (e F F' : Nat) : Prop where
  expr : ∀ n r r', n + e ≤ 30 → Sm z z' Q e Eq 1 r r' (exprS F n r) (exprS F' (n + e) r')
  lev : ∀ k n r r', n + e ≤ 30 → Sm z z' Q e Eq 1 r r' (levS F k n r) (levS F' k (n + e) r')
  loop : ∀ k n x r r', n + e ≤ 30 → Sm z z' Q e Eq 0 r r' (loopS F k n x r) (loopS F' k (n + e) x r')
  post : ∀ n x r r', n + e ≤ 30 → Sm z z' Q e Eq 0 r r' (postS F n x r) (postS F' (n + e) x r')
  call : ∀ n ks ns r r', n + e ≤ 30 → Sm z z' Q e Eq 1 r r' (callS F n ks ns r) (callS F' (n + e) ks ns r')
  atom : ∀ n r r', n + e ≤ 30 → Sm z z' Q e Eq 1 r r' (atomS F n r) (atomS F' (n + e) r')
  list : ∀ n r r', n + e ≤ 30 → Sm z z' Q e Eq 1 r r' (listS F n r) (listS F' (n + e) r')
  item : ∀ n ks r r', n + e ≤ 30 → Sm z z' Q e Eq 1 r r' (itemS F n ks r) (itemS F' (n + e) ks r')
  dict : ∀ n ks r r', n + e ≤ 30 → Sm z z' Q e Eq 1 r r' (dictS F n ks r) (dictS F' (n + e) ks r')
theorem allM {z z' : List Tok} {Q : Prop} (hQ : Ben z z' Q) (F : Nat) : ∀ F', F ≤ F' → ∀ e, AllM z z' Q e F F' := by
  have hB : Ben z z' False := ⟨hQ.n1, hQ.n2, False.elim, False.elim, False.elim⟩
  induction F with
  | zero => intro F' _ e; exact ⟨fun _ _ _ _ => .out, fun _ _ _ _ _ => .out, fun _ _ _ _ _ _ => .out, fun _ _ _ _ _ => .out, fun _ _ _ _ _ _ => .out, fun _ _ _ _ => .out, fun _ _ _ _ => .out, fun _ _ _ _ _ => .out, fun _ _ _ _ _ => .out⟩
  | succ F ih =>
    intro F' hF e
    obtain ⟨F', rfl⟩ : ∃ G, F' = G + 1 := ⟨F' - 1, by omega⟩
    have ih0 := ih F' (by omega) 0
    have ih := ih F' (by omega) e
    have eqr : ∀ {α : Type} (y : α), y = y := fun _ => rfl
    have bin : ∀ {k n : Nat} {r r' : List Tok}, n + e ≤ 30 → Sm z z' Q e Eq 1 r r' ((levS F (k + 1) n r).bind fun x r => loopS F k n x r) ((levS F' (k + 1) (n + e) r').bind fun x r => loopS F' k (n + e) x r) := fun {k n r r'} hn =>
      (Sm.bind (m := 1) (m' := 0) eqr (ih.lev (k + 1) n r r' hn) fun y y' u u' hy => by subst hy; exact ih.loop k n y u u' hn)
    have deep : ∀ {m n : Nat} {r r' : List Tok} {x x' : Pr Ex} {k k' : List Tok}, n + e ≤ 30 → (n + 1 + e ≤ 30 → Sm z z' Q e Eq m r r' x x') → (n + 1 ≤ 30 → ∀ w v, x = .ok w v → v <:+ r ∧ v.length + m ≤ r.length) → Sm z z' Q e Eq m r r' (if n = 30 then .bad 2 k else x) (if n + e = 30 then .bad 2 k' else x') := fun {m n r r' x x' k k'} hn h hs => by
      by_cases h1 : n = 30
      · rw [if_pos h1]; exact .bad
      · rw [if_neg h1]
        by_cases h2 : n + e = 30
        · rw [if_pos h2]; exact .bad2 (by omega) (hs (by omega))
        · rw [if_neg h2]; exact h (by omega)
    have must : ∀ {α : Type} {m : Nat} {r r' : List Tok} (s : List UInt8) {f f' : Unit → List Tok → Pr α}, (∀ u u', Sm z z' Q e Eq m u u' (f () u) (f' () u')) → Sm z z' Q e Eq (1 + m) r r' ((mustS s r).bind f) ((mustS s r').bind f') := fun s f f' h => .bind (fun _ => trivial) (mustS_m hB s) fun _ _ u u' _ => h u u'
    have exp : ∀ {m n : Nat} {r r' : List Tok} {f f' : Ex → List Tok → Pr Ex}, n + e ≤ 30 → (∀ y u u', Sm z z' Q e Eq m u u' (f y u) (f' y u')) → Sm z z' Q e Eq (1 + m) r r' ((exprS F n r).bind f) ((exprS F' (n + e) r').bind f') := fun hn h => .bind eqr (ih.expr _ _ _ hn) fun y y' u u' hy => by subst hy; exact h y u u'
    have sh : ∀ n, n + 1 + e = n + e + 1 := fun n => by omega
    refine ⟨?_, ?_, ?_, ?_, ?_, ?_, ?_, ?_, ?_⟩
    · intro n r r' hn
      rw [exprS, exprS]
      exact deep hn (fun h => sh n ▸ ih.lev 0 (n + 1) r r' h) (fun h => (ih0.lev 0 (n + 1) r r h).1)
    · intro k n r r' hn
      by_cases h2 : k = 2
      · subst h2
        rw [levS_2, levS_2]
        refine .ite hB (fun h => by rw [h.is]) (fun hi => ?_) (fun _ => ?_)
        · refine .tl hB (isS_pos hi) (deep hn (fun h => ?_) (fun h => ?_))
          · exact Sm.mono (m := 1 + 0) (.bind eqr (sh n ▸ ih.lev 2 (n + 1) _ _ h) fun y y' u u' hy => by subst hy; exact .ok rfl) (by omega)
          · have : Sm z z' Q 0 Eq (1 + 0) r.tail r.tail ((levS F 2 (n + 1) r.tail).bind fun x r => .ok (Ex.mk 12 0 [] [x] []) r) ((levS F' 2 (n + 1 + 0) r.tail).bind fun x r => .ok (Ex.mk 12 0 [] [x] []) r) := .bind eqr (ih0.lev 2 (n + 1) _ _ h) fun y y' u u' hy => by subst hy; exact .ok rfl
            exact fun w v hx => ⟨(this.1 w v hx).1, by have := (this.1 w v hx).2; omega⟩
        · refine Sm.bind (m := 1) (m' := 0) eqr (ih.lev 3 n r r' hn) fun y y' u u' hy => ?_
          subst hy
          refine .ite0 hB (fun h => by rw [h.of]) (fun hq h1 h2 => ?_) (fun ho => ?_) (fun _ => .ok rfl)
          · have := hQ.bin hq 2
            unfold isOf at this ⊢
            rw [h1, h2, this]; exact Bool.false_ne_true
          · exact .hdw (x1 := (levS F' 3 (n + e) u'.tail).bind fun w v => .ok (binE (hdT u) y w) v) hB ((Sm.tl hB (isOf_pos ho) (Sm.bind (m := 1) (m' := 0) eqr (ih.lev 3 n _ _ hn) fun w w' v v' hw => by subst hw; exact .ok rfl)).mono (by omega)) (fun h => by rw [h.t])
      · by_cases h5 : k = 5
        · subst h5
          rw [levS_5, levS_5]
          refine .ite hB (fun h => by rw [h.is]) (fun hi => ?_) (fun _ => ?_)
          · refine .tl hB (isS_pos hi) (deep hn (fun h => ?_) (fun h => ?_))
            · exact Sm.mono (m := 1 + 0) (.bind eqr (sh n ▸ ih.lev 5 (n + 1) _ _ h) fun y y' u u' hy => by subst hy; exact .ok rfl) (by omega)
            · have : Sm z z' Q 0 Eq (1 + 0) r.tail r.tail ((levS F 5 (n + 1) r.tail).bind fun x r => .ok (Ex.mk 13 0 [] [x] []) r) ((levS F' 5 (n + 1 + 0) r.tail).bind fun x r => .ok (Ex.mk 13 0 [] [x] []) r) := .bind eqr (ih0.lev 5 (n + 1) _ _ h) fun y y' u u' hy => by subst hy; exact .ok rfl
              exact fun w v hx => ⟨(this.1 w v hx).1, by have := (this.1 w v hx).2; omega⟩
          · exact Sm.bind (m := 1) (m' := 0) eqr (ih.atom n r r' hn) fun y y' u u' hy => by subst hy; exact ih.post n y u u' hn
        · rw [levS_d k h2 h5, levS_d k h2 h5]
          exact bin hn
    · intro k n x r r' hn
      rw [loopS, loopS]
      refine .ite0 hB (fun h => by rw [h.of]) (fun hq h1 h2 => ?_) (fun ho => ?_) (fun _ => .ok rfl)
      · have := hQ.bin hq k
        unfold isOf at this ⊢
        rw [h1, h2, this]; exact Bool.false_ne_true
      · exact .hdw (x1 := (levS F' (k + 1) (n + e) r'.tail).bind fun y u => loopS F' k (n + e) (binE (hdT r) x y) u) hB ((Sm.tl hB (isOf_pos ho) (Sm.bind (m := 1) (m' := 0) eqr (ih.lev (k + 1) n _ _ hn) fun y y' u u' hy => by subst hy; exact ih.loop k n _ u u' hn)).mono (by omega)) (fun h => by rw [h.t])
    · intro n x r r' hn
      rw [postS, postS]
      refine .ite0 hB (fun h => by rw [h.is]) (fun hq h1 h2 => ?_) (fun hi => ?_) (fun _ => .ite0 hB (fun h => by rw [h.is]) (fun hq h1 h2 => ?_) (fun hi => ?_) (fun _ => .ok rfl))
      · have := hQ.par hq
        unfold isS at this ⊢
        rw [h1, h2, this]; exact Bool.false_ne_true
      · exact (Sm.tl hB (isS_pos hi) (Sm.bind (m := 1) (m' := 0) eqr (ih.call n _ _ _ _ hn) fun y y' u u' hy => by subst hy; exact ih.post n y u u' hn)).mono (by omega)
      · have := hQ.idx hq
        unfold isS at this ⊢
        rw [h1, h2, this]; exact Bool.false_ne_true
      · exact (Sm.tl hB (isS_pos hi) (exp (m := 1 + 0) hn fun y u u' => must _ fun v v' => ih.post n _ v v' hn)).mono (by omega)
    · intro n ks ns r r' hn
      rw [callS, callS]
      refine .ite hB (fun h => by rw [h.is]) (fun hi => .tl hB (isS_pos hi) (.ok rfl)) (fun _ => ?_)
      have h0 : Sm z z' Q e (fun _ _ => True) 0 r r' (if ks.length > 1 then mustS [44] r else .ok () r) (if ks.length > 1 then mustS [44] r' else .ok () r') := by
        split
        · exact (mustS_m hB _).mono (by omega)
        · exact .ok trivial
      refine Sm.mono (m := 0 + 1) (.bind (m := 0) (m' := 0 + 1) (fun _ => trivial) h0 fun _ _ u u' _ => ?_) (by omega)
      refine Sm.ite (m := 0) hB (fun h => by rw [h.n]) (fun hi => ?_) (fun _ => ?_)
      · refine Sm.hdw (m := 0) (x1 := if ns.contains (hdT u) then .bad 6 u' else (exprS F' (n + e) u'.tail.tail).bind fun y v => callS F' (n + e) (ks ++ [y]) (ns ++ [hdT u]) v) hB ?_ (fun h => by rw [h.t])
        by_cases hc : ns.contains (hdT u) = true
        · rw [if_pos hc, if_pos hc]; exact .bad
        · rw [if_neg hc, if_neg hc]
          have hp := nameS_pos hi
          have e1 := List.length_tail (l := u)
          have e2 := List.length_tail (l := u.tail)
          have ht : u.tail.tail.length + 1 ≤ u.tail.length := by omega
          refine Sm.mono (m := 1 + 1 + 1 + 1) ?_ (by omega)
          exact Sm.tl hB (by omega) (Sm.tl hB ht (exp (m := 1) hn fun y v v' => ih.call n _ _ v v' hn))
      · split
        · exact .bad
        · refine Sm.mono (m := 1 + 1) ?_ (by omega)
          exact exp hn fun y v v' => ih.call n _ _ v v' hn
    · intro n r r' hn
      rw [atomS_eq, atomS_eq]
      have pos : ∀ {j : Nat}, hdK r = j + 1 → r.tail.length + 1 ≤ r.length := fun h => hdK_pos (by omega)
      refine .ite hB (fun h => by rw [h.k]) (fun h => .hdw (x1 := .ok (.mk 6 0 (hdT r) [] []) r'.tail) hB (.tl hB (pos h) (.ok rfl)) (fun h => by rw [h.t])) (fun _ => .ite hB (fun h => by rw [h.k]) (fun h => .hdw (x1 := .ok (.mk 4 (hdN r) [] [] []) r'.tail) hB (.tl hB (pos h) (.ok rfl)) (fun h => by rw [h.num])) (fun _ => .ite hB (fun h => by rw [h.k]) (fun h => .hdw (x1 := .ok (.mk 5 0 (hdT r) [] []) r'.tail) hB (.tl hB (pos h) (.ok rfl)) (fun h => by rw [h.t]))
        (fun _ => .ite hB (fun h => by rw [h.is]) (fun h => .tl hB (isS_pos h) (.ok rfl)) (fun _ => .ite hB (fun h => by rw [h.is]) (fun h => .tl hB (isS_pos h) (.ok rfl)) (fun _ => .ite hB (fun h => by rw [h.is]) (fun h => .tl hB (isS_pos h) (.ok rfl)) (fun _ => .ite hB (fun h => by rw [h.is]) (fun h => ?_) (fun _ => .ite hB (fun h => by rw [h.is]) (fun h => ?_) (fun _ => .ite hB (fun h => by rw [h.is]) (fun h => ?_) (fun _ => .bad)))))))))
      · exact (Sm.tl hB (isS_pos h) (exp (m := 1 + 0) hn fun y u u' => must _ fun v v' => .ok rfl)).mono (by omega)
      · exact (Sm.tl hB (isS_pos h) (ih.list n _ _ hn)).mono (by omega)
      · exact (Sm.tl hB (isS_pos h) (ih.dict n _ _ _ hn)).mono (by omega)
    · intro n r r' hn
      rw [listS, listS]
      refine .ite hB (fun h => by rw [h.is]) (fun h => .tl hB (isS_pos h) (.ok rfl)) (fun _ => Sm.mono (m := 1 + 1) (exp hn fun x u u' => ?_) (by omega))
      refine .ite hB (fun h => by rw [h.is]) (fun h => ?_) (fun _ => ih.item n _ u u' hn)
      refine Sm.mono (.tl hB (isS_pos h) (Sm.bind (m := 1) (m' := 1 + (1 + 1)) (fun _ => ⟨rfl, rfl⟩) (takeS_m hB 1) fun t t' v v' ht => must _ fun w w' => exp hn fun y q q' => ?_)) (by omega)
      rw [ht.1]
      exact .ite hB (fun h => by rw [h.is]) (fun h => (Sm.tl hB (isS_pos h) (exp (m := 1 + 0) hn fun p o o' => must _ fun _ _ => .ok rfl)).mono (by omega)) (fun _ => must (m := 0) _ fun _ _ => .ok rfl)
    · intro n ks r r' hn
      rw [itemS, itemS]
      exact .ite hB (fun h => by rw [h.is]) (fun h => .tl hB (isS_pos h) (.ok rfl)) (fun _ => Sm.mono (m := 1 + (1 + 1)) (must _ fun u u' => exp hn fun y v v' => ih.item n _ v v' hn) (by omega))
    · intro n ks r r' hn
      rw [dictS, dictS]
      refine .ite hB (fun h => by rw [h.is]) (fun h => .tl hB (isS_pos h) (.ok rfl)) (fun _ => ?_)
      have h0 : Sm z z' Q e (fun _ _ => True) 0 r r' (if ks.length > 0 then mustS [44] r else .ok () r) (if ks.length > 0 then mustS [44] r' else .ok () r') := by
        split
        · exact (mustS_m hB _).mono (by omega)
        · exact .ok trivial
      exact Sm.mono (m := 0 + (1 + (1 + (1 + 1)))) (.bind (m := 0) (m' := 1 + (1 + (1 + 1))) (fun _ => trivial) h0 fun _ _ u u' _ => exp hn fun y v v' => must _ fun w w' => exp hn fun q o o' => ih.dict n _ o o' hn) (by omega)
end
end Go.Proofs.YtmdegomejbpldaaGreatDoor
end
section
set_option linter.unusedVariables false
set_option linter.unusedSimpArgs false
set_option maxRecDepth 20000
namespace Go.Proofs.YtmdegomejbpldaaGreatDoor
open Go Go.Ab
theorem writeString_ok {T : TypeId} {rest : List AV} (hT : HoldsB T (rest.length + 1 + 1)) (v u : Nat) (a : AV) (ha : a = .nilp ∨ a = .ptr 0 v 0) (bs cs : List UInt8) (hl : bs.length + cs.length ≤ 140737488355328) :
    CallOk cx 21 [.ptr 0 v 0, .str cs] [(v, some (bBox T a (.ms 1 u 0 bs.length 1 false) rest)), (u, some (byBox bs))]
      (fun o σ' => o = .ret (.tup [.int .i64 cs.length, .nili]) ∧ σ' = [(v, some (bBox T (.ptr 0 v 0) (.ms 1 (u + 1) 0 (bs ++ cs).length 1 false) rest)), (u + 1, some (byBox (bs ++ cs)))]) :=
  callOk_intro (fun a w => Tryz.call21 a w) Tryz.func21 rfl Tryz.ntmps21 rfl fun B => by
    refine ab 1000 rfl trivial ?_
    refine S_call rfl rfl rfl (copyCheck_ok hT v a _ ha _) ?_ (fun v σ' h => by cases h.1)
    rintro _ _ ⟨⟨⟩, rfl⟩
    refine ab 1000 rfl ⟨lble rfl, rfl, ?_, ?_, ?_, rfl, rfl, ?_, rfl, trivial⟩ ?_
    · show bs.length + cs.length ≤ 9223372036854775807; omega
    · show (bs.length + cs.length) * 1 ≤ 140737488355328; omega
    · show 0 + bs.length * 1 = (bs.map byteAV).length; simp
    · intro y hy; obtain ⟨x, _, rfl⟩ := List.mem_map.1 hy; rfl
    refine S_ret ⟨_, _, rfl, trivial, rfl, ?_⟩
    show [(v, some (Box.cells (_ :: .ms 1 (u + 1) 0 (bs.length + cs.length) 1 false :: rest) _)), (u + 1, some (.cells (bs.map byteAV ++ cs.map byteAV) _))] = _
    simp [byBox, bBox]
    rfl
end Go.Proofs.YtmdegomejbpldaaGreatDoor
end
section
set_option linter.unusedVariables false
set_option linter.unusedSimpArgs false
set_option maxRecDepth 20000
set_option maxHeartbeats 4000000
namespace Go.Proofs.YtmdegomejbpldaaGreatDoor
open Go Go.Ab
structure QuSt where
  i : Nat
  b : Nat
def quH (b : Nat) (a : AV) (bs : List UInt8) : Heap := [(0, some (bBox 43 a (bufV b bs) [])), bufB b bs]
theorem wbT (b : Nat) (a : AV) (ha : a = .nilp ∨ a = .ptr 0 0 0) (bs : List UInt8) (c : UInt8) (hl : bs.length < 140737488355328) :
    CallOk cx 45 [.ptr 0 0 0, byteAV c] (quH b a bs) (fun o σ' => o = .ret .nili ∧ σ' = quH (b + 1) (.ptr 0 0 0) (bs ++ [c])) :=
  writeByteU_ok holdsB 0 b a ha bs c hl
theorem quoC_len (c : UInt8) : (quoC c).length ≤ 2 := by unfold quoC; split <;> (try split) <;> (try split) <;> (try split) <;> simp
theorem quo_len (t : List UInt8) : (t.flatMap quoC).length ≤ 2 * t.length := by
  induction t with
  | nil => simp
  | cons c r ih => rw [List.flatMap_cons, List.length_append, List.length_cons]; have := quoC_len c; omega
theorem quoT_len (t : List UInt8) : (quoT t).length ≤ 2 * t.length + 2 := by
  unfold quoT
  have := quo_len t
  rw [List.length_append, List.length_append, List.length_singleton]; omega
theorem quo_two (c : UInt8) (h : c = 10 ∨ c = 9 ∨ c = 92 ∨ c = 34) : ∃ (k : Nat) (d : UInt8), k < 4 ∧ Lib.indexByte [10, 9, 92, 34] c = (k : Int) ∧ quoC c = [92, d] ∧ [110, 116, 92, 34].getD k 0 = d := by
  rcases h with rfl | rfl | rfl | rfl
  · exact ⟨0, 110, by decide, rfl, rfl, rfl⟩
  · exact ⟨1, 116, by decide, rfl, rfl, rfl⟩
  · exact ⟨2, 92, by decide, rfl, rfl, rfl⟩
  · exact ⟨3, 34, by decide, rfl, rfl, rfl⟩
theorem quo_one (c : UInt8) (h : ¬ (c = 10 ∨ c = 9 ∨ c = 92 ∨ c = 34)) : Lib.indexByte [10, 9, 92, 34] c = -1 ∧ quoC c = [c] := by
  have c1 : c ≠ 10 := fun e => h (.inl e)
  have c2 : c ≠ 9 := fun e => h (.inr (.inl e))
  have c3 : c ≠ 92 := fun e => h (.inr (.inr (.inl e)))
  have c4 : c ≠ 34 := fun e => h (.inr (.inr (.inr e)))
  exact ⟨by simp [Lib.indexByte, Ne.symm c1, Ne.symm c2, Ne.symm c3, Ne.symm c4], by unfold quoC; rw [if_neg c1, if_neg c2, if_neg c3, if_neg c4]⟩
theorem Quote_ok (s : List UInt8) (hs : s.length ≤ 70000000000000) : Calc cx 23 [.str s] (.str (quoT s)) :=
  pure_intro (fun a w => Tryz.call23 a w) Tryz.func23 rfl Tryz.ntmps23 rfl .str fun B => by
    refine pB [] rfl ?_
    refine S_dead ?_ ⟨.skip, _, .inr ⟨_, _, _, rfl⟩⟩
    refine S_heap (quH 0 .nilp []) rfl ?_
    have h0 := wbT 0 .nilp (.inl rfl) [] 34 (by decide)
    refine pB [.f .nili (fun _ => quH 1 (.ptr 0 0 0) [34])] rfl ?_
    have hbl : (s.map byteAV).length = s.length := by simp
    refine S_while (α := QuSt) (fun q => [(3, .ptr 0 0 0), (9, .sl true false 1 (s.map byteAV)), (10, .int .i64 (s.length : Nat)), (11, .int .i64 (q.i : Nat))]) (fun q => quH q.b (.ptr 0 0 0) ([34] ++ (s.take q.i).flatMap quoC))
      (fun q => q.i ≤ s.length) (fun q => s.length - q.i) ⟨0, 1⟩ (Nat.zero_le _) (.cons rfl (.cons rfl (.cons (by show AV.int .i64 (((s.map byteAV).length : Nat) : Int) = _; rw [hbl]) (.cons rfl (.nil _))))) rfl ?_
    rintro ⟨i, b⟩ hi
    have hi : i ≤ s.length := hi
    have hlen : ([34] ++ (s.take i).flatMap quoC).length ≤ 2 * s.length + 1 := by
      have := quo_len (s.take i)
      rw [List.length_take] at this
      rw [List.length_append, List.length_singleton]; omega
    show S cx _ B _ _ [(3, .ptr 0 0 0), (9, .sl true false 1 (s.map byteAV)), (10, .int .i64 (s.length : Nat)), (11, .int .i64 (i : Nat))] (quH b (.ptr 0 0 0) ([34] ++ (s.take i).flatMap quoC))
    by_cases hlt : i < s.length
    · have hel : (s.map byteAV)[(i : Int).toNat]? = some (byteAV s[i]) := by rw [Int.toNat_natCast]; simp [hlt]
      have htk : (s.take (i + 1)).flatMap quoC = (s.take i).flatMap quoC ++ quoC s[i] := by
        rw [List.take_succ_eq_append_getElem hlt, List.flatMap_append]; simp
      have hK := indexByte_ok [10, 9, 92, 34] ((s[i].toNat : Nat) : Int)
      have hu : (((s[i].toNat : Nat) : Int).toNat).toUInt8 = s[i] := by rw [Int.toNat_natCast]; simp
      rw [hu] at hK
      by_cases esc : s[i] = 10 ∨ s[i] = 9 ∨ s[i] = 92 ∨ s[i] = 34
      · obtain ⟨k, d, h4, hk, hq, hd⟩ := quo_two s[i] esc
        rw [hk] at hK
        have h1 := wbT b (.ptr 0 0 0) (.inr rfl) ([34] ++ (s.take i).flatMap quoC) 92 (by omega)
        have h2 := wbT (b + 1) (.ptr 0 0 0) (.inr rfl) ([34] ++ (s.take i).flatMap quoC ++ [92]) d (by simp only [List.length_append, List.length_singleton] at hlen ⊢; omega)
        have e0 : decide ((k : Int) ≥ 0) = true := decide_eq_true (by omega)
        have hdd : (((([110, 116, 92, 34] : List UInt8).getD (k : Int).toNat 0).toNat : Nat) : Int) = (d.toNat : Int) := by rw [Int.toNat_natCast, hd]
        refine pa [.b true, .v (byteAV s[i]), .v (.int .i64 (k : Nat)), .b true, .f .nili (fun _ => quH (b + 1) (.ptr 0 0 0) ([34] ++ (s.take i).flatMap quoC ++ [92])), .f .nili (fun _ => quH (b + 2) (.ptr 0 0 0) ([34] ++ (s.take i).flatMap quoC ++ [92] ++ [d]))] rfl ?_ ?_
        · (repeat' with_reducible apply AllP_cons) <;> try exact aC
          · exact ⟨_, hK, .cons (.refl .str) (.cons (.refl .int) (.nil _))⟩
          · show CallOk cx 45 [.ptr 0 0 0, .int .u8 (((([110, 116, 92, 34] : List UInt8).getD (k : Int).toNat 0).toNat : Nat) : Int)] _ _
            rw [hdd]; exact h2
        refine S_round ⟨i + 1, b + 2⟩ (by show s.length - (i + 1) < s.length - i; omega) hlt (.cons rfl (.cons rfl (.cons rfl (.cons (nX (by omega)) (.nil _))))) ?_
        show quH (b + 2) (.ptr 0 0 0) ([34] ++ (s.take i).flatMap quoC ++ [92] ++ [d]) = quH (b + 2) (.ptr 0 0 0) ([34] ++ (s.take (i + 1)).flatMap quoC)
        rw [htk, hq]; simp
      obtain ⟨hk, hq⟩ := quo_one s[i] esc
      rw [hk] at hK
      have h1 := wbT b (.ptr 0 0 0) (.inr rfl) ([34] ++ (s.take i).flatMap quoC) s[i] (by omega)
      refine pa [.b true, .v (byteAV s[i]), .v (.int .i64 (-1)), .b false, .f .nili (fun _ => quH (b + 1) (.ptr 0 0 0) ([34] ++ (s.take i).flatMap quoC ++ [s[i]]))] rfl ?_ ?_
      · (repeat' with_reducible apply AllP_cons) <;> try exact aC
        exact ⟨_, hK, .cons (.refl .str) (.cons (.refl .int) (.nil _))⟩
      refine S_round ⟨i + 1, b + 1⟩ (by show s.length - (i + 1) < s.length - i; omega) hlt (.cons rfl (.cons rfl (.cons rfl (.cons (nX (by omega)) (.nil _))))) ?_
      show quH (b + 1) (.ptr 0 0 0) ([34] ++ (s.take i).flatMap quoC ++ [s[i]]) = quH (b + 1) (.ptr 0 0 0) ([34] ++ (s.take (i + 1)).flatMap quoC)
      rw [htk, hq, List.append_assoc]
    · obtain rfl : i = s.length := by omega
      rw [List.take_length] at hlen ⊢
      have h1 := wbT b (.ptr 0 0 0) (.inr rfl) ([34] ++ s.flatMap quoC) 34 (by omega)
      have h2 : CallOk cx 9 [.ptr 0 0 0] (quH (b + 1) (.ptr 0 0 0) (quoT s)) _ := stringU_ok (T := 43) 0 (b + 1) (.ptr 0 0 0) (quoT s) (by have := quoT_len s; omega)
      refine pB [.b false, .f .nili (fun _ => quH (b + 1) (.ptr 0 0 0) (quoT s)), .f (.str (quoT s)) (fun _ => [(0, some (bBox 43 (.ptr 0 0 0) (bufV (b + 1) (quoT s)) [])), (b + 1, none)])] rfl ?_
      exact S_retc .str rfl trivial rfl
end Go.Proofs.YtmdegomejbpldaaGreatDoor
end
section
set_option linter.unusedVariables false
set_option linter.unusedSimpArgs false
set_option maxRecDepth 20000
namespace Go.Proofs.YtmdegomejbpldaaGreatDoor
open Go Go.Ab
def tokA (t : Tok) : AV := .agg (tokC t)
def fltA (e : Flt) : AV := .agg [.int .i64 (e.1 : Nat), .int .i64 (e.2 : Nat)]
def splitAV (x : List Tok × Flt) : AV := .tup [.sl true false 4 (x.1.map tokA), fltA x.2]
theorem tokC_free {st : Bool} (t : Tok) : ∀ x ∈ tokC t, Free st x := by
  intro x hx
  simp only [tokC, List.mem_cons, List.not_mem_nil, or_false] at hx
  rcases hx with rfl | rfl | rfl | rfl
  · exact .int
  · exact .str
  · exact .int
  · exact .int
theorem toks_free {st : Bool} (l : List Tok) : ∀ x ∈ l.map tokA, Free st x := by
  intro x hx; obtain ⟨t, _, rfl⟩ := List.mem_map.1 hx; exact .agg (tokC_free t)
theorem flt_free {st : Bool} (e : Flt) : Free st (fltA e) := .agg (by intro x hx; simp at hx; rcases hx with rfl | rfl; exact .int; exact .int)
theorem splitAV_free (x : List Tok × Flt) : Free true (splitAV x) := .tup (by intro y hy; simp at hy; rcases hy with rfl | rfl; exact .sl (fun _ => rfl) (toks_free _); exact flt_free _)
theorem toks_cells (l : List Tok) : (l.map tokA).flatMap AV.cells = l.flatMap tokC := by
  induction l with
  | nil => rfl
  | cons t r ih => rw [List.map_cons, List.flatMap_cons, List.flatMap_cons, ih]; rfl
theorem tok_cells_free {st : Bool} (l : List Tok) : ∀ x ∈ l.flatMap tokC, Free st x := by
  intro x hx
  obtain ⟨t, _, ht⟩ := List.mem_flatMap.1 hx
  exact tokC_free t x ht
def xo (x : AV) : Nat × Option Box := (0, some (.cells [x] ⟨false, none⟩))
def xf (e : Flt) : Nat × Option Box := (0, some (.cells [.int .i64 (e.1 : Nat), .int .i64 (e.2 : Nat)] ⟨false, some 25⟩))
theorem clos_ret (x : AV) (e : Flt) (a b c : Nat × Box) (R : Md → Heap → Prop) (h : ∀ y, R .ret [xo x, xf e, (a.1, some a.2), (b.1, some b.2), (c.1, some c.2), y]) :
    DCall cx (.func (.func 18) [] [.ptr 0 0 0, .ptr 1 0 0]) .ret [xo x, xf e, (a.1, some a.2), (b.1, some b.2), (c.1, some c.2)] R :=
  dcall_recover (fun a w => Tryz.call18 a w) Tryz.func18 rfl Tryz.ntmps18 rfl rfl rfl rfl rfl rfl rfl fun B => by
    refine pB [.b false] rfl ?_
    exact S_nil ⟨_, _, rfl, trivial, _, rfl, h _⟩
theorem clos_pan (x : AV) (e g : Flt) (a b c : Nat × Box) (R : Md → Heap → Prop) (h : ∀ y, R (.pan (flt g) true) [xo .nils, xf g, (a.1, some a.2), (b.1, some b.2), (c.1, some c.2), y]) :
    DCall cx (.func (.func 18) [] [.ptr 0 0 0, .ptr 1 0 0]) (.pan (flt g) false) [xo x, xf e, (a.1, some a.2), (b.1, some b.2), (c.1, some c.2)] R :=
  dcall_recover (fun a w => Tryz.call18 a w) Tryz.func18 rfl Tryz.ntmps18 rfl rfl rfl rfl rfl rfl rfl fun B => by
    refine pB [.b true] rfl ?_
    refine S_drawC [xo .nils, xf e, (a.1, some a.2), (b.1, some b.2), (c.1, some c.2), xf g] 1 2 [] [.tup []] rfl rfl rfl rfl rfl ⟨rfl, rfl, rfl, rfl, rfl, rfl, lble rfl, rfl, rfl, trivial⟩ ?_
    refine pB [] rfl ?_
    exact S_nil ⟨_, _, rfl, trivial, _, rfl, h _⟩
theorem Split_ok (s : List UInt8) : Calc cx 10 [.str s] (splitAV (splitS s)) :=
  calc_of (splitAV_free _) (callOk_introD (fun a w => Tryz.call10 a w) Tryz.func10 rfl Tryz.ntmps10 rfl fun B hB => by
    unfold splitS
    by_cases hb : 6000 < s.length
    · rw [if_pos hb]
      refine pB [.b true] rfl ?_
      refine S_ret ⟨_, rfl, _, _, rfl, ⟨rfl, rfl, trivial⟩, _, rfl, ?_⟩
      exact Fzs.tup (.cons .nils (.cons (.refl (flt_free (2, 0))) .nil))
    · rw [if_neg hb]
      refine pB [.b false] rfl ?_
      refine S_defer rfl rfl rfl rfl hB ?_
      refine go (M := [11]) 5 rfl trivial ?_
      refine S_unfull (t := 11) rfl ⟨.skip, _, .inr ⟨_, _, _, rfl⟩⟩ ?_
      refine pB [] rfl ?_
      refine S_heap [xo .nils, xf (0, 0), insB 0 [0], (0, some (.cells [.str s, .int .i64 0, .int .i64 0, .ms 2 0 0 1 1 false, .nils] ⟨false, some 64⟩))] rfl ?_
      refine S_ghost (id := 3) (j := 4) 4 ⟨false, none⟩ rfl rfl rfl (Nat.ne_of_lt (lble rfl)) ⟨.skip, _, .inr ⟨_, _, _, rfl⟩⟩ ?_
      refine S_callf [3, 2, 4] (all_ok 0 0 0 s (by omega)) rfl (.cons (.ptr rfl) (.nil _)) (Part.mk' (es := [(0, some (.cells [.str s, .int .i64 0, .int .i64 0, .ms 2 0 0 1 1 false, .ms 4 0 0 0 4 false] ⟨false, some 64⟩)), insB 0 [0], outB 0 []]) rfl rfl
        (.cons (.live (.cells (.cons (.free .str) (.cons (.free .int) (.cons (.free .int) (.cons (.ms rfl) (.cons (.ms rfl) (.nil _)))))))) (.cons (.live (.cells (.free (ints_free [0])))) (.cons (.live (.cells (.nil _))) (.nil _))))) rfl rfl ?_ ?_
      · intro y σ1 h
        cases hx : allF (s.length + 1) s 0 [0] [] with
        | inl e => rw [hx] at h; cases h.1
        | inr l =>
          rw [hx] at h
          obtain ⟨u, w, i, o, ins, h1, rfl⟩ := h
          cases h1
          refine ⟨.tup [], [(0, some (.cells [.str s, .int .i64 i, .int .i64 o, .ms 2 u 0 ins.length 1 false, .ms 4 w 0 l.length 4 false] ⟨false, some 64⟩)), insB u ins, outB w l],
            .cons (.live (.cells (.cons (.free .str) (.cons (.free .int) (.cons (.free .int) (.cons (.ms rfl) (.cons (.ms rfl) (.nil _)))))))) (.cons (.live (.cells (.free (ints_free ins)))) (.cons (.live (.cells (.free (tok_cells_free l)))) (.nil _))), .free (.tup (by simp)), ?_⟩
          refine pB [] rfl ?_
          refine S_ret ⟨_, rfl, clos_ret (.ms 4 w 0 l.length 4 false) (0, 0) (u, .cells (ints ins) ⟨false, none⟩) (0, .cells [.str s, .int .i64 i, .int .i64 o, .ms 2 u 0 ins.length 1 false, .ms 4 w 0 l.length 4 false] ⟨false, some 64⟩) (w, .cells (l.flatMap tokC) ⟨false, none⟩) _ fun y => ?_⟩
          refine ⟨_, _, rfl, ⟨rfl, rfl, trivial⟩, _, rfl, Fzs.tup (.cons ?_ (.cons (.refl (flt_free (0, 0))) .nil))⟩
          refine .ms rfl (by rw [tokC_len]; omega) ?_ ?_ (by simp) (toks_free l)
          · rw [toks_cells, List.drop_zero, List.take_of_length_le (by rw [tokC_len]; omega)]
          · intro x hx; obtain ⟨t, _, rfl⟩ := List.mem_map.1 hx; rfl
      · intro y σ1 h
        cases hx : allF (s.length + 1) s 0 [0] [] with
        | inr l => rw [hx] at h; obtain ⟨_, _, _, _, _, h1, _⟩ := h; cases h1
        | inl e =>
          rw [hx] at h
          obtain ⟨h1, v, u, w, i, o, ins, out, rfl⟩ := h
          cases h1
          refine ⟨flt e, [(v, some (.cells [.str s, .int .i64 i, .int .i64 o, .ms 2 u 0 ins.length 1 false, .ms 4 w 0 out.length 4 false] ⟨false, some 64⟩)), insB u ins, outB w out],
            .cons (.live (.cells (.cons (.free .str) (.cons (.free .int) (.cons (.free .int) (.cons (.ms rfl) (.cons (.ms rfl) (.nil _)))))))) (.cons (.live (.cells (.free (ints_free ins)))) (.cons (.live (.cells (.free (tok_cells_free out)))) (.nil _))), .free (.iface (flt_free e)), ?_⟩
          refine ⟨_, rfl, clos_pan .nils (0, 0) e (u, .cells (ints ins) ⟨false, none⟩) (v, .cells [.str s, .int .i64 i, .int .i64 o, .ms 2 u 0 ins.length 1 false, .ms 4 w 0 out.length 4 false] ⟨false, some 64⟩) (w, .cells (out.flatMap tokC) ⟨false, none⟩) _ fun y => ?_⟩
          exact ⟨_, _, rfl, ⟨rfl, rfl, trivial⟩, _, rfl, Fzs.tup (.cons .nils (.cons (.refl (flt_free e)) .nil))⟩)
end Go.Proofs.YtmdegomejbpldaaGreatDoor
end
section
set_option linter.unusedVariables false
set_option linter.unusedSimpArgs false
namespace Go.Ab
open Go
def drawOkP (ops : List Oper) (jc : Nat) : Bool :=
  allB ((List.range (jc + 1)).map fun j => match ops[j]? with
    | some o =>
      match allB ((slotsOf ops o).map fun t => readOk ops (jc + 1) j t) with
      | true => match o.dst with
        | some d => allB ((List.range (jc + 1)).map fun i => match eqDst (dstOf ops i) d with | true => Nat.beq i j | false => true)
        | none => true
      | false => false
    | none => false) &&
  allB ((List.range ops.length).map fun j => match Nat.blt jc j with
    | true => anyB ((List.range j).map fun k => match Nat.ble jc k with | true => edge ops j k | false => false)
    | false => true) &&
  allB ((List.range ops.length).map fun j => match ops[j]? with
    | some o => allB (o.after.toList.map fun e => match e.ground with
      | .textOnly _ => true
      | .gcOnly _ => true
      | _ => Nat.blt e.on j)
    | none => true)
theorem drawOkP_spec {ops : Array Oper} {jc : Nat} (h : drawOkP ops.toList jc = true) :
    (∀ j o t, j < jc + 1 → ops.toList[j]? = some o → t ∈ slotsOf ops.toList o → readOk ops.toList (jc + 1) j t = true) ∧
    (∀ i j d, i < jc + 1 → j < jc + 1 → dstOf ops.toList i = some d → dstOf ops.toList j = some d → i = j) ∧
    (∀ j, jc < j → j < ops.size → ∃ k, jc ≤ k ∧ k < j ∧ edge ops.toList j k = true) ∧ (∀ j i, edge ops.toList j i = true → i < j) := by
  unfold drawOkP at h
  simp only [Bool.and_eq_true] at h
  obtain ⟨⟨h1, h2⟩, h3⟩ := h
  refine ⟨fun j o t hj ho ht => ?_, fun i j d hi hj hdi hdj => ?_, fun j hj hjs => ?_, fun j i he => ?_⟩
  · have := allB_mem h1 _ (List.mem_map.2 ⟨j, List.mem_range.2 hj, rfl⟩)
    rw [ho] at this
    simp only at this
    split at this
    · rename_i hb
      exact allB_mem hb _ (List.mem_map.2 ⟨t, ht, rfl⟩)
    · cases this
  · have := allB_mem h1 _ (List.mem_map.2 ⟨j, List.mem_range.2 hj, rfl⟩)
    obtain ⟨o, ho, hod⟩ := Option.bind_eq_some_iff.1 hdj
    rw [ho] at this
    simp only at this
    split at this
    · rw [hod] at this
      simp only at this
      have := allB_mem this _ (List.mem_map.2 ⟨i, List.mem_range.2 hi, rfl⟩)
      rw [eqDst_iff.2 hdi] at this
      exact Nat.eq_of_beq_eq_true this
    · cases this
  · have := allB_mem h2 _ (List.mem_map.2 ⟨j, List.mem_range.2 (by simpa using hjs), rfl⟩)
    rw [lt_blt hj] at this
    obtain ⟨k, hk, he⟩ := List.mem_map.1 (anyB_mem this)
    have hkm := List.mem_range.1 hk
    split at he
    · rename_i hb
      exact ⟨k, Nat.le_of_ble_eq_true hb, hkm, he⟩
    · cases he
  · obtain ⟨o, ho, e, hee, hb, rfl⟩ := edge_iff.1 he
    have hj := (Array.getElem?_eq_some_iff.1 ho).1
    have := allB_mem h3 _ (List.mem_map.2 ⟨j, List.mem_range.2 (by simpa using hj), rfl⟩)
    rw [Array.getElem?_toList, ho] at this
    have := allB_mem this _ (List.mem_map.2 ⟨e, by simpa using hee, rfl⟩)
    unfold Region.binds at hb
    cases hg : e.ground <;> simp [hg] at hb this <;> omega
section
variable {cx : Cx} {n : Nat} {B : Bs} {k : List AI} {Q : Post} {fr : Fr} {σ : Heap}
theorem wpAny_pan {ops : Array Oper} {jc : Nat} {vals : List AV} {K : List Nat} {Q' : Exit → Act → World → Prop} (hjN : jc < ops.size) (hlen : vals.length = jc)
    (hread : ∀ j o t, j < jc + 1 → ops.toList[j]? = some o → t ∈ slotsOf ops.toList o → readOk ops.toList (jc + 1) j t = true)
    (huniq : ∀ i j d, i < jc + 1 → j < jc + 1 → dstOf ops.toList i = some d → dstOf ops.toList j = some d → i = j)
    (hbl : ∀ j, jc < j → j < ops.size → ∃ k, jc ≤ k ∧ k < j ∧ edge ops.toList j k = true) (hlo : ∀ j i, edge ops.toList j i = true → i < j)
    (hstep : ∀ (j : Nat) o v, j < jc → ops.toList[j]? = some o → vals[j]? = some v → StepD cx n ops σ K (restr ops.toList o (ovl (ops.toList.take j) (vals.take j) fr)) o v)
    (hpan : ∀ o, ops.toList[jc]? = some o → guardA ops o K (restr ops.toList o (ovl (ops.toList.take jc) vals fr)) = some true ∧
      ∀ r a w, Inv cx r σ w → FRel r w n (restr ops.toList o (ovl (ops.toList.take jc) vals fr)) a → FRel r w n [(n, fr.get n)] a → Dfs B a → Ext B.r B.σ B.w r σ w → o.wp cx.P a w (fun _ _ => False) Q') :
    ∀ (f : Nat) (listed : Array Bool) (r : Rl) (a : Act) (w : World), listed.size = ops.size → unl listed = f → Down ops.toList listed → (∀ j, jc ≤ j → ¬ Listed listed j) →
      FL r w n fr ops.toList jc vals listed a → Inv cx r σ w → Dfs B a → Ext B.r B.σ B.w r σ w → wpAny cx.P .any ops Q' f listed a w := by
  have ovlN : ∀ i, i ≤ jc → ∀ vs, (ovl (ops.toList.take i) (vals.take i) fr).get n = .mark vs → fr.get n = .mark vs := by
    intro i him vs hm
    rcases ovl_get (ops.toList.take i) (vals.take i) fr n (by simp [hlen]; omega) with ⟨i', o', v', k1, k2, k3, k4⟩ | ⟨k1, k2⟩
    · exfalso
      have hi'i : i' < i := by
        rcases Nat.lt_or_ge i' i with h' | h'
        · exact h'
        · rw [List.getElem?_eq_none (by simp; omega)] at k1; cases k1
      rw [List.getElem?_take_of_lt hi'i] at k1 k3
      have hds := (hstep i' o' v' (by omega) k1 k3).1
      rw [k2] at hds
      have := blt_lt hds
      omega
    · rw [← k2]; exact hm
  intro f
  induction f with
  | zero =>
    intro listed r a w hs hf hdn hno hfl hi hd hx
    exfalso
    have h0 : listed.getD jc false = false := by
      cases hb : listed.getD jc false with
      | false => rfl
      | true => exact absurd hb (hno jc (Nat.le_refl _))
    have := unl_set (by omega) h0
    omega
  | succ f ih =>
    intro listed r a w hs hf hdn hno hfl hi hd hx
    refine ⟨fun h0 => ?_, fun i hir => ?_⟩
    · obtain ⟨j, h1, h2, h3⟩ := exists_least (p := fun j => ¬ Listed listed j) (jc + 1) ⟨jc, Nat.lt_succ_self _, hno jc (Nat.le_refl _)⟩
      have hjr : j ∈ Region.ready .any ops listed := by
        refine mem_ready.2 ⟨?_, ops[j]'(by omega), Array.getElem?_eq_getElem _, fun e he hb => ?_⟩
        · rw [listed_true (by omega)]; simpa [Listed] using h2
        · have h4 : e.on < j := hlo j e.on (edge_iff.2 ⟨ops[j]'(by omega), Array.getElem?_eq_getElem _, e, he, hb, rfl⟩)
          exact Classical.byContradiction fun h5 => h3 e.on h4 h5
      rw [h0] at hjr; cases hjr
    · obtain ⟨h0, o, ho, hedges⟩ := mem_ready.1 hir
      have hilt := (Array.getElem?_eq_some_iff.1 ho).1
      rw [listed_true (by omega)] at h0
      have hed : ∀ j, edge ops.toList i j = true → Listed listed j := by
        intro j hj
        obtain ⟨o', ho', e, he, hb, hon⟩ := edge_iff.1 hj
        rw [ho] at ho'; cases ho'
        rw [← hon]; exact hedges e he hb
      have him : i < jc + 1 := by
        rcases Nat.lt_or_ge i (jc + 1) with h' | h'
        · exact h'
        · exfalso
          obtain ⟨k, k1, k2, k3⟩ := hbl i (by omega) hilt
          exact hno k k1 (hed k k3)
      have hol : ops.toList[i]? = some o := by simpa using ho
      have hnl : ¬ Listed listed i := by simp [Listed, h0]
      have hfr : FRel r w n (restr ops.toList o (ovl (ops.toList.take i) (vals.take i) fr)) a := by
        refine ⟨hfl.size, fun t => ?_, fun vs hm => ?_⟩
        case refine_2 =>
          unfold restr at hm
          rcases restr_get (slotsOf ops.toList o) (ovl (ops.toList.take i) (vals.take i) fr) n with h | ⟨h1, h2⟩
          · rw [h] at hm; cases hm
          · rw [h2] at hm
            exact hfl.defs vs (ovlN i (by omega) vs hm)
        unfold restr
        rcases restr_get (slotsOf ops.toList o) (ovl (ops.toList.take i) (vals.take i) fr) t with h | ⟨h1, h2⟩
        · rw [h]; exact .top
        · rw [h2]
          have hro := hread i o t him hol h1
          have hrd : ∀ i', i' < jc + 1 → dstOf ops.toList i' = some t → (i' < i → edge ops.toList i i' = true) ∧ (i < i' → edge ops.toList i' i = true) := by
            intro i' hi' hd'
            have := allB_mem hro _ (List.mem_map.2 ⟨i', List.mem_range.2 hi', rfl⟩)
            rw [eqDst_iff.2 hd'] at this
            simp only at this
            constructor
            · intro hlt
              rw [lt_blt hlt] at this
              exact this
            · intro hlt
              rw [show Nat.blt i' i = false by cases hbb : Nat.blt i' i with | false => rfl | true => (have := blt_lt hbb; omega), show Nat.beq i' i = false by cases hbb : Nat.beq i' i with | false => rfl | true => (have := Nat.eq_of_beq_eq_true hbb; omega)] at this
              exact this
          rcases ovl_get (ops.toList.take i) (vals.take i) fr t (by simp [hlen]; omega) with ⟨i', o', v', k1, k2, k3, k4⟩ | ⟨k1, k2⟩
          · rw [k4]
            have hi'i : i' < i := by
              rcases Nat.lt_or_ge i' i with h' | h'
              · exact h'
              · rw [List.getElem?_eq_none (by simp; omega)] at k1; cases k1
            rw [List.getElem?_take_of_lt hi'i] at k1 k3
            have hd' : dstOf ops.toList i' = some t := by simp only [dstOf, k1, Option.bind_some, k2]
            exact hfl.done i' t v' (by omega) (hed _ ((hrd i' (by omega) hd').1 hi'i)) hd' k3
          · rw [k2]
            refine hfl.rest t (fun j hj hlj hdj => ?_)
            rcases Nat.lt_trichotomy j i with h' | h' | h'
            · obtain ⟨oj, hoj, hod⟩ := Option.bind_eq_some_iff.1 hdj
              exact k1 j oj (by rw [List.getElem?_take_of_lt h']; exact hoj) hod
            · subst h'; exact hnl hlj
            · exact hnl (hdn j i hlj ((hrd j (by omega) hdj).2 h'))
      rcases Nat.lt_or_ge i jc with hij | hij
      case inr =>
        obtain rfl : i = jc := by omega
        rw [show vals.take i = vals from List.take_of_length_le (by omega)] at hfr
        obtain ⟨hg, hp⟩ := hpan o hol
        have hfn : FRel r w n [(n, fr.get n)] a := by
          refine ⟨hfl.size, fun t => ?_, fun vs hm => ?_⟩
          · rw [Fr.get_cons]
            split
            · rename_i hnt
              subst hnt
              have : a.tmps.getD n undef = undef := by
                rw [Array.getD_eq_getD_getElem?, Array.getElem?_eq_none (by rw [hfl.size]; exact Nat.le_refl _)]; rfl
              refine hfl.rest n (fun j hj hlj hdj => ?_)
              obtain ⟨oj, hoj, hod⟩ := Option.bind_eq_some_iff.1 hdj
              obtain ⟨v, hv⟩ : ∃ v, vals[j]? = some v := ⟨vals[j]'(by omega), List.getElem?_eq_getElem _⟩
              have hds := (hstep j oj v hj hoj hv).1
              rw [hod] at hds
              have := blt_lt hds
              omega
            · exact .top
          · rw [Fr.get_cons, if_pos rfl] at hm
            exact hfl.defs vs hm
        unfold wpOp
        simp only [ho]
        rw [guardA_wanted (cx := cx) hfr hg]
        simp only [if_true]
        exact .inl (Oper.wp_mono (fun a' w' h => h.elim) (hp r a w hi hfr hfn hd hx))
      obtain ⟨v, hv⟩ : ∃ v, vals[i]? = some v := ⟨vals[i]'(by omega), List.getElem?_eq_getElem _⟩
      obtain ⟨hdst, hst⟩ := hstep i o v hij hol hv
      have next : ∀ (r' : Rl) (w' : World) (v' : Value), VRel r' w' v' v → Inv cx r' σ w' → Ext r σ w r' σ w' → wpAny cx.P .any ops Q' f (listed.setIfInBounds i true) (a.put o.dst v') w' := by
        intro r' w' v' hv' hi' hx'
        have hun := unl_set (by omega) h0
        refine ih _ r' _ w' (by simpa using hs) (by omega) (fun j l hj he => ?_) (fun j hj hl => ?_) ⟨?_, fun j d u hj hl hdj hu => ?_, fun t ht => ?_, fun vs hm => by rw [Act.put_defers]; exact (hfl.defs vs hm).mono (hx'.grow hi)⟩ hi' (hd.put _ _) (hx.trans hx')
        · rw [listed_set (by omega)] at hj ⊢
          rcases hj with rfl | hj
          · exact .inr (hed l he)
          · exact .inr (hdn j l hj he)
        · rw [listed_set (by omega)] at hl
          rcases hl with rfl | hl
          · omega
          · exact hno j hj hl
        · cases hod : o.dst <;> simp [Act.put, hfl.size]
        · have hg := hx'.grow hi
          rw [listed_set (by omega)] at hl
          by_cases hji : j = i
          · subst hji
            rw [hv] at hu; cases hu
            have hod : o.dst = some d := by simpa [dstOf, hol] using hdj
            rw [hod]
            rw [hod] at hdst
            simp only [Act.put]
            rw [getD_setIfInBounds (by rw [hfl.size]; exact blt_lt hdst), if_pos rfl]
            exact hv'
          · have hl' := hl.resolve_left hji
            have hold := (hfl.done j d u hj hl' hdj hu).mono hg
            cases hod : o.dst with
            | none => exact hold
            | some d' =>
              have hne : d' ≠ d := fun e => hji (huniq j i d (by omega) him hdj (by subst e; simp [dstOf, hol, hod]))
              rw [hod] at hdst
              simp only [Act.put]
              rw [getD_setIfInBounds (by rw [hfl.size]; exact blt_lt hdst), if_neg hne]
              exact hold
        · have hg := hx'.grow hi
          have hold := (hfl.rest t (fun j hj hl => ht j hj ((listed_set (by omega)).2 (.inr hl)))).mono hg
          have hti := ht i hij ((listed_set (by omega)).2 (.inl rfl))
          cases hod : o.dst with
          | none => exact hold
          | some d' =>
            have hne : d' ≠ t := fun e => hti (by subst e; simp [dstOf, hol, hod])
            rw [hod] at hdst
            simp only [Act.put]
            rw [getD_setIfInBounds (by rw [hfl.size]; exact blt_lt hdst), if_neg hne]
            exact hold
      unfold wpOp
      simp only [ho]
      rcases hst with ⟨hg, rfl⟩ | ⟨hg, hgo⟩
      · rw [guardA_wanted (cx := cx) hfr hg]
        simp only [Bool.false_eq_true, if_false]
        exact next r w undef (.tup rfl (fun i h => absurd h (by simp))) hi (Ext.refl _ _ _)
      · rw [guardA_wanted (cx := cx) hfr hg]
        simp only [if_true]
        refine .inl (Oper.wp_mono (fun a' w' h => ?_) (hgo r a w hi hfr Q'))
        obtain ⟨r', v', rfl, h2, h3, h4⟩ := h
        exact next r' w' v' h2 h3 h4
theorem S_drawP {id : Nat} {R : Out → Heap → Prop} (jc : Nat) {ops : Array Oper} {vals : List AV} {C : List Prop} {fr' : Fr} (K : List Nat) (rs : List AV) {o : Oper} {f : FuncId} {args : List AV} (hP : cx.P.follows .mixedOrders = true) (hchk : drawOkP ops.toList jc = true)
    (hrun : normC (runD cx K n ops ops.toList σ (ops.toList.take jc) fr rs) = some (C, vals, fr')) (ho : ops.toList[jc]? = some o) (hg : guardA ops o K (restr ops.toList o fr') = some true) (hc : callA cx (restr ops.toList o fr') o.op = some (f, args)) (hC : AllP C)
    (hcall : CallOk cx f args σ R) (hr : ∀ v s, ¬ R (.ret v) s) (hk : ∀ v s fr, R (.panic v) s → Q (.panic v) fr s) : S cx n B (.code (.region id ops true) :: k) Q fr σ := by
  intro r a w hi hf hd hx
  obtain ⟨c1, c2, c3, c4⟩ := drawOkP_spec hchk
  rw [normC_eq] at hrun
  obtain ⟨k1, k2, k3⟩ := runD_spec hrun hC
  have hjN : jc < ops.size := by
    rcases Nat.lt_or_ge jc ops.size with h | h
    · exact h
    · rw [List.getElem?_eq_none (by simpa using h)] at ho; cases ho
  have hlen : vals.length = jc := by rw [k1]; simp; omega
  obtain ⟨hi1, hx1⟩ := hi.heap_eq (w' := { w with drawn := w.drawn + 1 }) rfl rfl rfl rfl
  have hf1 := hf.mono (hx1.grow hi)
  have nl : ∀ {j : Nat}, ¬ Listed (Array.replicate ops.size false) j := by
    intro j hj
    unfold Listed at hj
    rw [Array.getD_eq_getD_getElem?, Array.getElem?_replicate] at hj
    split at hj <;> simp at hj
  refine wp_region_any hP ?_
  refine wpAny_pan (cx := cx) (n := n) (B := B) (fr := fr) (σ := σ) (jc := jc) (vals := vals) (K := K) hjN hlen c1 c2 c3 c4 (fun j o v hj ho hv => ?_) (fun o' ho' => ?_) ops.size _ r a _ (by simp) ?_ (fun j i hj => ?_) (fun j _ => ?_) ⟨hf1.size, fun j d v _ hj => ?_, fun t _ => hf1.get t, hf1.defs⟩ hi1 hd (hx.trans hx1)
  · have h := k3 j o v (by rw [List.getElem?_take_of_lt hj]; exact ho) hv
    rw [List.take_take, Nat.min_eq_left (by omega)] at h
    exact h
  · rw [ho] at ho'; cases ho'
    rw [← k2]
    refine ⟨hg, fun r a w hi hf hfn hdf hx => ?_⟩
    obtain ⟨vs, h1, h2⟩ := callA_run hi hf hc hcall.1
    unfold Oper.wp
    rw [h1, Oper.upon_enter]
    refine (hcall.2 r w vs hi h2).mono fun e w' ⟨out, σ1, r', hR, hor, hi', hx'⟩ => ?_
    have hg' := hx'.grow hi
    cases e <;> cases out <;> first | exact hor.elim | skip
    · exact absurd hR (hr _ _)
    · refine Lift.mk (ae := .panic _) ?_ hor hi' (hfn.mono hg') hdf (hx.trans hx')
      rw [after_panic]
      exact hk _ _ _ hR
  · unfold unl; simp [List.countP_replicate]
  · exact absurd hj nl
  · exact nl
  · exact absurd hj nl
theorem S_shareR {k' : List AI} {all : Array Oper} {l : List Oper} {K : List Nat} (F : Fr) (σ' : Heap) (hm : (∀ fr, Weak fr F → S cx n B (.ops all l K :: k') Q fr σ') → S cx n B k Q fr σ) (hk : S cx n B (.ops all l K :: k') Q F σ') : S cx n B k Q fr σ :=
  hm fun _ hw => S_ops_weak hw hk
theorem S_shareG {ι : Type} {c : Code} {k' : List AI} (F : Fr) (σ' : ι → Heap) (I : ι → Prop) (hm : (∀ i fr, I i → Weak fr F → S cx n B (.code c :: k') Q fr (σ' i)) → S cx n B k Q fr σ) (hk : ∀ i, I i → S cx n B (.code c :: k') Q F (σ' i)) : S cx n B k Q fr σ :=
  hm fun i _ hi hw => S_code_weak hw (hk i hi)
inductive Wv : AV → AV → Prop
  | refl {a} : Wv a a
  | nils {st fl sz} : Wv .nils (.sl st fl sz [])
  | sl {st fl st' fl' sz xs} (h1 : st' = true → st = true) (h2 : fl' = true → fl = true) : Wv (.sl st fl sz xs) (.sl st' fl' sz xs)
theorem Wv.rel {r : Rl} {w : World} {v : Value} {a a' : AV} (h : Wv a a') (hv : VRel r w v a) : VRel r w v a' := by
  cases h with
  | refl => exact hv
  | nils => cases hv; exact .sl0 (fun _ => rfl)
  | sl h1 h2 =>
    cases hv with
    | sl0 hf => exact .sl0 (fun h => hf (h2 h))
    | sl hn hc0 hf hI hS hsz f hc hv => exact .sl hn hc0 (fun h => hf (h2 h)) hI (fun h => hS (h1 h)) hsz f hc hv
theorem Wv.one {a a' : AV} (h : Wv a a') (ho : a.one = true) : a'.one = true := by
  cases h with
  | refl => exact ho
  | nils => rfl
  | sl _ _ => rfl
inductive Wvs : List AV → List AV → Prop
  | nil : Wvs [] []
  | cons {a b az bs} (h : Wv a b) (hs : Wvs az bs) : Wvs (a :: az) (b :: bs)
theorem Wvs.len {az bs : List AV} (h : Wvs az bs) : az.length = bs.length := by
  induction h with
  | nil => rfl
  | cons _ _ ih => simp [ih]
theorem Wvs.get {az bs : List AV} (h : Wvs az bs) : ∀ (i : Nat) (h1 : i < az.length) (h2 : i < bs.length), Wv az[i] bs[i] := by
  induction h with
  | nil => intro i h1; simp at h1
  | cons h hs ih =>
    intro i h1 h2
    cases i with
    | zero => exact h
    | succ i => exact ih i (by simpa using h1) (by simpa using h2)
theorem S_wkB {todo : List AI} {cur : Nat} {cs : List AV} {ty : Option TypeId} (id : Nat) (cs' : List AV) (h : σ[id]? = some (cur, some (.cells cs ⟨false, ty⟩))) (hw : Wvs cs cs') (hT : ∃ c k, todo = .code c :: k ∨ ∃ all l K, todo = .ops all l K :: k)
    (hk : S cx n B todo Q fr (σ.set id (cur, some (.cells cs' ⟨false, ty⟩)))) : S cx n B todo Q fr σ := by
  have key : ∀ r w, Inv cx r σ w → Inv cx r (σ.set id (cur, some (.cells cs' ⟨false, ty⟩))) w ∧ Ext r σ w r (σ.set id (cur, some (.cells cs' ⟨false, ty⟩))) w := by
    intro r w hi
    refine hi.recast h (fun b o hb => ?_) (fun ro hro => by cases hro; cases hw; exact ⟨_, rfl⟩)
    obtain ⟨c, t, lo, hi, h1, h2, h3, h4, h5⟩ := hb
    refine ⟨c, t, lo, hi, h1, fun i hil => ?_, fun x hx => ?_, fun i a b c => (by cases (h4 i a b c).1), h5⟩
    · have hil' : i < cs.length := by rw [hw.len]; exact hil
      obtain ⟨v, k1, k2⟩ := h2 i hil'
      exact ⟨v, k1, (hw.get i hil' hil).rel k2⟩
    · obtain ⟨i, hi', rfl⟩ := List.getElem_of_mem hx
      exact (hw.get i (by rw [hw.len]; exact hi') hi').one (h3 _ (List.getElem_mem _))
  obtain ⟨c, k, hT⟩ := hT
  rcases hT with rfl | ⟨all, l, K, rfl⟩
  · intro r a w hi hf hd hx
    obtain ⟨q1, q2⟩ := key r w hi
    exact hk r a w q1 (hf.mono (q2.grow hi)) hd (hx.trans q2)
  · intro r a w hi hf hd hx
    obtain ⟨q1, q2⟩ := key r w hi
    exact hk r a w q1 (hf.mono (q2.grow hi)) hd (hx.trans q2)
theorem S_wkF {todo : List AI} {az : List AV} (t : Nat) (bs : List AV) (h : fr.get t = .agg az) (hw : Wvs az bs) (hT : ∃ c k, todo = .code c :: k ∨ ∃ all l K, todo = .ops all l K :: k)
    (hk : S cx n B todo Q ((t, .agg bs) :: fr) σ) : S cx n B todo Q fr σ := by
  have key : ∀ r w a, FRel r w n fr a → FRel r w n ((t, .agg bs) :: fr) a := by
    intro r w a hf
    refine ⟨hf.size, fun s => ?_, fun vs hm => ?_⟩
    · rw [Fr.get_cons]
      split
      · rename_i hs
        subst hs
        have hv := hf.get t
        rw [h] at hv
        generalize a.tmps.getD t undef = z at hv
        cases hv with
        | agg hn hc => exact .agg (by rw [hn, hw.len]) (fun i hi => (hw.get i (by rw [hw.len]; exact hi) hi).rel (hc i (by rw [hw.len]; exact hi)))
      · exact hf.get s
    · rw [Fr.get_cons] at hm
      split at hm
      · cases hm
      · exact hf.defs vs hm
  obtain ⟨c, k, hT⟩ := hT
  rcases hT with rfl | ⟨all, l, K, rfl⟩
  · exact fun r a w hi hf hd hx => hk r a w hi (key r w a hf) hd hx
  · exact fun r a w hi hf hd hx => hk r a w hi (key r w a hf) hd hx
end
end Go.Ab
end
section
set_option linter.unusedVariables false
set_option linter.unusedSimpArgs false
set_option maxRecDepth 20000
namespace Go.Proofs.YtmdegomejbpldaaGreatDoor
open Go Go.Ab
mutual
def exA : Ex → AV
  | .mk k n t ks ns => .agg [.int .i64 (k : Nat), .int .i64 (n : Nat), .str t, .sl true false 5 (exL ks), .sl true false 1 (texts ns)]
  termination_by structural x => x
def exL : List Ex → List AV
  | [] => []
  | x :: r => exA x :: exL r
  termination_by structural x => x
end
mutual
def stA : St → AV
  | .mk k t ns x b e => .agg ([.int .i64 (k : Nat), .str t, .sl true false 1 (texts ns)] ++ ((exA x).cells ++ [.sl true false 10 (stL b), .sl true false 10 (stL e)]))
  termination_by structural x => x
def stL : List St → List AV
  | [] => []
  | x :: r => stA x :: stL r
  termination_by structural x => x
end
theorem textsF {st : Bool} (l : List (List UInt8)) : ∀ x ∈ texts l, Free st x := by
  intro x hx; obtain ⟨t, _, rfl⟩ := List.mem_map.1 hx; exact .str
mutual
theorem exA_free {st : Bool} : ∀ x : Ex, Free st (exA x)
  | .mk k n t ks ns => .agg (by
    intro y hy
    simp only [List.mem_cons, List.not_mem_nil, or_false] at hy
    rcases hy with rfl | rfl | rfl | rfl | rfl
    · exact .int
    · exact .int
    · exact .str
    · exact .sl (fun _ => rfl) (exL_free ks)
    · exact .sl (fun _ => rfl) (textsF ns))
theorem exL_free {st : Bool} : ∀ l : List Ex, ∀ y ∈ exL l, Free st y
  | [], y, h => by simp [exL] at h
  | x :: r, y, h => by
    rw [exL, List.mem_cons] at h
    rcases h with rfl | h
    · exact exA_free x
    · exact exL_free r y h
end
theorem exA_cells (x : Ex) : (exA x).cells.length = 5 := by cases x; rfl
theorem cells_free {st : Bool} {a : AV} (h : Free st a) : ∀ x ∈ a.cells, Free st x := by
  cases a with
  | agg cs => cases h; assumption
  | _ => intro x hx; simp only [AV.cells, List.mem_singleton] at hx; subst hx; exact h
mutual
theorem stA_free {st : Bool} : ∀ x : St, Free st (stA x)
  | .mk k t ns x b e => .agg (by
    intro y hy
    simp only [List.mem_append, List.mem_cons, List.not_mem_nil, or_false] at hy
    rcases hy with (rfl | rfl | rfl) | hy | rfl | rfl
    · exact .int
    · exact .str
    · exact .sl (fun _ => rfl) (textsF ns)
    · exact cells_free (exA_free x) y hy
    · exact .sl (fun _ => rfl) (stL_free b)
    · exact .sl (fun _ => rfl) (stL_free e))
theorem stL_free {st : Bool} : ∀ l : List St, ∀ y ∈ stL l, Free st y
  | [], y, h => by simp [stL] at h
  | x :: r, y, h => by
    rw [stL, List.mem_cons] at h
    rcases h with rfl | h
    · exact stA_free x
    · exact stL_free r y h
end
theorem exL_map (l : List Ex) : exL l = l.map exA := by
  induction l with
  | nil => rfl
  | cons x r ih => rw [exL, ih]; rfl
theorem stL_map (l : List St) : stL l = l.map stA := by
  induction l with
  | nil => rfl
  | cons x r ih => rw [stL, ih]; rfl
def psB (v : Nat) (l r : List Tok) (e b d n : Nat) : Nat × Option Box := (v, some (.cells [.sl true false 4 (l.map tokA), .int .i64 ((l.length - r.length : Nat) : Int), .int .i64 (e : Nat), .int .i64 (b : Nat), .int .i64 (d : Nat), .int .i64 (n : Nat)] ⟨false, some 54⟩))
def psH (v : Nat) (l r : List Tok) (e b d n : Nat) : Heap := [psB v l r e b d n]
def psI (v : Nat) (l : List Tok) (a e b d n : Int) : Nat × Option Box := (v, some (.cells [.sl true false 4 (l.map tokA), .int .i64 a, .int .i64 e, .int .i64 b, .int .i64 d, .int .i64 n] ⟨false, some 54⟩))
theorem suf_get {l u : List Tok} {t : Tok} (h : t :: u <:+ l) : (l.map tokA)[(((l.length - (t :: u).length : Nat) : Nat) : Int).toNat]? = some (tokA t) := by
  obtain ⟨p, rfl⟩ := h
  rw [Int.toNat_natCast]
  simp
theorem suf_lt {l u : List Tok} {t : Tok} (h : t :: u <:+ l) : l.length - (t :: u).length < l.length := by
  have := h.length_le; simp at this ⊢; omega
theorem suf_next {l u : List Tok} {t : Tok} (h : t :: u <:+ l) (hl : l.length ≤ 100000) : IntKind.i64.wrap (((l.length - (t :: u).length : Nat) : Int) + 1) = ((l.length - u.length : Nat) : Int) := by
  have := h.length_le
  rw [List.length_cons] at this ⊢
  rw [IntWalk.i64_in _ ⟨by omega, by omega⟩]; omega
theorem suf_tail {l u : List Tok} {t : Tok} (h : t :: u <:+ l) : u <:+ l := (List.suffix_cons t u).trans h
theorem kind_ok (v : Nat) (l r : List Tok) (e b d n : Nat) (hr : r <:+ l) (hl : l.length ≤ 100000) :
    CallOk cx 52 [.ptr 0 v 0] (psH v l r e b d n) (fun o σ => o = .ret (.int .i64 (hdK r : Nat)) ∧ σ = psH v l r e b d n) :=
  callOk_intro (fun a w => Tryz.call52 a w) Tryz.func52 rfl Tryz.ntmps52 rfl fun B => by
    have hml : (l.map tokA).length = l.length := by simp
    cases r with
    | nil =>
      refine pa [.b false] rfl ?_ ?_
      · (repeat' with_reducible apply AllP_cons) <;> try exact aC
        exact decide_eq_false (by rw [hml]; simp)
      exact S_ret ⟨_, _, rfl, trivial, rfl, rfl⟩
    | cons t u =>
      have hg := suf_get hr
      have ht := suf_lt hr
      refine pB [.b true, .v (tokA t)] rfl ?_
      exact S_ret ⟨_, _, rfl, trivial, rfl, rfl⟩
theorem place_ok (v : Nat) (l r : List Tok) (e b d n : Nat) (hr : r <:+ l) (hl : l.length ≤ 100000) :
    CallOk cx 74 [.ptr 0 v 0] (psH v l r e b d n) (fun o σ => o = .ret (.int .i64 (placeS e r : Nat)) ∧ σ = psH v l r e b d n) :=
  callOk_intro (fun a w => Tryz.call74 a w) Tryz.func74 rfl Tryz.ntmps74 rfl fun B => by
    have hml : (l.map tokA).length = l.length := by simp
    cases r with
    | nil =>
      refine pa [.b false] rfl ?_ ?_
      · (repeat' with_reducible apply AllP_cons) <;> try exact aC
        exact decide_eq_false (by rw [hml]; simp)
      exact S_ret ⟨_, _, rfl, trivial, rfl, rfl⟩
    | cons t u =>
      have hg := suf_get hr
      have ht := suf_lt hr
      refine pB [.b true, .v (tokA t)] rfl ?_
      exact S_ret ⟨_, _, rfl, trivial, rfl, rfl⟩
theorem pfail_ok (v : Nat) (l r : List Tok) (e b d n k : Nat) (hr : r <:+ l) (hl : l.length ≤ 100000) :
    CallOk cx 53 [.ptr 0 v 0, .int .i64 (k : Nat)] (psH v l r e b d n) (fun o σ => o = .panic (flt (k, placeS e r)) ∧ σ = psH v l r e b d n) :=
  callOk_intro (fun a w => Tryz.call53 a w) Tryz.func53 rfl Tryz.ntmps53 rfl fun B => by
    refine pa [.k (.int .i64 (placeS e r : Nat))] rfl ?_ ?_
    · (repeat' with_reducible apply AllP_cons) <;> try exact aC
      exact place_ok v l r e b d n hr hl
    exact S_panic rfl rfl rfl ⟨rfl, rfl⟩
end Go.Proofs.YtmdegomejbpldaaGreatDoor
end
section
set_option linter.unusedVariables false
set_option linter.unusedSimpArgs false
set_option maxRecDepth 20000
namespace Go.Proofs.YtmdegomejbpldaaGreatDoor
open Go Go.Ab
theorem psB_free (v : Nat) (l r : List Tok) (e b d n : Nat) : ∀ x ∈ [AV.sl true false 4 (l.map tokA), .int .i64 ((l.length - r.length : Nat) : Int), .int .i64 (e : Nat), .int .i64 (b : Nat), .int .i64 (d : Nat), .int .i64 (n : Nat)], Free false x := by
  intro x hx
  simp only [List.mem_cons, List.not_mem_nil, or_false] at hx
  rcases hx with rfl | rfl | rfl | rfl | rfl | rfl
  · exact .sl (fun h => by cases h) (toks_free l)
  all_goals exact .int
theorem psH_rn (v : Nat) (l r : List Tok) (e b d n : Nat) : RnH (List.range 1) (psH v l r e b d n) (psH v l r e b d n) :=
  .cons (.live (.cells (.free (psB_free v l r e b d n)))) (.nil _)
theorem psH_low (v : Nat) (l r : List Tok) (e b d n : Nat) (τ : Heap) : LowH 1 (psB v l r e b d n :: τ) := by
  intro id ver x hid hx
  match id, hid with
  | 0, _ =>
    cases hx
    exact .cells fun y hy => Low.free (psB_free v l r e b d n y hy)
def PE {α : Type} (A : α → AV) (v : Nat) (l : List Tok) (e b d n : Nat) (x : Pr α) (τ : Heap) : Out → Heap → Prop := fun o σ => match x with
  | .out => True
  | .bad k r => o = .panic (flt (k, placeS e r)) ∧ ∃ r' b' d' n', σ = psB v l r' e b' d' n' :: τ
  | .ok y r => o = .ret (A y) ∧ σ = psB v l r e b d n :: τ
theorem fltI_free {st : Bool} (e : Flt) : Free st (flt e) := .iface (flt_free e)
theorem PE.tail {α : Type} {A : α → AV} {f : FuncId} {args : List AV} {v : Nat} {l r : List Tok} {e b d n b1 d1 n1 : Nat} {x : Pr α} (τ : Heap) (h : CallOk cx f args (psH v l r e b d n) (PE A v l e b1 d1 n1 x [])) (hne : x ≠ .out) (ha : Rns (List.range 1) args args) (hA : ∀ y, Free false (A y)) :
    CallOk cx f args (psB v l r e b d n :: τ) (PE A v l e b1 d1 n1 x τ) :=
  (h.pre 1 τ rfl ha (psH_rn ..) (fun o s hR => by
    cases x with
    | out => exact absurd rfl hne
    | bad k u => obtain ⟨rfl, r', b', d', n', rfl⟩ := hR; exact ⟨rfl, psH_rn .., .free (fltI_free _)⟩
    | ok y u => obtain ⟨rfl, rfl⟩ := hR; exact ⟨rfl, psH_rn .., .free (hA y)⟩)).mono fun o s hR => by
    obtain ⟨s0, rfl, hR⟩ := hR
    cases x with
    | out => exact absurd rfl hne
    | bad k u => obtain ⟨rfl, r', b', d', n', rfl⟩ := hR; exact ⟨rfl, r', b', d', n', rfl⟩
    | ok y u => obtain ⟨rfl, rfl⟩ := hR; exact ⟨rfl, rfl⟩
theorem PE.ok {α : Type} {A : α → AV} {f : FuncId} {args : List AV} {v : Nat} {l r : List Tok} {e b d n : Nat} {x : Pr α} {y : α} {σ τ : Heap} (h : CallOk cx f args σ (PE A v l e b d n x τ)) (hx : x = .ok y r) : CallOk cx f args σ (fun o s => o = .ret (A y) ∧ s = psB v l r e b d n :: τ) := by
  subst hx; exact h
section
variable {N : Nat} {B : Bs} {k : List AI} {fr : Fr} {σ : Heap}
theorem S_callE {α β : Type} {A : α → AV} {A' : β → AV} {fn : Func} {all : Array Oper} {o : Oper} {L : List Oper} {K : List Nat} {f : FuncId} {args : List AV} {v : Nat} {l : List Tok} {e b d n b1 d1 n1 j : Nat} {r : List Tok} {x : Pr α} {X : Pr β} {τ : Heap}
    (hg : guardA all o K fr = some true) (hc : callA cx fr o.op = some (f, args)) (hd : dstOk N o.dst = true) (hcall : CallOk cx f args σ (PE A v l e b d n x τ)) (hx : x = .bad j r) (hX : X = .bad j r) :
    S cx N B (.ops all (o :: L) K :: k) (retQ cx fn (TR 1 (PE A' v l e b1 d1 n1 X []))) fr σ := by
  subst hx; subst hX
  refine S_call hg hc hd hcall (fun v s h => by cases h.1) (fun w s h => ?_)
  obtain ⟨h1, r', b', d', n', rfl⟩ := h
  cases h1
  exact ⟨1, Nat.le_refl _, psH_low _ _ _ _ _ _ _ _, Low.free (st := false) (fltI_free _), rfl, r', b', d', n', rfl⟩
theorem S_drawE {α β : Type} {A : α → AV} {A' : β → AV} {fn : Func} {id : Nat} (jc : Nat) {ops : Array Oper} {vals : List AV} {C : List Prop} {fr' : Fr} (K : List Nat) (rs : List AV) {o : Oper} {f : FuncId} {args : List AV} {v : Nat} {l : List Tok} {e b d n b1 d1 n1 j : Nat} {r : List Tok} {x : Pr α} {X : Pr β} {τ : Heap}
    (hP : cx.P.follows .mixedOrders = true) (hchk : drawOkP ops.toList jc = true) (hrun : normC (runD cx K N ops ops.toList σ (ops.toList.take jc) fr rs) = some (C, vals, fr')) (ho : ops.toList[jc]? = some o) (hg : guardA ops o K (restr ops.toList o fr') = some true) (hc : callA cx (restr ops.toList o fr') o.op = some (f, args)) (hC : AllP C)
    (hcall : CallOk cx f args σ (PE A v l e b d n x τ)) (hx : x = .bad j r) (hX : X = .bad j r) :
    S cx N B (.code (.region id ops true) :: k) (retQ cx fn (TR 1 (PE A' v l e b1 d1 n1 X []))) fr σ := by
  subst hx; subst hX
  refine S_drawP jc K rs hP hchk hrun ho hg hc hC hcall (fun v s h => by cases h.1) (fun w s fr h => ?_)
  obtain ⟨h1, r', b', d', n', rfl⟩ := h
  cases h1
  exact ⟨1, Nat.le_refl _, psH_low _ _ _ _ _ _ _ _, Low.free (st := false) (fltI_free _), rfl, r', b', d', n', rfl⟩
end
theorem PE.fin {α : Type} {A : α → AV} {v : Nat} {l r : List Tok} {e b d n : Nat} {X : Pr α} {y : α} {τ : Heap} (hX : X = .ok y r) (hA : Free false (A y)) : TR 1 (PE A v l e b d n X []) (.ret (A y)) (psB v l r e b d n :: τ) := by
  subst hX
  exact ⟨1, Nat.le_refl _, psH_low _ _ _ _ _ _ _ _, A y, .low (Low.free hA), rfl, rfl⟩
theorem PE.finZ {α : Type} {A : α → AV} {v : Nat} {l r : List Tok} {e b d n : Nat} {X : Pr α} {y : α} {z : AV} {τ : Heap} (hX : X = .ok y r) (hA : FzT 1 (psB v l r e b d n :: τ) z (A y)) : TR 1 (PE A v l e b d n X []) (.ret z) (psB v l r e b d n :: τ) := by
  subst hX
  exact ⟨1, Nat.le_refl _, psH_low _ _ _ _ _ _ _ _, A y, hA, rfl, rfl⟩
theorem arg0_rn (v : Nat) (xs : List AV) (h : ∀ x ∈ xs, Free false x) : Rns (List.range 1) (.ptr 0 v 0 :: xs) (.ptr 0 v 0 :: xs) := .cons (.ptr rfl) (.free h)
theorem kindT (v : Nat) (l r : List Tok) (e b d n : Nat) (τ : Heap) (hr : r <:+ l) (hl : l.length ≤ 100000) :
    CallOk cx 52 [.ptr 0 v 0] (psB v l r e b d n :: τ) (fun o σ => o = .ret (.int .i64 (hdK r : Nat)) ∧ σ = psB v l r e b d n :: τ) :=
  (kind_ok v l r e b d n hr hl).pre1 1 τ rfl rfl (arg0_rn v [] (by simp)) (psH_rn ..) (psH_rn ..) (.free .int)
theorem failT {α : Type} (A : α → AV) (v : Nat) (l r : List Tok) (e b d n k : Nat) (τ : Heap) (hr : r <:+ l) (hl : l.length ≤ 100000) :
    CallOk cx 53 [.ptr 0 v 0, .int .i64 (k : Nat)] (psB v l r e b d n :: τ) (PE A v l e b d n (.bad k r) τ) :=
  (PE.tail (A := fun _ : Unit => AV.tup []) (b1 := b) (d1 := d) (n1 := n) (x := .bad k r) τ ((pfail_ok v l r e b d n k hr hl).mono fun o s ⟨h1, h2⟩ => ⟨h1, r, b, d, n, h2⟩) (by nofun) (arg0_rn v _ (by intro x hx; simp at hx; subst hx; exact .int)) (fun _ => .tup (by simp))).mono fun o s h => h
theorem is_ok (v : Nat) (l r : List Tok) (e b d n : Nat) (s : List UInt8) (hr : r <:+ l) (hl : l.length ≤ 100000) :
    CallOk cx 30 [.ptr 0 v 0, .str s] (psH v l r e b d n) (fun o σ => o = .ret (.bool (isS s r)) ∧ σ = psH v l r e b d n) :=
  callOk_intro (fun a w => Tryz.call30 a w) Tryz.func30 rfl Tryz.ntmps30 rfl fun B => by
    have hk := kind_ok v l r e b d n hr hl
    have hml : (l.map tokA).length = l.length := by simp
    unfold isS
    cases r with
    | nil =>
      refine pB [.k (.int .i64 (0 : Nat)), .b false, .b false] rfl ?_
      exact S_ret ⟨_, _, rfl, trivial, rfl, rfl⟩
    | cons t u =>
      have hg := suf_get hr
      have ht := suf_lt hr
      by_cases h4 : t.kind = 4
      · have e4 : ((t.kind : Int) == 4) = true := by rw [h4]; rfl
        refine pB [.k (.int .i64 (t.kind : Nat)), .b true, .b true, .v (tokA t)] rfl ?_
        refine S_ret ⟨_, _, rfl, trivial, ?_, rfl⟩
        show Out.ret (.bool (t.text == s)) = _
        rw [show hdK (t :: u) = 4 from h4]; rfl
      · have e4 : ((t.kind : Int) == 4) = false := beq_false_of_ne (by omega)
        by_cases h5 : t.kind = 5
        · have e5 : ((t.kind : Int) == 5) = true := by rw [h5]; rfl
          refine pB [.k (.int .i64 (t.kind : Nat)), .b false, .b true, .v (tokA t)] rfl ?_
          refine S_ret ⟨_, _, rfl, trivial, ?_, rfl⟩
          show Out.ret (.bool (t.text == s)) = _
          rw [show hdK (t :: u) = 5 from h5]; rfl
        · have e5 : ((t.kind : Int) == 5) = false := beq_false_of_ne (by omega)
          refine pB [.k (.int .i64 (t.kind : Nat)), .b false, .b false] rfl ?_
          refine S_ret ⟨_, _, rfl, trivial, ?_, rfl⟩
          show Out.ret (.bool false) = .ret (.bool ((t.kind == 4 || t.kind == 5) && hdT (t :: u) == s))
          rw [beq_false_of_ne h4, beq_false_of_ne h5]; rfl
theorem isT (v : Nat) (l r : List Tok) (e b d n : Nat) (s : List UInt8) (τ : Heap) (hr : r <:+ l) (hl : l.length ≤ 100000) :
    CallOk cx 30 [.ptr 0 v 0, .str s] (psB v l r e b d n :: τ) (fun o σ => o = .ret (.bool (isS s r)) ∧ σ = psB v l r e b d n :: τ) :=
  (is_ok v l r e b d n s hr hl).pre1 1 τ rfl rfl (arg0_rn v _ (by intro x hx; simp at hx; subst hx; exact .str)) (psH_rn ..) (psH_rn ..) (.free .bool)
theorem isS_cons {s : List UInt8} {r : List Tok} (h : isS s r = true) : ∃ t u, r = t :: u := by
  cases r with
  | nil => cases h
  | cons t u => exact ⟨t, u, rfl⟩
theorem suf_nextI {l r : List Tok} {s : List UInt8} (hr : r <:+ l) (hl : l.length ≤ 100000) (h : isS s r = true) : IntKind.i64.wrap (((l.length - r.length : Nat) : Int) + 1) = ((l.length - r.tail.length : Nat) : Int) := by
  obtain ⟨t, u, rfl⟩ := isS_cons h
  exact suf_next hr hl
theorem isS_suf {l r : List Tok} (hr : r <:+ l) : r.tail <:+ l := (List.tail_suffix r).trans hr
theorem may_ok (v : Nat) (l r : List Tok) (e b d n : Nat) (s : List UInt8) (hr : r <:+ l) (hl : l.length ≤ 100000) :
    CallOk cx 32 [.ptr 0 v 0, .str s] (psH v l r e b d n) (fun o σ => o = .ret (.bool (isS s r)) ∧ σ = psH v l (if isS s r then r.tail else r) e b d n) :=
  callOk_intro (fun a w => Tryz.call32 a w) Tryz.func32 rfl Tryz.ntmps32 rfl fun B => by
    have hi := is_ok v l r e b d n s hr hl
    by_cases h : isS s r = true
    · rw [h] at hi ⊢
      have hw := suf_nextI hr hl h
      refine pB [.k (.bool true), .b true] rfl ?_
      refine S_ret ⟨_, _, rfl, trivial, rfl, ?_⟩
      show [psI v l (IntKind.i64.wrap (((l.length - r.length : Nat) : Int) + 1)) e b d n] = _
      rw [hw]; rfl
    · rw [Bool.not_eq_true] at h
      rw [h] at hi ⊢
      refine pB [.k (.bool false), .b false] rfl ?_
      exact S_ret ⟨_, _, rfl, trivial, rfl, rfl⟩
theorem may_yes (v : Nat) (l r : List Tok) (e b d n : Nat) (s : List UInt8) (τ : Heap) (hr : r <:+ l) (hl : l.length ≤ 100000) (h : isS s r = true) :
    CallOk cx 32 [.ptr 0 v 0, .str s] (psB v l r e b d n :: τ) (fun o σ => o = .ret (.bool true) ∧ σ = psB v l r.tail e b d n :: τ) := by
  have hm := may_ok v l r e b d n s hr hl
  rw [h] at hm
  exact hm.pre1 1 τ rfl rfl (arg0_rn v _ (by intro x hx; simp at hx; subst hx; exact .str)) (psH_rn ..) (psH_rn ..) (.free .bool)
theorem may_no (v : Nat) (l r : List Tok) (e b d n : Nat) (s : List UInt8) (τ : Heap) (hr : r <:+ l) (hl : l.length ≤ 100000) (h : ¬ isS s r = true) :
    CallOk cx 32 [.ptr 0 v 0, .str s] (psB v l r e b d n :: τ) (fun o σ => o = .ret (.bool false) ∧ σ = psB v l r e b d n :: τ) := by
  have hm := may_ok v l r e b d n s hr hl
  rw [Bool.not_eq_true] at h
  rw [h] at hm
  exact hm.pre1 1 τ rfl rfl (arg0_rn v _ (by intro x hx; simp at hx; subst hx; exact .str)) (psH_rn ..) (psH_rn ..) (.free .bool)
def uA (_ : Unit) : AV := .tup []
theorem mustT (v : Nat) (l r : List Tok) (e b d n : Nat) (s : List UInt8) (τ : Heap) (hr : r <:+ l) (hl : l.length ≤ 100000) :
    CallOk cx 36 [.ptr 0 v 0, .str s] (psB v l r e b d n :: τ) (PE uA v l e b d n (mustS s r) τ) :=
  PE.tail τ (callOk_introT (fun a w => Tryz.call36 a w) Tryz.func36 rfl Tryz.ntmps36 rfl fun B => by
    obtain ⟨X, hX⟩ : ∃ X, X = mustS s r := ⟨_, rfl⟩
    rw [← hX]
    unfold mustS at hX
    by_cases h : isS s r = true
    · rw [if_pos h] at hX
      have hm := may_yes v l r e b d n s [] hr hl h
      refine pB [.c (.bool true) (psH v l r.tail e b d n), .b false] rfl ?_
      exact S_nil ⟨_, _, rfl, trivial, PE.fin hX (.tup (by simp))⟩
    · rw [if_neg h] at hX
      have hm := may_no v l r e b d n s [] hr hl h
      refine pB [.c (.bool false) (psH v l r e b d n), .b true] rfl ?_
      exact S_callE rfl rfl rfl (failT uA v l r e b d n 1 [] hr hl) rfl hX) (by unfold mustS; split <;> nofun) (arg0_rn v _ (by intro x hx; simp at hx; subst hx; exact .str)) (fun _ => .tup (by simp))
theorem takeT (v : Nat) (l r : List Tok) (e b d n k : Nat) (τ : Heap) (hr : r <:+ l) (hl : l.length ≤ 100000) (hk : k ≠ 0) :
    CallOk cx 35 [.ptr 0 v 0, .int .i64 (k : Nat)] (psB v l r e b d n :: τ) (PE tokA v l e b d n (takeS k r) τ) :=
  PE.tail τ (callOk_introT (fun a w => Tryz.call35 a w) Tryz.func35 rfl Tryz.ntmps35 rfl fun B => by
    obtain ⟨X, hX⟩ : ∃ X, X = takeS k r := ⟨_, rfl⟩
    rw [← hX]
    unfold takeS at hX
    cases r with
    | nil =>
      refine pa [.k (.int .i64 (0 : Nat)), .b true] rfl ?_ ?_
      · (repeat' with_reducible apply AllP_cons) <;> try exact aC
        · exact kindT v l [] e b d n _ hr hl
        · exact bne_iff_ne.2 (by omega)
      exact S_callE rfl rfl rfl (failT uA v l [] e b d n 1 _ hr hl) rfl hX
    | cons t u =>
      have hg := suf_get hr
      have ht := suf_lt hr
      have hk1 := kindT v l (t :: u) e b d n
      have hX : X = if t.kind = k then .ok t u else .bad 1 (t :: u) := hX
      by_cases h : t.kind = k
      · subst h
        rw [if_pos rfl] at hX
        have hw := suf_next hr hl
        have hw2 : IntKind.i64.wrap (IntKind.i64.wrap (((l.length - (t :: u).length : Nat) : Int) + 1) - 1) = ((l.length - (t :: u).length : Nat) : Int) := by
          have := hr.length_le
          rw [List.length_cons] at this hw ⊢
          rw [hw, IntWalk.i64_in _ ⟨by omega, by omega⟩]; omega
        refine pa [.k (.int .i64 (t.kind : Nat)), .b false, .v (tokA t)] rfl ?_ ?_
        · (repeat' with_reducible apply AllP_cons) <;> try exact aC
          · exact hk1 _ hr hl
          · exact bne_self_eq_false _
          · rw [hw2]; exact hg
        refine S_ret ⟨_, _, rfl, ⟨rfl, trivial⟩, ?_⟩
        show TR 1 _ (.ret (tokA t)) (psI v l (IntKind.i64.wrap (((l.length - (t :: u).length : Nat) : Int) + 1)) e b d n :: _)
        rw [hw]
        exact PE.fin hX (.agg (tokC_free t))
      · rw [if_neg h] at hX
        refine pa [.k (.int .i64 (t.kind : Nat)), .b true] rfl ?_ ?_
        · (repeat' with_reducible apply AllP_cons) <;> try exact aC
          · exact hk1 _ hr hl
          · exact bne_iff_ne.2 (by omega)
        exact S_callE rfl rfl rfl (failT uA v l _ e b d n 1 _ hr hl) rfl hX) (by unfold takeS; split; nofun; split <;> nofun) (arg0_rn v _ (by intro x hx; simp at hx; subst hx; exact .int)) (fun t => .agg (tokC_free t))
end Go.Proofs.YtmdegomejbpldaaGreatDoor
end
section
set_option linter.unusedVariables false
set_option linter.unusedSimpArgs false
set_option maxRecDepth 20000
namespace Go.Proofs.YtmdegomejbpldaaGreatDoor
open Go Go.Ab
def Yok (y : Nat × Option Box) : Prop := ∃ v cs g, y = (v, some (.cells cs g)) ∧ ∀ x ∈ cs, Rn (List.range 2) x x ∧ Low 2 x
theorem Rn.up {a b : AV} (h : Free false a) : Rn (List.range 2) a a := .free h
theorem psY_rn (v : Nat) (l r : List Tok) (e b d n : Nat) {y : Nat × Option Box} (hy : Yok y) : RnH (List.range 2) [psB v l r e b d n, y] [psB v l r e b d n, y] := by
  obtain ⟨v', cs, g, rfl, hc⟩ := hy
  exact .cons (.live (.cells (.free (psB_free v l r e b d n)))) (.cons (.live (.cells ⟨rfl, fun i h1 h2 => (hc _ (List.getElem_mem h1)).1⟩)) (.nil _))
theorem psY_low (v : Nat) (l r : List Tok) (e b d n : Nat) {y : Nat × Option Box} (hy : Yok y) (τ : Heap) : LowH 2 (psB v l r e b d n :: y :: τ) := by
  obtain ⟨v', cs, g, rfl, hc⟩ := hy
  intro id ver x hid hx
  match id, hid with
  | 0, _ =>
    cases hx
    exact .cells fun y hy => Low.free (psB_free v l r e b d n y hy)
  | 1, _ =>
    cases hx
    exact .cells fun y hy => (hc y hy).2
theorem PE.tail2 {α : Type} {A : α → AV} {f : FuncId} {args : List AV} {v : Nat} {l r : List Tok} {e b d n b1 d1 n1 : Nat} {x : Pr α} {y : Nat × Option Box} (τ : Heap) (hy : Yok y) (h : CallOk cx f args [psB v l r e b d n, y] (PE A v l e b1 d1 n1 x [y])) (hne : x ≠ .out) (ha : Rns (List.range 2) args args) (hA : ∀ y, Free false (A y)) :
    CallOk cx f args (psB v l r e b d n :: y :: τ) (PE A v l e b1 d1 n1 x (y :: τ)) :=
  (h.pre 2 τ rfl ha (psY_rn _ _ _ _ _ _ _ hy) (fun o s hR => by
    cases x with
    | out => exact absurd rfl hne
    | bad k u => obtain ⟨rfl, r', b', d', n', rfl⟩ := hR; exact ⟨rfl, psY_rn _ _ _ _ _ _ _ hy, .free (fltI_free _)⟩
    | ok y u => obtain ⟨rfl, rfl⟩ := hR; exact ⟨rfl, psY_rn _ _ _ _ _ _ _ hy, .free (hA y)⟩)).mono fun o s hR => by
    obtain ⟨s0, rfl, hR⟩ := hR
    cases x with
    | out => exact absurd rfl hne
    | bad k u => obtain ⟨rfl, r', b', d', n', rfl⟩ := hR; exact ⟨rfl, r', b', d', n', rfl⟩
    | ok y u => obtain ⟨rfl, rfl⟩ := hR; exact ⟨rfl, rfl⟩
section
variable {N : Nat} {B : Bs} {k : List AI} {fr : Fr} {σ : Heap}
theorem S_callE2 {α β : Type} {A : α → AV} {A' : β → AV} {fn : Func} {all : Array Oper} {o : Oper} {L : List Oper} {K : List Nat} {f : FuncId} {args : List AV} {v : Nat} {l : List Tok} {e b d n b1 d1 n1 j : Nat} {r : List Tok} {x : Pr α} {X : Pr β} {y : Nat × Option Box} {τ : Heap} (hy : Yok y)
    (hg : guardA all o K fr = some true) (hc : callA cx fr o.op = some (f, args)) (hd : dstOk N o.dst = true) (hcall : CallOk cx f args σ (PE A v l e b d n x (y :: τ))) (hx : x = .bad j r) (hX : X = .bad j r) :
    S cx N B (.ops all (o :: L) K :: k) (retQ cx fn (TR 2 (PE A' v l e b1 d1 n1 X [y]))) fr σ := by
  subst hx; subst hX
  refine S_call hg hc hd hcall (fun v s h => by cases h.1) (fun w s h => ?_)
  obtain ⟨h1, r', b', d', n', rfl⟩ := h
  cases h1
  exact ⟨2, Nat.le_refl _, psY_low _ _ _ _ _ _ _ hy _, Low.free (st := false) (fltI_free _), rfl, r', b', d', n', rfl⟩
theorem S_drawE2 {α β : Type} {A : α → AV} {A' : β → AV} {fn : Func} {id : Nat} (jc : Nat) {ops : Array Oper} {vals : List AV} {C : List Prop} {fr' : Fr} (K : List Nat) (rs : List AV) {o : Oper} {f : FuncId} {args : List AV} {v : Nat} {l : List Tok} {e b d n b1 d1 n1 j : Nat} {r : List Tok} {x : Pr α} {X : Pr β} {y : Nat × Option Box} {τ : Heap} (hy : Yok y)
    (hP : cx.P.follows .mixedOrders = true) (hchk : drawOkP ops.toList jc = true) (hrun : normC (runD cx K N ops ops.toList σ (ops.toList.take jc) fr rs) = some (C, vals, fr')) (ho : ops.toList[jc]? = some o) (hg : guardA ops o K (restr ops.toList o fr') = some true) (hc : callA cx (restr ops.toList o fr') o.op = some (f, args)) (hC : AllP C)
    (hcall : CallOk cx f args σ (PE A v l e b d n x (y :: τ))) (hx : x = .bad j r) (hX : X = .bad j r) :
    S cx N B (.code (.region id ops true) :: k) (retQ cx fn (TR 2 (PE A' v l e b1 d1 n1 X [y]))) fr σ := by
  subst hx; subst hX
  refine S_drawP jc K rs hP hchk hrun ho hg hc hC hcall (fun v s h => by cases h.1) (fun w s fr h => ?_)
  obtain ⟨h1, r', b', d', n', rfl⟩ := h
  cases h1
  exact ⟨2, Nat.le_refl _, psY_low _ _ _ _ _ _ _ hy _, Low.free (st := false) (fltI_free _), rfl, r', b', d', n', rfl⟩
end
theorem PE.fin2 {α : Type} {A : α → AV} {v : Nat} {l r : List Tok} {e b d n : Nat} {X : Pr α} {x : α} {y : Nat × Option Box} {τ : Heap} (hy : Yok y) (hX : X = .ok x r) (hA : Free false (A x)) : TR 2 (PE A v l e b d n X [y]) (.ret (A x)) (psB v l r e b d n :: y :: τ) := by
  subst hX
  exact ⟨2, Nat.le_refl _, psY_low _ _ _ _ _ _ _ hy _, A x, .low (Low.free hA), rfl, rfl⟩
def exO : Nat × Option Box := (0, some (.cells [.int .i64 0, .int .i64 0, .str [], .nils, .nils] ⟨false, some 36⟩))
def Of (g : FuncId) (xs : List AV) (v : Nat) (l : List Tok) (e b d n : Nat) (y : Nat × Option Box) (r : List Tok) (x : Pr Ex) : Prop :=
  ∀ τ, CallOk cx g xs (psB v l r e b d n :: y :: τ) (PE exA v l e b d n x (y :: τ))
theorem within_ok (g : FuncId) (fs cs : List AV) (v : Nat) (l r : List Tok) (e b d n : Nat) (y : Nat × Option Box) (hy : Yok y) (x : Pr Ex) (hn : n ≤ 30) (hC : n ≠ 30 → Of g (fs ++ [] ++ cs) v l e b d (n + 1) y r x)
    (hr : r <:+ l) (hl : l.length ≤ 100000) (hne : n ≠ 30 → x ≠ .out) (hs : ∀ z u, x = .ok z u → u <:+ l) :
    CallOk cx 55 [.ptr 0 v 0, .func (.func g) fs cs] [psB v l r e b d n, y] (PE exA v l e b d n (if n = 30 then .bad 2 r else x) [y]) := by
  have hy0 := hy
  obtain ⟨yv, yc, yg, rfl, _⟩ := hy
  exact callOk_introT (fun a w => Tryz.call55 a w) Tryz.func55 rfl Tryz.ntmps55 rfl fun B => by
    obtain ⟨X, hX⟩ : ∃ X, X = (if n = 30 then .bad 2 r else x) := ⟨_, rfl⟩
    rw [← hX]
    by_cases h : n = 30
    · rw [if_pos h] at hX
      subst h
      refine pB [.b true] rfl ?_
      exact S_callE2 hy0 rfl rfl rfl (failT uA v l r e b d 30 2 _ hr hl) rfl hX
    · rw [if_neg h] at hX
      have hC := hC h
      have hne := hne h
      have hw : IntKind.i64.wrap ((n : Nat) + 1) = ((n + 1 : Nat) : Int) := by rw [IntWalk.i64_in _ ⟨by omega, by omega⟩]; omega
      have hw1 : IntKind.i64.wrap (((n + 1 : Nat) : Int) - 1) = (n : Int) := by rw [IntWalk.i64_in _ ⟨by omega, by omega⟩]; omega
      refine pB [.b false] rfl ?_
      refine S_heap (psB v l r e b d (n + 1) :: (yv, some (.cells yc yg)) :: [exO]) ?_ ?_
      · show psI v l ((l.length - r.length : Nat) : Int) e b d (IntKind.i64.wrap ((n : Nat) + 1)) :: _ = _
        rw [hw]; rfl
      have hC := hC [exO]
      cases hx : x with
      | out => exact absurd hx hne
      | bad j u =>
        rw [hx] at hX
        exact S_callE2 hy0 rfl rfl rfl hC hx hX
      | ok z u =>
        rw [hx] at hX
        have hu := hs z u hx
        obtain ⟨zk, zn, zt, zs, zm⟩ := z
        refine pa [.f (exA (.mk zk zn zt zs zm)) (fun σ => psB v l u e b d (n + 1) :: σ.tail)] rfl ?_ ?_
        · (repeat' with_reducible apply AllP_cons) <;> try exact aC
          exact PE.ok hC hx
        refine S_ret ⟨_, _, rfl, ⟨rfl, trivial⟩, ?_⟩
        show TR 2 _ (.ret (exA (.mk zk zn zt zs zm))) (psI v l ((l.length - u.length : Nat) : Int) e b d (IntKind.i64.wrap (((n + 1 : Nat) : Int) - 1)) :: (yv, some (.cells yc yg)) :: _)
        rw [hw1]
        exact PE.fin2 hy0 hX (exA_free _)
theorem IndexFuncB_ok {st fl : Bool} {σ : Heap} (F : FuncId) (a : AV) (P : List UInt8 → Bool) (l : List (List UInt8)) (hl : l.length ≤ 1000000) (hF : ∀ x, CallOk cx F [a, .str x] σ (fun e s => e = .ret (.bool (P x)) ∧ s = σ)) :
    CallOk cx 76 [.sl st fl 1 (texts l), .func (.func F) [a] []] σ (fun e s => e = .ret (.int .i64 (firstF l P)) ∧ s = σ) :=
  callOk_intro (fun a w => Tryz.call76 a w) Tryz.func76 rfl Tryz.ntmps76 rfl fun B => by
    have htl := texts_len l
    refine pB [] rfl ?_
    refine S_while (α := Nat) (fun i => [(0, .sl st fl 1 (texts l)), (1, .func (.func F) [a] []), (7, .int .i64 (l.length : Nat)), (8, .int .i64 (i : Nat))]) (fun _ => σ) (fun i => i ≤ l.length ∧ ∀ x ∈ l.take i, P x = false) (fun i => l.length - i) 0
      ⟨Nat.zero_le _, by simp⟩ (.cons rfl (.cons rfl (.cons (by show AV.int .i64 ((texts l).length : Nat) = _; rw [htl]) (.cons rfl (.nil _))))) rfl ?_
    rintro i ⟨hi, hN⟩
    have hi : i ≤ l.length := hi
    by_cases hlt : i < l.length
    · have e1 : (texts l)[(i : Int).toNat]? = some (.str l[i]) := texts_get hlt
      cases hp : P l[i] with
      | true =>
        refine pa [.b true, .v (.str l[i]), .k (.bool true), .b true] rfl ?_ ?_
        · (repeat' with_reducible apply AllP_cons) <;> try exact aC
          have := hF l[i]; rw [hp] at this; exact this
        refine S_ret ⟨_, _, rfl, trivial, ?_, rfl⟩
        have : l.findIdx? P = some i := List.findIdx?_eq_some_iff_getElem.2 ⟨hlt, hp, fun j hj => by
          rw [hN _ (List.mem_take_iff_getElem.2 ⟨j, by omega, rfl⟩)]; decide⟩
        rw [firstF, this]; rfl
      | false =>
        refine pa [.b true, .v (.str l[i]), .k (.bool false), .b false] rfl ?_ ?_
        · (repeat' with_reducible apply AllP_cons) <;> try exact aC
          have := hF l[i]; rw [hp] at this; exact this
        refine S_round (i + 1) (by show l.length - (i + 1) < l.length - i; omega) ⟨hlt, fun x hm => ?_⟩ (.cons rfl (.cons rfl (.cons rfl (.cons (ai64 rfl (by omega)) (.nil _))))) rfl
        rw [List.take_succ_eq_append_getElem hlt] at hm
        rcases List.mem_append.1 hm with hm | hm
        · exact hN x hm
        · simp at hm; rw [hm]; exact hp
    · obtain rfl : i = l.length := by omega
      rw [List.take_length] at hN
      refine pB [.b false] rfl ?_
      refine S_ret ⟨_, _, rfl, trivial, ?_, rfl⟩
      have : l.findIdx? P = none := List.findIdx?_eq_none_iff.2 (fun x hx => by rw [hN x hx])
      rw [firstF, this]; rfl
theorem firstF_is {l : List (List UInt8)} {r : List Tok} : (isOf l r = false ∧ firstF l (fun s => isS s r) = -1) ∨ ∃ (i : Nat) (h : i < l.length), isOf l r = true ∧ firstF l (fun s => isS s r) = (i : Nat) ∧ l[i] = hdT r := by
  cases hf : l.findIdx? (fun s => isS s r) with
  | none =>
    left
    refine ⟨?_, by rw [firstF, hf]⟩
    rw [List.findIdx?_eq_none_iff] at hf
    unfold isOf
    cases hk : (hdK r == 4 || hdK r == 5) with
    | false => rfl
    | true =>
      cases hc : l.contains (hdT r) with
      | false => rfl
      | true =>
        have := hf _ (by simpa using hc)
        simp [isS, hk] at this
  | some i =>
    right
    obtain ⟨h1, h2, h3⟩ := List.findIdx?_eq_some_iff_getElem.1 hf
    refine ⟨i, h1, ?_, by rw [firstF, hf], ?_⟩
    · simp only [isS, Bool.and_eq_true, beq_iff_eq] at h2
      unfold isOf
      rw [h2.1, h2.2]
      simp
    · simp only [isS, Bool.and_eq_true, beq_iff_eq] at h2
      exact h2.2.symm
end Go.Proofs.YtmdegomejbpldaaGreatDoor
end
section
set_option linter.unusedVariables false
set_option linter.unusedSimpArgs false
set_option maxRecDepth 20000
namespace Go.Proofs.YtmdegomejbpldaaGreatDoor
open Go Go.Ab
structure LeftSt where
  F : Nat
  x : Ex
  r : List Tok
def exC (x : Ex) : List AV := (exA x).cells
def exB (x : Ex) : Nat × Option Box := match x with
  | .mk k n t ks ns => (0, some (.cells [.int .i64 (k : Nat), .int .i64 (n : Nat), .str t, .sl true false 5 (exL ks), .sl true false 1 (texts ns)] ⟨false, some 36⟩))
theorem left_ok (F kk : Nat) (sg : List (List UInt8)) (hsg : sg = binS kk) (g : FuncId) (fs cs : List AV) (v : Nat) (l : List Tok) (e b d n : Nat) (y : Nat × Option Box) (hy : Yok y) (hl : l.length ≤ 100000) (st fl : Bool)
    (hC : ∀ F', F' ≤ F → ∀ r, r <:+ l → levS F' (kk + 1) n r ≠ .out → Of g (fs ++ [] ++ cs) v l e b d n y r (levS F' (kk + 1) n r)) (r : List Tok) (hr : r <:+ l)
    (hne : ((levS F (kk + 1) n r).bind fun x r => loopS F kk n x r) ≠ .out) :
    CallOk cx 57 [.ptr 0 v 0, .func (.func g) fs cs, .sl st fl 1 (texts sg)] [psB v l r e b d n, y] (PE exA v l e b d n ((levS F (kk + 1) n r).bind fun x r => loopS F kk n x r) [y]) := by
  have hy0 := hy
  obtain ⟨yv, yc, yg, rfl, _⟩ := hy
  exact callOk_introT (fun a w => Tryz.call57 a w) Tryz.func57 rfl Tryz.ntmps57 rfl fun B => by
    obtain ⟨X, hX⟩ : ∃ X, X = ((levS F (kk + 1) n r).bind fun x r => loopS F kk n x r) := ⟨_, rfl⟩
    rw [← hX] at hne ⊢
    cases hx : levS F (kk + 1) n r with
    | out => rw [hx] at hX; exact absurd hX hne
    | bad j u =>
      rw [hx] at hX
      refine pB [] rfl ?_
      exact S_callE2 hy0 rfl rfl rfl (hC F (Nat.le_refl _) r hr (by rw [hx]; nofun) [exO]) hx hX
    | ok z u =>
      have h1 := PE.ok (hC F (Nat.le_refl _) r hr (by rw [hx]; nofun) [exO]) hx
      rw [hx] at hX
      have hX : X = loopS F kk n z u := hX
      have hu := ((allS F).lev _ _ _ _ _ hx).trans hr
      obtain ⟨zk, zn, zt, zs, zm⟩ := z
      refine pB [.f (exA (.mk zk zn zt zs zm)) (fun σ => psB v l u e b d n :: σ.tail)] rfl ?_
      refine S_while (α := LeftSt) (fun q => [(0, .ptr 0 v 0), (1, .func (.func g) fs cs), (2, .sl st fl 1 (texts sg)), (6, .ptr 2 0 0), (7, .ptr 3 0 0)]) (fun q => psB v l q.r e b d n :: (yv, some (.cells yc yg)) :: [exO, exB q.x])
        (fun q => q.F ≤ F ∧ q.r <:+ l ∧ loopS q.F kk n q.x q.r = X) (fun q => q.F) ⟨F, .mk zk zn zt zs zm, u⟩ ⟨Nat.le_refl _, hu, hX.symm⟩ (.cons rfl (.cons rfl (.cons rfl (.cons rfl (.cons rfl (.nil _)))))) rfl ?_
      rintro ⟨F1, ⟨xk, xn, xt, xs, xm⟩, r1⟩ ⟨hF, hr1, hq⟩
      have hF : F1 ≤ F := hF
      have hr1 : r1 <:+ l := hr1
      have hq : loopS F1 kk n (.mk xk xn xt xs xm) r1 = X := hq
      show S cx _ B _ _ [(0, .ptr 0 v 0), (1, .func (.func g) fs cs), (2, .sl st fl 1 (texts sg)), (6, .ptr 2 0 0), (7, .ptr 3 0 0)] (psB v l r1 e b d n :: (yv, some (.cells yc yg)) :: [exO, exB (.mk xk xn xt xs xm)])
      cases F1 with
      | zero => exact absurd hq.symm hne
      | succ F1 =>
        rw [loopS] at hq
        have hsl : sg.length ≤ 1000000 := by
          rw [hsg]; unfold binS; split <;> decide
        have hI := IndexFuncB_ok (st := st) (fl := fl) (σ := psB v l r1 e b d n :: (yv, some (.cells yc yg)) :: [exO, exB (.mk xk xn xt xs xm)]) 30 (.ptr 0 v 0) (fun s => isS s r1) sg hsl (fun s => isT v l r1 e b d n s _ hr1 hl)
        rcases firstF_is (l := sg) (r := r1) with ⟨h1, h2⟩ | ⟨i, hi, h1, h2, h3⟩
        · rw [h2] at hI
          rw [if_neg (by rw [← hsg, h1]; decide)] at hq
          refine pB [.k (.int .i64 (-1)), .b true] rfl ?_
          refine S_ret ⟨_, _, rfl, ⟨rfl, trivial⟩, ?_⟩
          exact PE.fin2 hy0 hq.symm (exA_free _)
        · rw [h2] at hI
          rw [if_pos (by rw [← hsg, h1])] at hq
          have hof : ∃ t w, r1 = t :: w := by
            cases r1 with
            | nil => simp [isOf, hdK] at h1
            | cons t w => exact ⟨t, w, rfl⟩
          obtain ⟨t, w, rfl⟩ := hof
          have hw := suf_next hr1 hl
          have hr2 := suf_tail hr1
          have hel : (texts sg)[(i : Int).toNat]? = some (.str sg[i]) := texts_get hi
          refine pB [.k (.int .i64 (i : Nat)), .b false] rfl ?_
          refine S_heap (psB v l w e b d n :: (yv, some (.cells yc yg)) :: [exO, exB (.mk xk xn xt xs xm)]) ?_ ?_
          · show psI v l (IntKind.i64.wrap (((l.length - (t :: w).length : Nat) : Int) + 1)) e b d n :: _ = _
            rw [hw]; rfl
          cases hz : levS F1 (kk + 1) n w with
          | out => rw [List.tail_cons, hz] at hq; exact absurd hq.symm hne
          | bad j u2 =>
            rw [List.tail_cons, hz] at hq
            refine S_drawE2 6 [] [.str sg[i]] hy0 rfl rfl rfl rfl rfl rfl ?_ (hC F1 (by omega) w hr2 (by rw [hz]; nofun) _) hz hq.symm
            (repeat' with_reducible apply AllP_cons) <;> try exact aC
          | ok z u2 =>
            rw [List.tail_cons, hz] at hq
            have hC1 := PE.ok (hC F1 (by omega) w hr2 (by rw [hz]; nofun) [exO, exB (.mk xk xn xt xs xm)]) hz
            have hu2 := ((allS F1).lev _ _ _ _ _ hz).trans hr2
            obtain ⟨ak, an, at', as', am⟩ := z
            refine pa [.d 6 9 [] (fun σ => psB v l u2 e b d n :: σ.tail) [.str sg[i], exA (.mk ak an at' as' am)], .s] rfl ?_ ?_
            · (repeat' with_reducible apply AllP_cons) <;> try exact aC
              exact ⟨_, hC1, rfl⟩
            refine S_wkF 33 (exC (binE sg[i] (.mk xk xn xt xs xm) (.mk ak an at' as' am))) rfl (.cons .refl (.cons .refl (.cons .refl (.cons (.sl (fun _ => rfl) nofun) (.cons .nils .nil))))) ⟨.skip, _, .inr ⟨_, _, _, rfl⟩⟩ ?_
            refine pB [] rfl ?_
            refine S_round ⟨F1, binE sg[i] (.mk xk xn xt xs xm) (.mk ak an at' as' am), u2⟩ (Nat.lt_succ_self _) ⟨by show F1 ≤ F; omega, hu2, ?_⟩ (.cons rfl (.cons rfl (.cons rfl (.cons rfl (.cons rfl (.nil _)))))) rfl
            show loopS F1 kk n (binE sg[i] _ _) u2 = X
            rw [h3]; exact hq
end Go.Proofs.YtmdegomejbpldaaGreatDoor
end
section
set_option linter.unusedVariables false
set_option linter.unusedSimpArgs false
set_option maxRecDepth 20000
namespace Go.Proofs.YtmdegomejbpldaaGreatDoor
open Go Go.Ab
def Cn (f : FuncId) (x : Nat → Nat → List Tok → Pr Ex) (F : Nat) : Prop := ∀ (v : Nat) (l : List Tok) (e b d n : Nat) (r : List Tok), r <:+ l → l.length ≤ 100000 → n ≤ 30 → x F n r ≠ .out →
  CallOk cx f [.ptr 0 v 0] (psH v l r e b d n) (PE exA v l e b d n (x F n r) [])
def qB (q v : Nat) : Nat × Option Box := (q, some (.cells [.ptr 0 v 0] ⟨false, none⟩))
theorem qB_ok (q v : Nat) : Yok (qB q v) := ⟨q, _, _, rfl, fun x hx => by
  simp only [List.mem_cons, List.not_mem_nil, or_false] at hx
  subst hx
  exact ⟨.ptr rfl, .ptr (by decide)⟩⟩
theorem exO_ok : Yok exO := ⟨_, _, _, rfl, fun x hx => by
  simp only [List.mem_cons, List.not_mem_nil, or_false] at hx
  rcases hx with rfl | rfl | rfl | rfl | rfl
  · exact ⟨.free .int, .int⟩
  · exact ⟨.free .int, .int⟩
  · exact ⟨.free .str, .str⟩
  · exact ⟨.free .nils, .nils⟩
  · exact ⟨.free .nils, .nils⟩⟩
def Ccl (g : FuncId) (x : Nat → Nat → List Tok → Pr Ex) (F : Nat) : Prop := ∀ (q v : Nat) (l : List Tok) (e b d n : Nat) (r : List Tok), r <:+ l → l.length ≤ 100000 → n ≤ 30 → x F n r ≠ .out →
  CallOk cx g [.ptr 1 q 0] [psB v l r e b d n, qB q v] (PE exA v l e b d n (x F n r) [qB q v])
theorem Cn.tail {f : FuncId} {x : Nat → Nat → List Tok → Pr Ex} {F : Nat} (h : Cn f x F) (v : Nat) (l : List Tok) (e b d n : Nat) (r : List Tok) (τ : Heap) (hr : r <:+ l) (hl : l.length ≤ 100000) (hn : n ≤ 30) (hne : x F n r ≠ .out) :
    CallOk cx f [.ptr 0 v 0] (psB v l r e b d n :: τ) (PE exA v l e b d n (x F n r) τ) :=
  PE.tail τ (h v l e b d n r hr hl hn hne) hne (arg0_rn v [] (by simp)) exA_free
theorem Cn.of {f : FuncId} {x : Nat → Nat → List Tok → Pr Ex} {F : Nat} (h : Cn f x F) (v : Nat) (l : List Tok) (e b d n : Nat) (r : List Tok) (y : Nat × Option Box) (hr : r <:+ l) (hl : l.length ≤ 100000) (hn : n ≤ 30) (hne : x F n r ≠ .out) :
    Of f ([.ptr 0 v 0] ++ [] ++ []) v l e b d n y r (x F n r) := fun τ => h.tail v l e b d n r (y :: τ) hr hl hn hne
theorem Ccl.of {g : FuncId} {x : Nat → Nat → List Tok → Pr Ex} {F : Nat} (h : Ccl g x F) (q v : Nat) (l : List Tok) (e b d n : Nat) (r : List Tok) (hr : r <:+ l) (hl : l.length ≤ 100000) (hn : n ≤ 30) (hne : x F n r ≠ .out) :
    Of g ([] ++ [] ++ [.ptr 1 q 0]) v l e b d n (qB q v) r (x F n r) := fun τ => PE.tail2 τ (qB_ok q v) (h q v l e b d n r hr hl hn hne) hne (.cons (.ptr rfl) (.nil _)) exA_free
theorem clos_rn (v q : Nat) (g : FuncId) : Rns (List.range 2) [.ptr 0 v 0, .func (.func g) [] [.ptr 1 q 0]] [.ptr 0 v 0, .func (.func g) [] [.ptr 1 q 0]] :=
  .cons (.ptr rfl) (.cons (.func rfl (fun i h => by simp at h) rfl (fun i h _ => by
    have : i = 0 := by simp at h; omega
    subst this; exact .ptr rfl)) (.nil _))
theorem expr_ok (F : Nat) (h0 : Ccl 56 (fun F => levS F 0) F) : Cn 33 exprS (F + 1) := fun v l e b d n r hr hl hn hne =>
  callOk_introT (fun a w => Tryz.call33 a w) Tryz.func33 rfl Tryz.ntmps33 rfl fun B => by
    have hW : CallOk cx 55 [.ptr 0 v 0, .func (.func 56) [] [.ptr 1 0 0]] (psB v l r e b d n :: qB 0 v :: [exO]) (PE exA v l e b d n (exprS (F + 1) n r) (qB 0 v :: [exO])) :=
      PE.tail2 [exO] (qB_ok 0 v) (within_ok _ _ _ v l r e b d n _ (qB_ok 0 v) (levS F 0 (n + 1) r) hn
        (fun h => h0.of 0 v l e b d (n + 1) r hr hl (by omega) (by intro h'; exact hne (by rw [exprS, if_neg h]; exact h'))) hr hl (fun h h' => hne (by rw [exprS, if_neg h]; exact h')) (fun z u h => ((allS F).lev _ _ _ _ _ h).trans hr)) hne (clos_rn v 0 _) exA_free
    cases hx : exprS (F + 1) n r with
    | out => exact absurd hx hne
    | bad j u =>
      refine pB [] rfl ?_
      exact S_callE rfl rfl rfl hW hx rfl
    | ok z u =>
      obtain ⟨zk, zn, zt, zs, zm⟩ := z
      refine pa [.f (exA (.mk zk zn zt zs zm)) (fun σ => psB v l u e b d n :: σ.tail)] rfl ?_ ?_
      · (repeat' with_reducible apply AllP_cons) <;> try exact aC
        exact PE.ok hW hx
      refine S_ret ⟨_, _, rfl, ⟨rfl, trivial⟩, ?_⟩
      exact PE.fin rfl (exA_free _)
theorem sgs_rn (st fl : Bool) (sg : List (List UInt8)) : Free false (.sl st fl 1 (texts sg)) := .sl (fun h => by cases h) (textsF sg)
theorem closL_rn (v q : Nat) (g : FuncId) (st fl : Bool) (sg : List (List UInt8)) : Rns (List.range 2) [.ptr 0 v 0, .func (.func g) [] [.ptr 1 q 0], .sl st fl 1 (texts sg)] [.ptr 0 v 0, .func (.func g) [] [.ptr 1 q 0], .sl st fl 1 (texts sg)] :=
  .cons (.ptr rfl) (.cons (.func rfl (fun i h => by simp at h) rfl (fun i h _ => by
    have : i = 0 := by simp at h; omega
    subst this; exact .ptr rfl)) (.cons (.free (sgs_rn ..)) (.nil _)))
theorem boundL_rn (v : Nat) (g : FuncId) (st fl : Bool) (sg : List (List UInt8)) : Rns (List.range 2) [.ptr 0 v 0, .func (.func g) [.ptr 0 v 0] [], .sl st fl 1 (texts sg)] [.ptr 0 v 0, .func (.func g) [.ptr 0 v 0] [], .sl st fl 1 (texts sg)] :=
  .cons (.ptr rfl) (.cons (.func rfl (fun i h _ => by
    have : i = 0 := by simp at h; omega
    subst this; exact .ptr rfl) rfl (fun i h => by simp at h)) (.cons (.free (sgs_rn ..)) (.nil _)))
theorem expr1_ok (F : Nat) (h : ∀ F', F' ≤ F → Ccl 58 (fun F => levS F 1) F') : Ccl 56 (fun F => levS F 0) (F + 1) := fun q v l e b d n r hr hl hn hne =>
  callOk_introT (fun a w => Tryz.call56 a w) Tryz.func56 rfl Tryz.ntmps56 rfl fun B => by
    have hs : levS (F + 1) 0 n r = (levS F 1 n r).bind fun x r => loopS F 0 n x r := levS_b (by decide)
    have hne : levS (F + 1) 0 n r ≠ .out := hne
    have hL : ∀ st fl, CallOk cx 57 [.ptr 0 v 0, .func (.func 58) [] [.ptr 1 q 0], .sl st fl 1 (texts (binS 0))] (psB v l r e b d n :: qB q v :: [exO]) (PE exA v l e b d n (levS (F + 1) 0 n r) (qB q v :: [exO])) := fun st fl => by
      rw [hs] at hne ⊢
      exact PE.tail2 [exO] (qB_ok q v) (left_ok F 0 (binS 0) rfl _ _ _ v l e b d n _ (qB_ok q v) hl st fl (fun F' h' r hr hne => (h F' h').of q v l e b d n r hr hl hn hne) r hr hne) hne (closL_rn v q _ _ _ _) exA_free
    cases hx : levS (F + 1) 0 n r with
    | out => exact absurd hx hne
    | bad j u =>
      refine pB [] rfl ?_
      exact S_callE2 (qB_ok q v) rfl rfl rfl (hL _ _) hx hx
    | ok z u =>
      obtain ⟨zk, zn, zt, zs, zm⟩ := z
      refine pa [.f (exA (.mk zk zn zt zs zm)) (fun σ => psB v l u e b d n :: σ.tail)] rfl ?_ ?_
      · (repeat' with_reducible apply AllP_cons) <;> try exact aC
        exact PE.ok (hL _ _) hx
      refine S_ret ⟨_, _, rfl, ⟨rfl, trivial⟩, ?_⟩
      exact PE.fin2 (qB_ok q v) hx (exA_free _)
theorem expr11_ok (F : Nat) (h : ∀ F', F' ≤ F → Cn 59 (fun F => levS F 2) F') : Ccl 58 (fun F => levS F 1) (F + 1) := fun q v l e b d n r hr hl hn hne =>
  callOk_introT (fun a w => Tryz.call58 a w) Tryz.func58 rfl Tryz.ntmps58 rfl fun B => by
    have hs : levS (F + 1) 1 n r = (levS F 2 n r).bind fun x r => loopS F 1 n x r := levS_b (by decide)
    have hne : levS (F + 1) 1 n r ≠ .out := hne
    have hL : ∀ st fl, CallOk cx 57 [.ptr 0 v 0, .func (.func 59) [.ptr 0 v 0] [], .sl st fl 1 (texts (binS 1))] (psB v l r e b d n :: qB q v :: [exO]) (PE exA v l e b d n (levS (F + 1) 1 n r) (qB q v :: [exO])) := fun st fl => by
      rw [hs] at hne ⊢
      exact PE.tail2 [exO] (qB_ok q v) (left_ok F 1 (binS 1) rfl _ _ _ v l e b d n _ (qB_ok q v) hl st fl (fun F' h' r hr hne => (h F' h').of v l e b d n r _ hr hl hn hne) r hr hne) hne (boundL_rn v _ _ _ _) exA_free
    cases hx : levS (F + 1) 1 n r with
    | out => exact absurd hx hne
    | bad j u =>
      refine pB [] rfl ?_
      exact S_callE2 (qB_ok q v) rfl rfl rfl (hL _ _) hx hx
    | ok z u =>
      obtain ⟨zk, zn, zt, zs, zm⟩ := z
      refine pa [.f (exA (.mk zk zn zt zs zm)) (fun σ => psB v l u e b d n :: σ.tail)] rfl ?_ ?_
      · (repeat' with_reducible apply AllP_cons) <;> try exact aC
        exact PE.ok (hL _ _) hx
      refine S_ret ⟨_, _, rfl, ⟨rfl, trivial⟩, ?_⟩
      exact PE.fin2 (qB_ok q v) hx (exA_free _)
theorem sum1_ok (F : Nat) (h : ∀ F', F' ≤ F → Cn 85 (fun F => levS F 5) F') : Ccl 84 (fun F => levS F 4) (F + 1) := fun q v l e b d n r hr hl hn hne =>
  callOk_introT (fun a w => Tryz.call84 a w) Tryz.func84 rfl Tryz.ntmps84 rfl fun B => by
    have hs : levS (F + 1) 4 n r = (levS F 5 n r).bind fun x r => loopS F 4 n x r := levS_b (by decide)
    have hne : levS (F + 1) 4 n r ≠ .out := hne
    have hL : ∀ st fl, CallOk cx 57 [.ptr 0 v 0, .func (.func 85) [.ptr 0 v 0] [], .sl st fl 1 (texts (binS 4))] (psB v l r e b d n :: qB q v :: [exO]) (PE exA v l e b d n (levS (F + 1) 4 n r) (qB q v :: [exO])) := fun st fl => by
      rw [hs] at hne ⊢
      exact PE.tail2 [exO] (qB_ok q v) (left_ok F 4 (binS 4) rfl _ _ _ v l e b d n _ (qB_ok q v) hl st fl (fun F' h' r hr hne => (h F' h').of v l e b d n r _ hr hl hn hne) r hr hne) hne (boundL_rn v _ _ _ _) exA_free
    cases hx : levS (F + 1) 4 n r with
    | out => exact absurd hx hne
    | bad j u =>
      refine pB [] rfl ?_
      exact S_callE2 (qB_ok q v) rfl rfl rfl (hL _ _) hx hx
    | ok z u =>
      obtain ⟨zk, zn, zt, zs, zm⟩ := z
      refine pa [.f (exA (.mk zk zn zt zs zm)) (fun σ => psB v l u e b d n :: σ.tail)] rfl ?_ ?_
      · (repeat' with_reducible apply AllP_cons) <;> try exact aC
        exact PE.ok (hL _ _) hx
      refine S_ret ⟨_, _, rfl, ⟨rfl, trivial⟩, ?_⟩
      exact PE.fin2 (qB_ok q v) hx (exA_free _)
theorem sum_ok (F : Nat) (h : ∀ F', F' ≤ F → Ccl 84 (fun F => levS F 4) F') : Cn 77 (fun F => levS F 3) (F + 1) := fun v l e b d n r hr hl hn hne =>
  callOk_introT (fun a w => Tryz.call77 a w) Tryz.func77 rfl Tryz.ntmps77 rfl fun B => by
    have hs : levS (F + 1) 3 n r = (levS F 4 n r).bind fun x r => loopS F 3 n x r := levS_b (by decide)
    have hne : levS (F + 1) 3 n r ≠ .out := hne
    have hL : ∀ st fl, CallOk cx 57 [.ptr 0 v 0, .func (.func 84) [] [.ptr 1 0 0], .sl st fl 1 (texts (binS 3))] (psB v l r e b d n :: qB 0 v :: [exO]) (PE exA v l e b d n (levS (F + 1) 3 n r) (qB 0 v :: [exO])) := fun st fl => by
      rw [hs] at hne ⊢
      exact PE.tail2 [exO] (qB_ok 0 v) (left_ok F 3 (binS 3) rfl _ _ _ v l e b d n _ (qB_ok 0 v) hl st fl (fun F' h' r hr hne => (h F' h').of 0 v l e b d n r hr hl hn hne) r hr hne) hne (closL_rn v 0 _ _ _ _) exA_free
    cases hx : levS (F + 1) 3 n r with
    | out => exact absurd hx hne
    | bad j u =>
      refine pB [] rfl ?_
      exact S_callE rfl rfl rfl (hL _ _) hx hx
    | ok z u =>
      obtain ⟨zk, zn, zt, zs, zm⟩ := z
      refine pa [.f (exA (.mk zk zn zt zs zm)) (fun σ => psB v l u e b d n :: σ.tail)] rfl ?_ ?_
      · (repeat' with_reducible apply AllP_cons) <;> try exact aC
        exact PE.ok (hL _ _) hx
      refine S_ret ⟨_, _, rfl, ⟨rfl, trivial⟩, ?_⟩
      exact PE.fin hx (exA_free _)
end Go.Proofs.YtmdegomejbpldaaGreatDoor
end
section
set_option linter.unusedVariables false
set_option linter.unusedSimpArgs false
set_option maxRecDepth 20000
namespace Go.Proofs.YtmdegomejbpldaaGreatDoor
open Go Go.Ab
theorem isOf_of {sg : List (List UInt8)} {r : List Tok} {i : Nat} (hi : i < sg.length) (h : isS sg[i] r = true) : isOf sg r = true ∧ hdT r = sg[i] := by
  simp only [isS, Bool.and_eq_true, beq_iff_eq] at h
  refine ⟨?_, h.2⟩
  unfold isOf
  rw [h.1, h.2]
  simp
theorem isOf_no {sg : List (List UInt8)} {r : List Tok} (h : ∀ s ∈ sg, isS s r = false) : isOf sg r = false := by
  unfold isOf
  cases hk : (hdK r == 4 || hdK r == 5) with
  | false => rfl
  | true =>
    cases hc : sg.contains (hdT r) with
    | false => rfl
    | true =>
      have := h _ (by simpa using hc)
      simp [isS, hk] at this
theorem not_ok (F : Nat) (h2 : Cn 59 (fun F => levS F 2) F) (h3 : Cn 77 (fun F => levS F 3) F) : Cn 59 (fun F => levS F 2) (F + 1) := fun v l e b d n r hr hl hn hne =>
  callOk_introT (fun a w => Tryz.call59 a w) Tryz.func59 rfl Tryz.ntmps59 rfl fun B => by
    obtain ⟨X, hX⟩ : ∃ X, X = levS (F + 1) 2 n r := ⟨_, rfl⟩
    have hne : X ≠ .out := by rw [hX]; exact hne
    show S cx _ B _ (retQ cx _ (TR 1 (PE exA v l e b d n (levS (F + 1) 2 n r) []))) _ _
    rw [← hX]
    rw [levS_2] at hX
    by_cases c1 : isS wNot r = true
    · rw [if_pos c1] at hX
      have hm := may_yes v l r e b d n wNot [exO] hr hl c1
      have hr1 := isS_suf hr
      have hW : CallOk cx 55 [.ptr 0 v 0, .func (.func 59) [.ptr 0 v 0] []] (psB v l r.tail e b d n :: exO :: []) (PE exA v l e b d n (if n = 30 then .bad 2 r.tail else levS F 2 (n + 1) r.tail) [exO]) :=
        within_ok _ _ _ v l r.tail e b d n _ exO_ok (levS F 2 (n + 1) r.tail) hn
          (fun h => h2.of v l e b d (n + 1) r.tail _ hr1 hl (by omega) (by intro h'; have h' : levS F 2 (n + 1) r.tail = .out := h'; rw [if_neg h, h'] at hX; exact hne hX)) hr1 hl (fun h h' => by rw [if_neg h, h'] at hX; exact hne hX) (fun z u h => ((allS F).lev _ _ _ _ _ h).trans hr1)
      cases hx : (if n = 30 then (.bad 2 r.tail : Pr Ex) else levS F 2 (n + 1) r.tail) with
      | out =>
        by_cases h : n = 30
        · rw [if_pos h] at hx; cases hx
        · rw [if_neg h] at hx hX; rw [hx] at hX; exact absurd hX hne
      | bad j u =>
        refine pB [.f (.bool true) (fun σ => psB v l r.tail e b d n :: σ.tail), .b true] rfl ?_
        refine S_callE rfl rfl rfl hW hx ?_
        by_cases h : n = 30
        · rw [if_pos h] at hx hX; rw [hX, hx]
        · rw [if_neg h] at hx hX; rw [hX, hx]; rfl
      | ok z u =>
        have hn30 : n ≠ 30 := fun h => by rw [if_pos h] at hx; cases hx
        have hW1 := PE.ok hW hx
        rw [if_neg hn30] at hx hX
        rw [hx] at hX
        obtain ⟨zk, zn, zt, zs, zm⟩ := z
        refine pB [.f (.bool true) (fun σ => psB v l r.tail e b d n :: σ.tail), .b true, .f (exA (.mk zk zn zt zs zm)) (fun σ => psB v l u e b d n :: σ.tail)] rfl ?_
        refine S_wkB 1 (exC (.mk 12 0 [] [.mk zk zn zt zs zm] [])) rfl (.cons .refl (.cons .refl (.cons .refl (.cons (.sl (fun _ => rfl) nofun) (.cons .nils .nil))))) ⟨_, _, .inl rfl⟩ ?_
        refine S_ret ⟨_, _, rfl, ⟨rfl, trivial⟩, ?_⟩
        exact PE.fin hX (exA_free (.mk 12 0 [] [.mk zk zn zt zs zm] []))
    · rw [if_neg c1] at hX
      have hm := may_no v l r e b d n wNot [exO] hr hl c1
      cases hx : levS F 3 n r with
      | out => rw [hx] at hX; exact absurd hX hne
      | bad j u =>
        have hS := h3.tail v l e b d n r [exO] hr hl hn (by show levS F 3 n r ≠ .out; rw [hx]; nofun)
        rw [hx] at hX
        refine pB [.k (.bool false), .b false] rfl ?_
        exact S_callE rfl rfl rfl hS hx hX
      | ok z u =>
        have hS := PE.ok (h3.tail v l e b d n r [exO] hr hl hn (by show levS F 3 n r ≠ .out; rw [hx]; nofun)) hx
        rw [hx] at hX
        have hu := ((allS F).lev _ _ _ _ _ hx).trans hr
        have hX : X = if isOf (binS 2) u then (levS F 3 n u.tail).bind fun y r' => .ok (binE (hdT u) z y) r' else .ok z u := hX
        obtain ⟨zk, zn, zt, zs, zm⟩ := z
        refine pB [.k (.bool false), .b false, .f (exA (.mk zk zn zt zs zm)) (fun σ => psB v l u e b d n :: σ.tail)] rfl ?_
        refine S_while (α := Nat) (fun i => [(0, .ptr 0 v 0), (2, .ptr 1 0 0), (3, .ptr 2 0 0), (16, .sl true true 1 (texts (binS 2))), (17, .int .i64 5), (18, .int .i64 (i : Nat))]) (fun _ => [psB v l u e b d n, exO, exB (.mk zk zn zt zs zm)])
          (fun i => i ≤ 5 ∧ ∀ s ∈ (binS 2).take i, isS s u = false) (fun i => 5 - i) 0 ⟨Nat.zero_le _, by simp⟩ (.cons rfl (.cons rfl (.cons rfl (.cons rfl (.cons rfl (.cons rfl (.nil _))))))) rfl ?_
        rintro i ⟨hi, hN⟩
        have hi : i ≤ 5 := hi
        have hsl : (binS 2).length = 5 := rfl
        by_cases hlt : i < 5
        · have hel : (texts (binS 2))[(i : Int).toNat]? = some (.str ((binS 2)[i]'hlt)) := texts_get (l := binS 2) hlt
          by_cases c2 : isS ((binS 2)[i]'hlt) u = true
          · obtain ⟨o1, o2⟩ := isOf_of (sg := binS 2) hlt c2
            rw [if_pos o1, o2] at hX
            have hm2 := may_yes v l u e b d n ((binS 2)[i]'hlt) [exO, exB (.mk zk zn zt zs zm)] hu hl c2
            have hu2 := isS_suf hu
            refine pB [.b true, .v (.str ((binS 2)[i]'hlt)), .f (.bool true) (fun σ => psB v l u.tail e b d n :: σ.tail), .b true] rfl ?_
            cases hy : levS F 3 n u.tail with
            | out => rw [hy] at hX; exact absurd hX hne
            | bad j w =>
              have hS2 := h3.tail v l e b d n u.tail [exO, exB (.mk zk zn zt zs zm)] hu2 hl hn (by show levS F 3 n u.tail ≠ .out; rw [hy]; nofun)
              rw [hy] at hX
              refine S_drawE 3 [] [] rfl rfl rfl rfl rfl rfl ?_ hS2 hy hX
              (repeat' with_reducible apply AllP_cons) <;> try exact aC
            | ok y w =>
              have hS2 := PE.ok (h3.tail v l e b d n u.tail [exO, exB (.mk zk zn zt zs zm)] hu2 hl hn (by show levS F 3 n u.tail ≠ .out; rw [hy]; nofun)) hy
              rw [hy] at hX
              obtain ⟨yk, yn, yt, ys, ym⟩ := y
              refine pa [.d 3 6 [] (fun σ => psB v l w e b d n :: σ.tail) [exA (.mk yk yn yt ys ym)]] rfl ?_ ?_
              · (repeat' with_reducible apply AllP_cons) <;> try exact aC
                exact ⟨_, hS2, rfl⟩
              refine S_wkB 1 (exC (binE ((binS 2)[i]'hlt) (.mk zk zn zt zs zm) (.mk yk yn yt ys ym))) rfl (.cons .refl (.cons .refl (.cons .refl (.cons (.sl (fun _ => rfl) nofun) (.cons .nils .nil))))) ⟨_, _, .inl rfl⟩ ?_
              refine S_ret ⟨_, _, rfl, ⟨rfl, trivial⟩, ?_⟩
              exact PE.fin hX (exA_free (binE _ _ _))
          · have hm2 := may_no v l u e b d n ((binS 2)[i]'hlt) [exO, exB (.mk zk zn zt zs zm)] hu hl c2
            refine pB [.b true, .v (.str ((binS 2)[i]'hlt)), .k (.bool false), .b false] rfl ?_
            refine S_round (i + 1) (by show 5 - (i + 1) < 5 - i; omega) ⟨hlt, fun s hs => ?_⟩ (.cons rfl (.cons rfl (.cons rfl (.cons rfl (.cons rfl (.cons (ai64 rfl (by omega)) (.nil _))))))) rfl
            rw [List.take_succ_eq_append_getElem (show i < (binS 2).length from hlt)] at hs
            rcases List.mem_append.1 hs with hs | hs
            · exact hN s hs
            · rw [List.mem_singleton] at hs; rw [hs]; exact (Bool.not_eq_true _).mp c2
        · obtain rfl : i = 5 := by omega
          rw [isOf_no (sg := binS 2) hN, if_neg (by decide)] at hX
          refine pB [.b false] rfl ?_
          refine S_ret ⟨_, _, rfl, ⟨rfl, trivial⟩, ?_⟩
          exact PE.fin hX (exA_free _)
def Cc (F : Nat) : Prop := ∀ (v : Nat) (l : List Tok) (e b d n : Nat) (r : List Tok) (x : Ex), r <:+ l → l.length ≤ 100000 → n ≤ 30 → callS F n [x] [] r ≠ .out →
  CallOk cx 93 [.ptr 0 v 0, exA x] (psH v l r e b d n) (PE exA v l e b d n (callS F n [x] [] r) [])
theorem Cc.tail {F : Nat} (h : Cc F) (v : Nat) (l : List Tok) (e b d n : Nat) (r : List Tok) (x : Ex) (τ : Heap) (hr : r <:+ l) (hl : l.length ≤ 100000) (hn : n ≤ 30) (hne : callS F n [x] [] r ≠ .out) :
    CallOk cx 93 [.ptr 0 v 0, exA x] (psB v l r e b d n :: τ) (PE exA v l e b d n (callS F n [x] [] r) τ) :=
  PE.tail τ (h v l e b d n r x hr hl hn hne) hne (arg0_rn v _ (by intro y hy; simp at hy; subst hy; exact exA_free x)) exA_free
theorem unary_ok (F : Nat) (h5 : Cn 85 (fun F => levS F 5) F) (ha : Cn 92 atomS F) (hc : ∀ F', F' ≤ F → Cc F') (he : ∀ F', F' ≤ F → Cn 33 exprS F') :
    Cn 85 (fun F => levS F 5) (F + 1) := fun v l e b d n r hr hl hn hne =>
  callOk_introT (fun a w => Tryz.call85 a w) Tryz.func85 rfl Tryz.ntmps85 rfl fun B => by
    obtain ⟨X, hX⟩ : ∃ X, X = levS (F + 1) 5 n r := ⟨_, rfl⟩
    have hne : X ≠ .out := by rw [hX]; exact hne
    show S cx _ B _ (retQ cx _ (TR 1 (PE exA v l e b d n (levS (F + 1) 5 n r) []))) _ _
    rw [← hX]
    rw [levS_5] at hX
    by_cases c1 : isS [45] r = true
    · rw [if_pos c1] at hX
      have hm := may_yes v l r e b d n [45] [exO] hr hl c1
      have hr1 := isS_suf hr
      have hW : CallOk cx 55 [.ptr 0 v 0, .func (.func 85) [.ptr 0 v 0] []] (psB v l r.tail e b d n :: exO :: []) (PE exA v l e b d n (if n = 30 then .bad 2 r.tail else levS F 5 (n + 1) r.tail) [exO]) :=
        within_ok _ _ _ v l r.tail e b d n _ exO_ok (levS F 5 (n + 1) r.tail) hn
          (fun h => h5.of v l e b d (n + 1) r.tail _ hr1 hl (by omega) (by intro h'; have h' : levS F 5 (n + 1) r.tail = .out := h'; rw [if_neg h, h'] at hX; exact hne hX)) hr1 hl (fun h h' => by rw [if_neg h, h'] at hX; exact hne hX) (fun z u h => ((allS F).lev _ _ _ _ _ h).trans hr1)
      cases hx : (if n = 30 then (.bad 2 r.tail : Pr Ex) else levS F 5 (n + 1) r.tail) with
      | out =>
        by_cases h : n = 30
        · rw [if_pos h] at hx; cases hx
        · rw [if_neg h] at hx hX; rw [hx] at hX; exact absurd hX hne
      | bad j u =>
        refine pB [.f (.bool true) (fun σ => psB v l r.tail e b d n :: σ.tail), .b true] rfl ?_
        refine S_callE rfl rfl rfl hW hx ?_
        by_cases h : n = 30
        · rw [if_pos h] at hx hX; rw [hX, hx]
        · rw [if_neg h] at hx hX; rw [hX, hx]; rfl
      | ok z u =>
        have hn30 : n ≠ 30 := fun h => by rw [if_pos h] at hx; cases hx
        have hW1 := PE.ok hW hx
        rw [if_neg hn30] at hx hX
        rw [hx] at hX
        obtain ⟨zk, zn, zt, zs, zm⟩ := z
        refine pB [.f (.bool true) (fun σ => psB v l r.tail e b d n :: σ.tail), .b true, .f (exA (.mk zk zn zt zs zm)) (fun σ => psB v l u e b d n :: σ.tail)] rfl ?_
        refine S_wkB 1 (exC (.mk 13 0 [] [.mk zk zn zt zs zm] [])) rfl (.cons .refl (.cons .refl (.cons .refl (.cons (.sl (fun _ => rfl) nofun) (.cons .nils .nil))))) ⟨_, _, .inl rfl⟩ ?_
        refine S_ret ⟨_, _, rfl, ⟨rfl, trivial⟩, ?_⟩
        exact PE.fin hX (exA_free (.mk 13 0 [] [.mk zk zn zt zs zm] []))
    · rw [if_neg c1] at hX
      have hm := may_no v l r e b d n [45] [exO] hr hl c1
      cases hx : atomS F n r with
      | out => rw [hx] at hX; exact absurd hX hne
      | bad j u =>
        have hS := ha.tail v l e b d n r [exO] hr hl hn (by rw [hx]; nofun)
        rw [hx] at hX
        refine pB [.k (.bool false), .b false] rfl ?_
        exact S_callE rfl rfl rfl hS hx hX
      | ok z u =>
        have hS := PE.ok (ha.tail v l e b d n r [exO] hr hl hn (by rw [hx]; nofun)) hx
        rw [hx] at hX
        have hu := ((allS F).atom _ _ _ _ hx).trans hr
        have hX : X = postS F n z u := hX
        obtain ⟨zk, zn, zt, zs, zm⟩ := z
        refine pB [.k (.bool false), .b false, .f (exA (.mk zk zn zt zs zm)) (fun σ => psB v l u e b d n :: σ.tail)] rfl ?_
        refine S_while (α := LeftSt) (fun q => [(0, .ptr 0 v 0), (2, .ptr 1 0 0), (3, .ptr 2 0 0)]) (fun q => [psB v l q.r e b d n, exO, exB q.x])
          (fun q => q.F ≤ F ∧ q.r <:+ l ∧ postS q.F n q.x q.r = X) (fun q => q.F) ⟨F, .mk zk zn zt zs zm, u⟩ ⟨Nat.le_refl _, hu, hX.symm⟩ (.cons rfl (.cons rfl (.cons rfl (.nil _)))) rfl ?_
        rintro ⟨F1, ⟨xk, xn, xt, xs, xm⟩, r1⟩ ⟨hF, hr1, hq⟩
        have hF : F1 ≤ F := hF
        have hr1 : r1 <:+ l := hr1
        have hq : postS F1 n (.mk xk xn xt xs xm) r1 = X := hq
        show S cx _ B _ _ [(0, .ptr 0 v 0), (2, .ptr 1 0 0), (3, .ptr 2 0 0)] [psB v l r1 e b d n, exO, exB (.mk xk xn xt xs xm)]
        cases F1 with
        | zero => exact absurd hq.symm hne
        | succ F1 =>
          rw [postS] at hq
          have hr2 := isS_suf hr1
          by_cases c2 : isS [40] r1 = true
          · rw [if_pos c2] at hq
            have hm1 := may_yes v l r1 e b d n [40] [exO, exB (.mk xk xn xt xs xm)] hr1 hl c2
            cases hy : callS F1 n [.mk xk xn xt xs xm] [] r1.tail with
            | out => rw [hy] at hq; exact absurd hq.symm hne
            | bad j w =>
              have hK := (hc F1 (by omega)).tail v l e b d n r1.tail (.mk xk xn xt xs xm) [exO, exB (.mk xk xn xt xs xm)] hr2 hl hn (by rw [hy]; nofun)
              rw [hy] at hq
              refine pB [.f (.bool true) (fun σ => psB v l r1.tail e b d n :: σ.tail), .b true] rfl ?_
              exact S_callE rfl rfl rfl hK hy hq.symm
            | ok y w =>
              have hK := PE.ok ((hc F1 (by omega)).tail v l e b d n r1.tail (.mk xk xn xt xs xm) [exO, exB (.mk xk xn xt xs xm)] hr2 hl hn (by rw [hy]; nofun)) hy
              rw [hy] at hq
              have hw := ((allS F1).call _ _ _ _ _ _ hy).trans hr2
              obtain ⟨yk, yn, yt, ys, ym⟩ := y
              refine pB [.f (.bool true) (fun σ => psB v l r1.tail e b d n :: σ.tail), .b true, .f (exA (.mk yk yn yt ys ym)) (fun σ => psB v l w e b d n :: σ.tail)] rfl ?_
              exact S_round ⟨F1, .mk yk yn yt ys ym, w⟩ (Nat.lt_succ_self _) ⟨by show F1 ≤ F; omega, hw, hq⟩ (.cons rfl (.cons rfl (.cons rfl (.nil _)))) rfl
          · rw [if_neg c2] at hq
            have hm1 := may_no v l r1 e b d n [40] [exO, exB (.mk xk xn xt xs xm)] hr1 hl c2
            by_cases c3 : isS [91] r1 = true
            · rw [if_pos c3] at hq
              have hm2 := may_yes v l r1 e b d n [91] [exO, exB (.mk xk xn xt xs xm)] hr1 hl c3
              refine pB [.k (.bool false), .b false, .f (.bool true) (fun σ => psB v l r1.tail e b d n :: σ.tail), .b true] rfl ?_
              cases hy : exprS F1 n r1.tail with
              | out => rw [hy] at hq; exact absurd hq.symm hne
              | bad j w =>
                have hK := (he F1 (by omega)).tail v l e b d n r1.tail [exO, exB (.mk xk xn xt xs xm)] hr2 hl hn (by rw [hy]; nofun)
                rw [hy] at hq
                refine S_drawE 2 [] [] rfl rfl rfl rfl rfl rfl ?_ hK hy hq.symm
                (repeat' with_reducible apply AllP_cons) <;> try exact aC
              | ok y w =>
                have hK := PE.ok ((he F1 (by omega)).tail v l e b d n r1.tail [exO, exB (.mk xk xn xt xs xm)] hr2 hl hn (by rw [hy]; nofun)) hy
                rw [hy] at hq
                have hw := ((allS F1).expr _ _ _ _ hy).trans hr2
                obtain ⟨yk, yn, yt, ys, ym⟩ := y
                have hM := mustT v l w e b d n [93] [exO, exB (.mk 11 0 [] [.mk xk xn xt xs xm, .mk yk yn yt ys ym] [])] hw hl
                refine pa [.d 2 5 [] (fun σ => psB v l w e b d n :: σ.tail) [exA (.mk yk yn yt ys ym)], .s] rfl ?_ ?_
                · (repeat' with_reducible apply AllP_cons) <;> try exact aC
                  exact ⟨_, hK, rfl⟩
                refine S_wkF 28 (exC (.mk 11 0 [] [.mk xk xn xt xs xm, .mk yk yn yt ys ym] [])) rfl (.cons .refl (.cons .refl (.cons .refl (.cons (.sl (fun _ => rfl) nofun) (.cons .nils .nil))))) ⟨.skip, _, .inr ⟨_, _, _, rfl⟩⟩ ?_
                refine pB [] rfl ?_
                have hq : (mustS [93] w).bind (fun _ r => postS F1 n (.mk 11 0 [] [.mk xk xn xt xs xm, .mk yk yn yt ys ym] []) r) = X := hq
                cases hz : mustS [93] w with
                | out => rw [hz] at hq; exact absurd hq.symm hne
                | bad j w2 =>
                  rw [hz] at hq
                  exact S_callE rfl rfl rfl hM hz hq.symm
                | ok _ w2 =>
                  have hM := PE.ok hM hz
                  rw [hz] at hq
                  have hw2 := (mustS_s _ _ _ _ hz).trans hw
                  refine pB [.f (.tup []) (fun σ => psB v l w2 e b d n :: σ.tail)] rfl ?_
                  exact S_round ⟨F1, .mk 11 0 [] [.mk xk xn xt xs xm, .mk yk yn yt ys ym] [], w2⟩ (Nat.lt_succ_self _) ⟨by show F1 ≤ F; omega, hw2, hq⟩ (.cons rfl (.cons rfl (.cons rfl (.nil _)))) rfl
            · rw [if_neg c3] at hq
              have hm2 := may_no v l r1 e b d n [91] [exO, exB (.mk xk xn xt xs xm)] hr1 hl c3
              refine pB [.k (.bool false), .b false, .k (.bool false), .b false] rfl ?_
              refine S_ret ⟨_, _, rfl, ⟨rfl, trivial⟩, ?_⟩
              exact PE.fin hq.symm (exA_free _)
end Go.Proofs.YtmdegomejbpldaaGreatDoor
end
section
set_option linter.unusedVariables false
set_option linter.unusedSimpArgs false
set_option maxRecDepth 20000
namespace Go.Proofs.YtmdegomejbpldaaGreatDoor
open Go Go.Ab
theorem exFz {k : Nat} {σ : Heap} {a b : AV} {kd nm : Nat} {t : List UInt8} {ks : List Ex} {ns : List (List UInt8)} (ha : FzT k σ a (.sl true false 5 (exL ks))) (hb : FzT k σ b (.sl true false 1 (texts ns))) :
    FzT k σ (.agg [.int .i64 (kd : Nat), .int .i64 (nm : Nat), .str t, a, b]) (exA (.mk kd nm t ks ns)) := by
  refine .agg rfl (fun i h h' => ?_)
  match i, h with
  | 0, _ => exact .low .int
  | 1, _ => exact .low .int
  | 2, _ => exact .low .str
  | 3, _ => exact ha
  | 4, _ => exact hb
theorem exL_snoc (l : List Ex) (y : Ex) : exL (l ++ [y]) = exL l ++ [exA y] := by
  rw [exL_map, exL_map, List.map_append]; rfl
theorem exL_len (l : List Ex) : (exL l).length = l.length := by rw [exL_map]; simp
theorem exL_sz (l : List Ex) : ∀ x ∈ exL l, x.cells.length = 5 := by
  intro x hx; rw [exL_map] at hx; obtain ⟨y, _, rfl⟩ := List.mem_map.1 hx; exact exA_cells y
def exF (l : List Ex) : List AV := (exL l).flatMap AV.cells
theorem exF_len (l : List Ex) : (exF l).length = l.length * 5 := by
  unfold exF
  induction l with
  | nil => rfl
  | cons x r ih =>
    rw [exL, List.flatMap_cons, List.length_append, ih, exA_cells, List.length_cons]; omega
theorem exF_snoc (l : List Ex) (y : Ex) : exF (l ++ [y]) = exF l ++ (exA y).cells := by
  unfold exF; rw [exL_snoc, List.flatMap_append, List.flatMap_cons, List.flatMap_nil, List.append_nil]
def kidB (w : Nat) (ks : List Ex) : Nat × Option Box := (w, some (.cells (exF ks) ⟨false, none⟩))
theorem kidFz {k : Nat} {σ : Heap} {id w : Nat} {ks : List Ex} (hk : k ≤ id) (hb : σ[id]? = some (kidB w ks)) : FzT k σ (.ms id w 0 ks.length 5 false) (.sl true false 5 (exL ks)) :=
  .msN hk (by unfold boxAt; rw [hb]; rfl) (exL_sz ks) (exL_len ks) (fun x hx => Low.free (exL_free (st := false) ks x hx))
def words3 : List (List UInt8) := [wNone, wTrue, wFalse]
structure DictSt where
  F : Nat
  ks : List Ex
  r : List Tok
  w : Nat
def dictB (w : Nat) (ks : List Ex) : Nat × Option Box := (0, some (.cells [.int .i64 8, .int .i64 0, .str [], .ms 3 w 0 ks.length 5 false, .nils] ⟨false, some 36⟩))
theorem atom_ok (F : Nat) (hF : F ≤ 10000000) (he : ∀ F', F' ≤ F → Cn 33 exprS F') (hli : Cn 100 listS F) : Cn 92 atomS (F + 1) := fun v l e b d n r hr hl hn hne =>
  callOk_introT (fun a w => Tryz.call92 a w) Tryz.func92 rfl Tryz.ntmps92 rfl fun B => by
    obtain ⟨X, hX⟩ : ∃ X, X = atomS (F + 1) n r := ⟨_, rfl⟩
    rw [← hX] at hne ⊢
    have hk := kindT v l r e b d n [exO] hr hl
    by_cases k1 : hdK r = 1
    · obtain ⟨t, u, rfl⟩ : ∃ t u, r = t :: u := by
        cases r with
        | nil => cases k1
        | cons t u => exact ⟨t, u, rfl⟩
      have k1 : t.kind = 1 := k1
      have hX : X = if t.kind = 1 then .ok (.mk 6 0 t.text [] []) u else _ := hX
      rw [if_pos k1] at hX
      have hT := PE.ok (takeT v l (t :: u) e b d n 1 [exO] hr hl (by decide)) (if_pos k1)
      refine pB [.k (.int .i64 (hdK (t :: u) : Nat)), .b true, .f (tokA t) (fun σ => psB v l u e b d n :: σ.tail)] rfl ?_
      refine S_wkB 1 (exC (.mk 6 0 t.text [] [])) rfl (.cons .refl (.cons .refl (.cons .refl (.cons .nils (.cons .nils .nil))))) ⟨_, _, .inl rfl⟩ ?_
      refine S_ret ⟨_, _, rfl, ⟨rfl, trivial⟩, ?_⟩
      exact PE.fin hX (exA_free (.mk 6 0 t.text [] []))
    have e1 : (((hdK r : Nat) : Int) == 1) = false := beq_false_of_ne (by omega)
    by_cases k2 : hdK r = 2
    · obtain ⟨t, u, rfl⟩ : ∃ t u, r = t :: u := by
        cases r with
        | nil => cases k2
        | cons t u => exact ⟨t, u, rfl⟩
      have k2 : t.kind = 2 := k2
      have hX : X = if t.kind = 1 then _ else if t.kind = 2 then .ok (.mk 4 t.num [] [] []) u else _ := hX
      rw [if_neg (show ¬ t.kind = 1 from k1), if_pos k2] at hX
      have hT := PE.ok (takeT v l (t :: u) e b d n 2 [exO] hr hl (by decide)) (if_pos k2)
      have e2 : (((hdK (t :: u) : Nat) : Int) == 2) = true := by rw [show hdK (t :: u) = t.kind from rfl, k2]; rfl
      refine pB [.k (.int .i64 (hdK (t :: u) : Nat)), .b false, .b true, .f (tokA t) (fun σ => psB v l u e b d n :: σ.tail)] rfl ?_
      refine S_wkB 1 (exC (.mk 4 t.num [] [] [])) rfl (.cons .refl (.cons .refl (.cons .refl (.cons .nils (.cons .nils .nil))))) ⟨_, _, .inl rfl⟩ ?_
      refine S_ret ⟨_, _, rfl, ⟨rfl, trivial⟩, ?_⟩
      exact PE.fin hX (exA_free (.mk 4 t.num [] [] []))
    have e2 : (((hdK r : Nat) : Int) == 2) = false := beq_false_of_ne (by omega)
    by_cases k3 : hdK r = 3
    · obtain ⟨t, u, rfl⟩ : ∃ t u, r = t :: u := by
        cases r with
        | nil => cases k3
        | cons t u => exact ⟨t, u, rfl⟩
      have k3 : t.kind = 3 := k3
      have hX : X = if t.kind = 1 then _ else if t.kind = 2 then _ else if t.kind = 3 then .ok (.mk 5 0 t.text [] []) u else _ := hX
      rw [if_neg (show ¬ t.kind = 1 from k1), if_neg (show ¬ t.kind = 2 from k2), if_pos k3] at hX
      have hT := PE.ok (takeT v l (t :: u) e b d n 3 [exO] hr hl (by decide)) (if_pos k3)
      have e3 : (((hdK (t :: u) : Nat) : Int) == 3) = true := by rw [show hdK (t :: u) = t.kind from rfl, k3]; rfl
      refine pB [.k (.int .i64 (hdK (t :: u) : Nat)), .b false, .b false, .b true, .f (tokA t) (fun σ => psB v l u e b d n :: σ.tail)] rfl ?_
      refine S_wkB 1 (exC (.mk 5 0 t.text [] [])) rfl (.cons .refl (.cons .refl (.cons .refl (.cons .nils (.cons .nils .nil))))) ⟨_, _, .inl rfl⟩ ?_
      refine S_ret ⟨_, _, rfl, ⟨rfl, trivial⟩, ?_⟩
      exact PE.fin hX (exA_free (.mk 5 0 t.text [] []))
    have e3 : (((hdK r : Nat) : Int) == 3) = false := beq_false_of_ne (by omega)
    have hX : X = if isS wNone r then .ok (.mk 1 0 [] [] []) r.tail
      else if isS wTrue r then .ok (.mk 2 0 [] [] []) r.tail
      else if isS wFalse r then .ok (.mk 3 0 [] [] []) r.tail
      else if isS [40] r then (exprS F n r.tail).bind fun x r => (mustS [41] r).bind fun _ r => .ok x r
      else if isS [91] r then listS F n r.tail
      else if isS [123] r then dictS F n [] r.tail
      else .bad 1 r := by
      cases r with
      | nil => exact hX
      | cons t u =>
        rw [atomS] at hX
        rw [if_neg (show ¬ t.kind = 1 from k1), if_neg (show ¬ t.kind = 2 from k2), if_neg (show ¬ t.kind = 3 from k3)] at hX
        exact hX
    refine pB [.k (.int .i64 (hdK r : Nat)), .b false, .b false, .b false] rfl ?_
    refine S_while (α := Nat) (fun i => [(0, .ptr 0 v 0), (2, .ptr 1 0 0), (27, .sl true true 1 (texts words3)), (28, .int .i64 3), (29, .int .i64 (i : Nat))]) (fun _ => [psB v l r e b d n, exO])
      (fun i => i ≤ 3 ∧ ∀ s ∈ words3.take i, isS s r = false) (fun i => 3 - i) 0 ⟨Nat.zero_le _, by simp⟩ (.cons rfl (.cons rfl (.cons rfl (.cons rfl (.cons rfl (.nil _)))))) rfl ?_
    rintro i ⟨hi, hN⟩
    have hi : i ≤ 3 := hi
    have hsl : words3.length = 3 := rfl
    by_cases hlt : i < 3
    · have hel : (texts words3)[(i : Int).toNat]? = some (.str (words3[i]'hlt)) := texts_get (l := words3) hlt
      by_cases c2 : isS (words3[i]'hlt) r = true
      · have hX : X = .ok (.mk (i + 1) 0 [] [] []) r.tail := by
          match i, hlt, c2, hN with
          | 0, _, c2, _ => rw [hX, if_pos (show isS wNone r = true from c2)]
          | 1, _, c2, hN => rw [hX, if_neg (by rw [hN wNone (by decide)]; decide), if_pos (show isS wTrue r = true from c2)]
          | 2, _, c2, hN => rw [hX, if_neg (by rw [hN wNone (by decide)]; decide), if_neg (by rw [hN wTrue (by decide)]; decide), if_pos (show isS wFalse r = true from c2)]
        have hm2 := may_yes v l r e b d n (words3[i]'hlt) [exO] hr hl c2
        have hw : IntKind.i64.wrap (1 + (i : Nat)) = ((i + 1 : Nat) : Int) := by rw [IntWalk.i64_in _ ⟨by omega, by omega⟩]; omega
        refine pB [.b true, .v (.str (words3[i]'hlt)), .f (.bool true) (fun σ => psB v l r.tail e b d n :: σ.tail), .b true] rfl ?_
        refine S_wkB 1 [.int .i64 (IntKind.i64.wrap (1 + (i : Nat))), .int .i64 0, .str [], .sl true false 5 [], .sl true false 1 []] rfl (.cons .refl (.cons .refl (.cons .refl (.cons .nils (.cons .nils .nil))))) ⟨_, _, .inl rfl⟩ ?_
        rw [hw]
        refine S_ret ⟨_, _, rfl, ⟨rfl, trivial⟩, ?_⟩
        exact PE.fin hX (exA_free (.mk (i + 1) 0 [] [] []))
      · have hm2 := may_no v l r e b d n (words3[i]'hlt) [exO] hr hl c2
        refine pB [.b true, .v (.str (words3[i]'hlt)), .k (.bool false), .b false] rfl ?_
        refine S_round (i + 1) (by show 3 - (i + 1) < 3 - i; omega) ⟨hlt, fun s hs => ?_⟩ (.cons rfl (.cons rfl (.cons rfl (.cons rfl (.cons (ai64 rfl (by omega)) (.nil _)))))) rfl
        rw [List.take_succ_eq_append_getElem (show i < words3.length from hlt)] at hs
        rcases List.mem_append.1 hs with hs | hs
        · exact hN s hs
        · rw [List.mem_singleton] at hs; rw [hs]; exact (Bool.not_eq_true _).mp c2
    obtain rfl : i = 3 := by omega
    rw [if_neg (by rw [hN wNone (by decide)]; decide), if_neg (by rw [hN wTrue (by decide)]; decide), if_neg (by rw [hN wFalse (by decide)]; decide)] at hX
    have hr2 := isS_suf hr
    by_cases c4 : isS [40] r = true
    · rw [if_pos c4] at hX
      have hm4 := may_yes v l r e b d n [40] [exO] hr hl c4
      cases hx : exprS F n r.tail with
      | out => rw [hx] at hX; exact absurd hX hne
      | bad j u =>
        have hS := (he F (Nat.le_refl _)).tail v l e b d n r.tail [exO] hr2 hl hn (by rw [hx]; nofun)
        rw [hx] at hX
        refine pB [.b false, .f (.bool true) (fun σ => psB v l r.tail e b d n :: σ.tail), .b true] rfl ?_
        exact S_callE rfl rfl rfl hS hx hX
      | ok z u =>
        have hS := PE.ok ((he F (Nat.le_refl _)).tail v l e b d n r.tail [exO] hr2 hl hn (by rw [hx]; nofun)) hx
        rw [hx] at hX
        have hX : X = (mustS [41] u).bind fun _ r => .ok z r := hX
        have hu := ((allS F).expr _ _ _ _ hx).trans hr2
        obtain ⟨zk, zn, zt, zs, zm⟩ := z
        have hM := mustT v l u e b d n [41] [exO, exB (.mk zk zn zt zs zm)] hu hl
        refine pB [.b false, .f (.bool true) (fun σ => psB v l r.tail e b d n :: σ.tail), .b true, .f (exA (.mk zk zn zt zs zm)) (fun σ => psB v l u e b d n :: σ.tail)] rfl ?_
        cases hz : mustS [41] u with
        | out => rw [hz] at hX; exact absurd hX hne
        | bad j w =>
          rw [hz] at hX
          exact S_callE rfl rfl rfl hM hz hX
        | ok _ w =>
          have hM := PE.ok hM hz
          rw [hz] at hX
          refine pB [.f (.tup []) (fun σ => psB v l w e b d n :: σ.tail)] rfl ?_
          refine S_ret ⟨_, _, rfl, ⟨rfl, trivial⟩, ?_⟩
          exact PE.fin hX (exA_free _)
    rw [if_neg c4] at hX
    have hm4 := may_no v l r e b d n [40] [exO] hr hl c4
    by_cases c5 : isS [91] r = true
    · rw [if_pos c5] at hX
      have hm5 := may_yes v l r e b d n [91] [exO] hr hl c5
      have hS := hli.tail v l e b d n r.tail [exO] hr2 hl hn (by rw [← hX]; exact hne)
      rw [← hX] at hS
      cases hx : X with
      | out => exact absurd hx hne
      | bad j u =>
        refine pB [.b false, .k (.bool false), .b false, .f (.bool true) (fun σ => psB v l r.tail e b d n :: σ.tail), .b true] rfl ?_
        exact S_callE rfl rfl rfl hS hx rfl
      | ok z u =>
        have hS := PE.ok hS hx
        obtain ⟨zk, zn, zt, zs, zm⟩ := z
        refine pB [.b false, .k (.bool false), .b false, .f (.bool true) (fun σ => psB v l r.tail e b d n :: σ.tail), .b true, .f (exA (.mk zk zn zt zs zm)) (fun σ => psB v l u e b d n :: σ.tail)] rfl ?_
        refine S_ret ⟨_, _, rfl, ⟨rfl, trivial⟩, ?_⟩
        exact PE.fin rfl (exA_free _)
    rw [if_neg c5] at hX
    have hm5 := may_no v l r e b d n [91] [exO] hr hl c5
    by_cases c6 : isS [123] r = true
    · rw [if_pos c6] at hX
      have hm6 := may_yes v l r e b d n [123] [exO] hr hl c6
      refine pB [.b false, .k (.bool false), .b false, .k (.bool false), .b false, .f (.bool true) (fun σ => psB v l r.tail e b d n :: σ.tail), .b true] rfl ?_
      refine S_ghost (id := 2) (j := 3) 5 ⟨false, none⟩ rfl rfl rfl (Nat.ne_of_lt (lble rfl)) ⟨_, _, .inl rfl⟩ ?_
      refine S_while (α := DictSt) (fun q => [(0, .ptr 0 v 0), (2, .ptr 1 0 0), (6, .ptr 2 0 0)]) (fun q => [psB v l q.r e b d n, exO, dictB q.w q.ks, kidB q.w q.ks])
        (fun q => q.F ≤ F ∧ q.r <:+ l ∧ dictS q.F n q.ks q.r = X ∧ q.ks.length + 2 * q.F ≤ 2 * F) (fun q => q.F) ⟨F, [], r.tail, 0⟩ ⟨Nat.le_refl _, hr2, hX.symm, by show 0 + 2 * F ≤ 2 * F; omega⟩ (.cons rfl (.cons rfl (.cons rfl (.nil _)))) rfl ?_
      rintro ⟨F1, ks, r1, w⟩ ⟨hF1, hr1, hq, hks⟩
      have hF1 : F1 ≤ F := hF1
      have hr1 : r1 <:+ l := hr1
      have hq : dictS F1 n ks r1 = X := hq
      have hks : ks.length + 2 * F1 ≤ 2 * F := hks
      clear hX hm6 hm5 hm4 hN hk
      show S cx _ B _ _ [(0, .ptr 0 v 0), (2, .ptr 1 0 0), (6, .ptr 2 0 0)] [psB v l r1 e b d n, exO, dictB w ks, kidB w ks]
      cases F1 with
      | zero => exact absurd hq.symm hne
      | succ F1 =>
        rw [dictS] at hq
        by_cases c7 : isS [125] r1 = true
        · rw [if_pos c7] at hq
          have hm7 := may_yes v l r1 e b d n [125] [exO, dictB w ks, kidB w ks] hr1 hl c7
          refine pB [.f (.bool true) (fun σ => psB v l r1.tail e b d n :: σ.tail), .b false] rfl ?_
          refine S_ret ⟨_, _, rfl, ⟨rfl, trivial⟩, ?_⟩
          exact PE.finZ hq.symm (exFz (kidFz (by decide) rfl) .nils)
        · rw [if_neg c7] at hq
          have hm7 := may_no v l r1 e b d n [125] [exO, dictB w ks, kidB w ks] hr1 hl c7
          cases hmm : (if ks.length > 0 then mustS [44] r1 else (.ok () r1 : Pr Unit)) with
          | out => rw [hmm] at hq; exact absurd hq.symm hne
          | bad j u =>
            rw [hmm] at hq
            have hk0 : ks.length > 0 := by
              by_cases h : ks.length > 0
              · exact h
              · rw [if_neg h] at hmm; cases hmm
            rw [if_pos hk0] at hmm
            refine pB [.k (.bool false), .b true, .b true] rfl ?_
            exact S_callE rfl rfl rfl (mustT v l r1 e b d n [44] _ hr1 hl) hmm hq.symm
          | ok _ r3 =>
            rw [hmm] at hq
            have hq : (exprS F1 n r3).bind (fun y r => (mustS [58] r).bind fun _ r => (exprS F1 n r).bind fun z r => dictS F1 n (ks ++ [y] ++ [z]) r) = X := hq
            have hr3 : r3 <:+ l := by
              by_cases h : ks.length > 0
              · rw [if_pos h] at hmm; exact (mustS_s _ _ _ _ hmm).trans hr1
              · rw [if_neg h] at hmm; cases hmm; exact hr1
            refine' S_share [(0, .ptr 0 v 0), (2, .ptr 1 0 0), (6, .ptr 2 0 0)] [psB v l r3 e b d n, exO, dictB w ks, kidB w ks] (fun cont => ?main) ?rest
            case main =>
              by_cases h : ks.length > 0
              · rw [if_pos h] at hmm
                have hM := PE.ok (mustT v l r1 e b d n [44] [exO, dictB w ks, kidB w ks] hr1 hl) hmm
                refine pB [.k (.bool false), .b true, .b true, .f (.tup []) (fun σ => psB v l r3 e b d n :: σ.tail)] rfl ?_
                exact cont _ (.cons rfl (.cons rfl (.cons rfl (.nil _))))
              · rw [if_neg h] at hmm
                cases hmm
                refine pB [.k (.bool false), .b true, .b false] rfl ?_
                exact cont _ (.cons rfl (.cons rfl (.cons rfl (.nil _))))
            case rest =>
              have hbx : 0 + ks.length * 5 = (exF ks).length := by rw [exF_len]; omega
              cases hy : exprS F1 n r3 with
              | out => rw [hy] at hq; exact absurd hq.symm hne
              | bad j u =>
                have hS := (he F1 (by omega)).tail v l e b d n r3 [exO, dictB w ks, kidB w ks] hr3 hl hn (by rw [hy]; nofun)
                rw [hy] at hq
                refine S_drawE 3 [] [] rfl rfl rfl rfl rfl rfl ?_ hS hy hq.symm
                (repeat' with_reducible apply AllP_cons) <;> try exact aC
              | ok y r4 =>
                have hS := PE.ok ((he F1 (by omega)).tail v l e b d n r3 [exO, dictB w ks, kidB w ks] hr3 hl hn (by rw [hy]; nofun)) hy
                rw [hy] at hq
                have hq : (mustS [58] r4).bind (fun _ r => (exprS F1 n r).bind fun z r => dictS F1 n (ks ++ [y] ++ [z]) r) = X := hq
                have hr4 := ((allS F1).expr _ _ _ _ hy).trans hr3
                obtain ⟨yk, yn, yt, ys, ym⟩ := y
                refine pa [.d 3 5 [] (fun σ => psB v l r4 e b d n :: σ.tail) [exA (.mk yk yn yt ys ym)]] rfl ?_ ?_
                · (repeat' with_reducible apply AllP_cons) <;> try exact aC
                  · exact ⟨_, hS, rfl⟩
                  · show (ks.length + 1) * 80 ≤ 140737488355328
                    omega
                refine S_heap [psB v l r4 e b d n, exO, dictB (w + 1) (ks ++ [.mk yk yn yt ys ym]), kidB (w + 1) (ks ++ [.mk yk yn yt ys ym])] ?_ ?_
                · unfold dictB kidB
                  rw [exF_snoc, List.length_append]; rfl
                cases hz : mustS [58] r4 with
                | out => rw [hz] at hq; exact absurd hq.symm hne
                | bad j u =>
                  rw [hz] at hq
                  exact S_callE rfl rfl rfl (mustT v l r4 e b d n [58] _ hr4 hl) hz hq.symm
                | ok _ r5 =>
                  have hM2 := PE.ok (mustT v l r4 e b d n [58] [exO, dictB (w + 1) (ks ++ [.mk yk yn yt ys ym]), kidB (w + 1) (ks ++ [.mk yk yn yt ys ym])] hr4 hl) hz
                  rw [hz] at hq
                  have hq : (exprS F1 n r5).bind (fun z r => dictS F1 n (ks ++ [.mk yk yn yt ys ym] ++ [z]) r) = X := hq
                  have hr5 := (mustS_s _ _ _ _ hz).trans hr4
                  have hln : (ks ++ [Ex.mk yk yn yt ys ym]).length = ks.length + 1 := by simp
                  refine pB [.f (.tup []) (fun σ => psB v l r5 e b d n :: σ.tail)] rfl ?_
                  generalize ks ++ [Ex.mk yk yn yt ys ym] = ks2 at hq hln ⊢
                  have hbx2 : 0 + ks2.length * 5 = (exF ks2).length := by rw [exF_len]; omega
                  cases hy2 : exprS F1 n r5 with
                  | out => rw [hy2] at hq; exact absurd hq.symm hne
                  | bad j u =>
                    have hS2 := (he F1 (by omega)).tail v l e b d n r5 [exO, dictB (w + 1) ks2, kidB (w + 1) ks2] hr5 hl hn (by rw [hy2]; nofun)
                    rw [hy2] at hq
                    refine S_drawE 3 [] [] rfl rfl rfl rfl rfl rfl ?_ hS2 hy2 hq.symm
                    (repeat' with_reducible apply AllP_cons) <;> try exact aC
                  | ok z r6 =>
                    have hS2 := PE.ok ((he F1 (by omega)).tail v l e b d n r5 [exO, dictB (w + 1) ks2, kidB (w + 1) ks2] hr5 hl hn (by rw [hy2]; nofun)) hy2
                    rw [hy2] at hq
                    have hq : dictS F1 n (ks2 ++ [z]) r6 = X := hq
                    have hr6 := ((allS F1).expr _ _ _ _ hy2).trans hr5
                    obtain ⟨zk, zn, zt, zs, zm⟩ := z
                    refine pa [.d 3 5 [] (fun σ => psB v l r6 e b d n :: σ.tail) [exA (.mk zk zn zt zs zm)]] rfl ?_ ?_
                    · (repeat' with_reducible apply AllP_cons) <;> try exact aC
                      · exact ⟨_, hS2, rfl⟩
                      · show (ks2.length + 1) * 80 ≤ 140737488355328
                        omega
                    refine S_round ⟨F1, ks2 ++ [.mk zk zn zt zs zm], r6, w + 1 + 1⟩ (Nat.lt_succ_self _) ⟨by show F1 ≤ F; omega, hr6, hq, by show (ks2 ++ [_]).length + 2 * F1 ≤ 2 * F; rw [List.length_append, List.length_singleton]; omega⟩ (.cons rfl (.cons rfl (.cons rfl (.nil _)))) ?_
                    show _ = [psB v l r6 e b d n, exO, dictB (w + 1 + 1) (ks2 ++ [.mk zk zn zt zs zm]), kidB (w + 1 + 1) (ks2 ++ [.mk zk zn zt zs zm])]
                    unfold dictB kidB
                    rw [exF_snoc, List.length_append]; rfl
    · rw [if_neg c6] at hX
      have hm6 := may_no v l r e b d n [123] [exO] hr hl c6
      refine pB [.b false, .k (.bool false), .b false, .k (.bool false), .b false, .k (.bool false), .b false] rfl ?_
      exact S_callE rfl rfl rfl (failT uA v l r e b d n 1 _ hr hl) rfl hX
end Go.Proofs.YtmdegomejbpldaaGreatDoor
end
