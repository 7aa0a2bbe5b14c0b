/-
  The reference's reading of a log; the law LogReads.
-/
import Derived.Test.YtjbgcbolakdhaaaLogH
import Derived.Test.YtjbgcbolakdhaaaWireC
set_option linter.unusedVariables false
set_option linter.unusedSimpArgs false
set_option maxRecDepth 20000
namespace Go.Proofs.Ytjbgcbolakdhaaa
open Go Go.Ab

theorem nextL_cons (c : UInt8) (r : List UInt8) (hc : c.toNat = 76) (x : Nat × Nat × Nat) (hx : readN r 0 0 = x) : nextL (c :: r) = (if x.2.2 ≠ 0 ∨ 100000 < x.1 ∨ (c :: r).length < 1 + x.2.1 + x.1 + 4 then ([], [], false)
    else ((((c :: r).drop (1 + x.2.1)).take x.1), (c :: r).drop (1 + x.2.1 + x.1 + 4), entryOf (((c :: r).drop (1 + x.2.1)).take x.1) == (c :: r).take (1 + x.2.1 + x.1 + 4))) := by
  subst hx
  simp only [nextL, ne_eq, hc, not_true_eq_false, if_false]

theorem LogEntries_ok (l : List UInt8) (hl : l.length ≤ 4398046511104) : Calc cx 22 [.str l] (.tup [.sl true false 1 (texts (readAll l.length l).1), .int .i64 ((l.length - (readAll l.length l).2.length : Nat) : Int)]) :=
  pure_intro (fun a w => Try.call22 a w) Try.func22 rfl Try.ntmps22 rfl (.tup (by intro x hx; simp at hx; rcases hx with rfl | rfl; exact .sl (fun _ => rfl) (texts_free _); exact .int)) fun B => by
    refine ab 1000 rfl trivial ?_
    refine S_ghostF (t := 4) 1 ⟨false, none⟩ rfl rfl ⟨_, _, .inl rfl⟩ ?_
    refine S_while (α := List (List UInt8) × Nat × Nat × Nat) (fun (ds, at', u, f) => [(0, .str l), (4, .ms 0 u 0 ds.length 1 false), (5, .int .i64 at')]) (fun (ds, at', u, f) => [(u, some (.cells (texts ds) ⟨false, none⟩))])
      (fun (ds, at', u, f) => at' ≤ l.length ∧ 5 * ds.length ≤ at' ∧ l.length - at' ≤ f ∧ ds ++ (readAll f (l.drop at')).1 = (readAll l.length l).1 ∧ (readAll f (l.drop at')).2 = (readAll l.length l).2) (fun (ds, at', u, f) => l.length - at') ([], 0, 0, l.length)
      ⟨Nat.zero_le _, Nat.le_refl _, Nat.le_refl _, rfl, rfl⟩ (.cons rfl (.cons rfl (.cons rfl (.nil _)))) rfl ?_
    rintro ⟨ds, at', u, f⟩ ⟨h1, h2, h3, h4, h5⟩
    have fin : (nextL (l.drop at')).2.2 = false → ∀ g : Tag, Frz true [(u, some (.cells (texts ds) g))] (.tup [.ms 0 u 0 ds.length 1 false, .int .i64 at']) (.tup [.sl true false 1 (texts (readAll l.length l).1), .int .i64 ((l.length - (readAll l.length l).2.length : Nat) : Int)]) := by
      intro hno g
      have hf0 : readAll f (l.drop at') = ([], l.drop at') := by cases f <;> simp [readAll, hno]
      rw [hf0] at h4 h5
      simp only [List.append_nil] at h4
      simp only at h5
      rw [← h4, ← h5]
      refine Fzs.tup (.cons (.ms1 rfl (texts_one _) (by simp [texts]) (texts_free _)) (.cons ?_ .nil))
      rw [show l.length - (l.drop at').length = at' by simp; omega]
      exact .refl .int
    refine ab 1000 rfl trivial ?_
    refine S_guard rfl rfl rfl rfl (fun hg => ?_) (fun hg => ?_)
    · have hal : at' < l.length := by have := of_decide_eq_true hg; omega
      have hgd : l.getD at' 0 = l[at'] := by simp [List.getD, hal]
      have hdr : l.drop at' = l[at'] :: l.drop (at' + 1) := List.drop_eq_getElem_cons hal
      refine ab 1000 rfl ⟨by omega, by omega, trivial⟩ ?_
      refine S_beq rfl (fun hc => ?_) (fun hc => ?_)
      · have hc76 : l[at'].toNat = 76 := by
          have h' : (((l.getD at' 0).toNat : Nat) : Int) = 76 := hc
          rw [hgd] at h'; omega
        have w1 : IntKind.i64.wrap ((at' : Int) + 1) = ((at' + 1 : Nat) : Int) := w64 rfl (by omega)
        refine ab 1000 rfl ⟨by rw [w1]; omega, by rw [w1]; omega, trivial⟩ ?_
        have hcut : cutL (some (IntKind.i64.wrap ((at' : Int) + 1))) none l = l.drop (at' + 1) := by rw [w1]; rfl
        refine S_pure rfl rfl rfl (UnpackNumber_ok (l.drop (at' + 1)) (by simp; omega)) (.cons ?_ (.nil _)) ?_
        · show Frz false _ (.str (cutL (some (IntKind.i64.wrap ((at' : Int) + 1))) none l)) _
          rw [hcut]; exact .refl .str
        obtain ⟨b1, b2, b3⟩ := readN_bd (l.drop (at' + 1)) 0 0 (by decide)
        obtain ⟨x, hx⟩ : ∃ x, readN (l.drop (at' + 1)) 0 0 = x := ⟨_, rfl⟩
        have hN := nextL_cons l[at'] (l.drop (at' + 1)) hc76 x hx
        rw [← hdr] at hN
        rw [hx] at b1 b2 b3 ⊢
        obtain ⟨n, k, e⟩ := x
        simp only at b1 b2 b3 hN
        have hlen : (l.drop at').length = l.length - at' := by simp
        have w2 : IntKind.i64.wrap (((at' + 1 : Nat) : Int) + (k : Int)) = ((at' + 1 + k : Nat) : Int) := w64 rfl (by omega)
        refine ab 1000 rfl trivial ?_
        refine S_ops_weak (fr' := [(0, .str l), (4, .ms 0 u 0 ds.length 1 false), (5, .int .i64 at'), (6, .int .i64 n), (9, .int .i64 ((at' + 1 + k : Nat) : Int)), (36, .bool ((e : Int) != 0))]) (.cons rfl (.cons rfl (.cons rfl (.cons rfl (.cons ?_ (.cons rfl (.nil _))))))) ?_
        · show AV.int .i64 (IntKind.i64.wrap (IntKind.i64.wrap ((at' : Int) + 1) + (k : Int))) = _
          rw [w1, w2]
        refine S_guard rfl rfl rfl rfl (fun hg => ?_) (fun hg => ?_)
        · have he : e ≠ 0 := by
            have := (bne_iff_ne (a := ((e : Nat) : Int)) (b := 0)).1 hg
            omega
          have hno : (nextL (l.drop at')).2.2 = false := by rw [hN, if_pos (.inl he)]
          refine ab 1000 rfl trivial ?_
          refine S_guard rfl rfl rfl rfl (fun _ => ?_) (fun hh => by cases hh)
          refine ab 1000 rfl trivial ?_
          refine S_cond rfl (fun _ => ?_) (fun hh => by cases hh)
          refine ab 1000 rfl trivial ?_
          exact S_ret ⟨_, _, rfl, trivial, _, rfl, fin hno _⟩
        have he : e = 0 := Classical.byContradiction fun h => absurd (((bne_iff_ne (a := ((e : Nat) : Int)) (b := 0)).2 (by omega)).symm.trans hg) (by decide)
        subst he
        refine ab 1000 rfl trivial ?_
        refine S_guard rfl rfl rfl rfl (fun hh => ?_) (fun hh => ?_)
        · have hh : 100000 < n := by have := of_decide_eq_true hh; omega
          have hno : (nextL (l.drop at')).2.2 = false := by rw [hN, if_pos (.inr (.inl hh))]
          refine ab 1000 rfl trivial ?_
          refine S_cond rfl (fun _ => ?_) (fun hh => by cases hh)
          refine ab 1000 rfl trivial ?_
          exact S_ret ⟨_, _, rfl, trivial, _, rfl, fin hno _⟩
        have hh : n ≤ 100000 := by have := of_decide_eq_false hh; omega
        have w3 : IntKind.i64.wrap (((at' + 1 + k : Nat) : Int) + (n : Int)) = ((at' + 1 + k + n : Nat) : Int) := w64 rfl (by omega)
        have w4 : IntKind.i64.wrap (((at' + 1 + k + n : Nat) : Int) + 4) = ((at' + 1 + k + n + 4 : Nat) : Int) := w64 rfl (by omega)
        refine ab 1000 rfl trivial ?_
        refine S_weak (fr' := [(0, .str l), (4, .ms 0 u 0 ds.length 1 false), (5, .int .i64 at'), (6, .int .i64 n), (9, .int .i64 ((at' + 1 + k : Nat) : Int)), (48, .bool (decide (((at' + 1 + k + n + 4 : Nat) : Int) > (l.length : Int))))]) (.cons rfl (.cons rfl (.cons rfl (.cons rfl (.cons rfl (.cons ?_ (.nil _))))))) ?_
        · show AV.bool (decide (IntKind.i64.wrap (IntKind.i64.wrap (((at' + 1 + k : Nat) : Int) + (n : Int)) + 4) > (l.length : Int))) = _
          rw [w3, w4]
        refine S_dec rfl (fun hbig => ?_) (fun hbig => ?_)
        · have hno : (nextL (l.drop at')).2.2 = false := by rw [hN, if_pos (.inr (.inr (by omega)))]
          refine ab 1000 rfl trivial ?_
          exact S_ret ⟨_, _, rfl, trivial, _, rfl, fin hno _⟩
        have hfit : at' + 1 + k + n + 4 ≤ l.length := by omega
        rw [if_neg (by simp; omega)] at hN
        refine ab 1000 rfl ⟨by rw [w3]; omega, by rw [w3]; omega, by omega, trivial⟩ ?_
        have hcut2 : cutL (some ((at' + 1 + k : Nat) : Int)) (some (IntKind.i64.wrap (((at' + 1 + k : Nat) : Int) + (n : Int)))) l = ((l.drop at').drop (1 + k)).take n := by
          rw [w3]
          simp only [cutL, Int.toNat_natCast, List.drop_take, List.drop_drop]
          congr 1
          · omega
          · congr 1; omega
        generalize hs' : ((l.drop at').drop (1 + k)).take n = s' at *
        have hsl : s'.length ≤ 100000 := by rw [← hs']; simp; omega
        refine S_weak (fr' := [(0, .str l), (4, .ms 0 u 0 ds.length 1 false), (5, .int .i64 at'), (6, .int .i64 n), (9, .int .i64 ((at' + 1 + k : Nat) : Int)), (10, .str s')]) (.cons rfl (.cons rfl (.cons rfl (.cons rfl (.cons rfl (.cons (congrArg _ hcut2) (.nil _))))))) ?_
        refine S_draw 10 [] [.str (entryOf s')] rfl rfl rfl rfl ⟨rfl, ⟨_, EntryOf_ok s' (by omega), .cons (.refl .str) (.nil _)⟩, rfl, rfl, rfl, rfl, rfl, rfl, rfl, by omega, ?_, ?_, rfl, trivial⟩ ?_
        · show ((at' : Nat) : Int) ≤ IntKind.i64.wrap (IntKind.i64.wrap (((at' + 1 + k : Nat) : Int) + (n : Int)) + 4)
          rw [w3, w4]; omega
        · show IntKind.i64.wrap (IntKind.i64.wrap (((at' + 1 + k : Nat) : Int) + (n : Int)) + 4) ≤ (l.length : Int)
          rw [w3, w4]; omega
        have hcut3 : cutL (some ((at' : Nat) : Int)) (some (IntKind.i64.wrap (IntKind.i64.wrap (((at' + 1 + k : Nat) : Int) + (n : Int)) + 4))) l = (l.drop at').take (1 + k + n + 4) := by
          rw [w3, w4]
          simp only [cutL, Int.toNat_natCast, List.drop_take]
          congr 1; omega
        refine ab 1000 rfl trivial ?_
        refine S_weak (fr' := [(0, .str l), (4, .ms 0 u 0 ds.length 1 false), (5, .int .i64 at'), (6, .int .i64 n), (9, .int .i64 ((at' + 1 + k : Nat) : Int)), (10, .str s'), (64, .bool (!(entryOf s' == (l.drop at').take (1 + k + n + 4))))]) (.cons rfl (.cons rfl (.cons rfl (.cons rfl (.cons rfl (.cons rfl (.cons (congrArg (fun z => AV.bool (!(entryOf s' == z))) hcut3) (.nil _)))))))) ?_
        refine S_cond rfl (fun hd => ?_) (fun hd => ?_)
        · have hno : (nextL (l.drop at')).2.2 = false := by rw [hN]; simpa using hd
          refine ab 1000 rfl trivial ?_
          exact S_ret ⟨_, _, rfl, trivial, _, rfl, fin hno _⟩
        · have hyes : (nextL (l.drop at')).2.2 = true := by rw [hN]; simpa using hd
          have hdd : (nextL (l.drop at')).2.1 = l.drop (at' + 1 + k + n + 4) := by
            rw [hN]; simp only [List.drop_drop]; congr 1; omega
          have hss : (nextL (l.drop at')).1 = s' := by rw [hN]
          obtain ⟨f', rfl⟩ : ∃ g, f = g + 1 := ⟨f - 1, by omega⟩
          have hstep : readAll (f' + 1) (l.drop at') = (s' :: (readAll f' (l.drop (at' + 1 + k + n + 4))).1, (readAll f' (l.drop (at' + 1 + k + n + 4))).2) := by
            rw [readAll, if_pos hyes, hdd, hss]
          rw [hstep] at h4 h5
          refine ab 1000 rfl ⟨?_, ?_, ?_, rfl, rfl, allOne_mem (cs := [.str s']) rfl, allOne_mem (cs := [.str s']) rfl, rfl, trivial⟩ ?_
          · show ds.length + 1 ≤ 9223372036854775807; omega
          · show (ds.length + 1) * 16 ≤ 140737488355328; omega
          · show 0 + ds.length * 1 = (texts ds).length; simp [texts]
          refine S_round (ds ++ [s'], at' + 1 + k + n + 4, u + 1, f') (by show l.length - (at' + 1 + k + n + 4) < l.length - at'; omega) ⟨hfit, by simp; omega, by omega, by rw [← h4]; simp, h5⟩ (.cons rfl (.cons ?_ (.cons ?_ (.nil _)))) ?_
          · show AV.ms 0 (u + 1) 0 (ds.length + 1) 1 false = _
            simp
          · show AV.int .i64 (IntKind.i64.wrap (IntKind.i64.wrap (((at' + 1 + k : Nat) : Int) + (n : Int)) + 4)) = _
            rw [w3, w4]
          · show [(u + 1, some (Box.cells (texts ds ++ [.str s']) ⟨false, none⟩))] = _
            simp [texts]
      · have hno : (nextL (l.drop at')).2.2 = false := by
          have hne : l[at'].toNat ≠ 76 := by
            intro he; apply hc
            show (((l.getD at' 0).toNat : Nat) : Int) = 76
            rw [hgd, he]; rfl
          rw [hdr]; simp only [nextL, if_pos hne]
        refine ab 1000 rfl trivial ?_
        exact S_ret ⟨_, _, rfl, trivial, _, rfl, fin hno _⟩
    · have hal : at' = l.length := by have := of_decide_eq_false hg; omega
      have hno : (nextL (l.drop at')).2.2 = false := by rw [hal, List.drop_length]; rfl
      refine ab 1000 rfl trivial ?_
      refine S_cond rfl (fun hh => by cases hh) (fun _ => ?_)
      refine ab 1000 rfl trivial ?_
      exact S_ret ⟨_, _, rfl, trivial, _, rfl, fin hno _⟩

theorem readAll_count : ∀ f l, 5 * (readAll f l).1.length ≤ l.length
  | 0, l => by simp [readAll]
  | f + 1, l => by
    rw [readAll]
    split
    · rename_i h
      have := nextL_short l h
      have := readAll_count f (nextL l).2.1
      simp; omega
    · simp

theorem LogReads_ok (l : List UInt8) (hl : l.length ≤ 4398046511104) : Calc cx 7 [.str l] (.bool true) :=
  pure_intro (fun a w => Try.call7 a w) Try.func7 rfl Try.ntmps7 rfl .bool fun B => by
    refine ab 1000 rfl trivial ?_
    refine S_pure rfl rfl rfl (Read_ok l hl) (.cons (.refl .str) (.nil _)) ?_
    refine ab 1000 rfl trivial ?_
    refine S_pure rfl rfl rfl (LogEntries_ok l hl) (.cons (.refl .str) (.nil _)) ?_
    have hcnt := readAll_count l.length l
    generalize (readAll l.length l).1 = ts at *
    generalize l.length - (readAll l.length l).2.length = m at *
    refine ab 1000 rfl trivial ?_
    refine S_pure rfl rfl rfl logBegun_ok (.nil _) ?_
    refine ab 1000 rfl trivial ?_
    refine S_guard rfl rfl rfl rfl (fun _ => ?_) (fun h => absurd h (by decide))
    refine ab 1000 rfl trivial ?_
    refine S_pure rfl rfl rfl (SameTexts_ok (st := true) (st' := true) (fl := false) (fl' := false) ts ts (by omega) (by omega)) (.cons (.refl (.sl (fun h => by cases h) (fun x hx => (texts_any ts x hx)))) (.cons (.refl (.sl (fun h => by cases h) (fun x hx => (texts_any ts x hx)))) (.nil _))) ?_
    rw [show (ts == ts) = true by simp]
    refine ab 1000 rfl trivial ?_
    refine S_guard rfl rfl rfl rfl (fun _ => ?_) (fun h => absurd h (by decide))
    refine ab 1000 rfl trivial ?_
    refine S_retc .bool rfl trivial ?_
    show AV.bool (((m : Nat) : Int) == ((m : Nat) : Int)) = _
    simp

end Go.Proofs.Ytjbgcbolakdhaaa
