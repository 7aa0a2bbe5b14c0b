/-
  Texts of our own, in one file.
-/
import Derived.Test.YtgmakmfdjhgjlaaGreatDoorGrpE
section
set_option linter.unusedVariables false
set_option linter.unusedSimpArgs false
set_option maxRecDepth 20000
set_option maxHeartbeats 4000000
namespace Go.Proofs.YtgmakmfdjhgjlaaGreatDoor
open Go Go.Ab
theorem AddFileC_in {st fl : Bool} (l : List Fil) (f : Fil) (hl : l.length ≤ 1000000000) (hlt : lessF f.path l < l.length) :
    Calc cx 21 [.sl st fl 3 (fils l), filA f] (.sl true false 3 (fils (addF l f))) :=
  pure_intro (fun a w => Tryz.call21 a w) Tryz.func21 rfl Tryz.ntmps21 rfl (.sl (fun _ => rfl) (fils_free _)) fun B => by
    have htl := fils_len l
    have hle := lessF_le f.path l
    refine pB [] rfl ?_
    refine S_while (α := Nat) (fun i => [(0, .sl st fl 3 (fils l)), (3, .ptr 0 0 0), (5, .int .i64 (i : Nat))]) (fun _ => [(0, some (.cells [.str f.path, .str f.text, .bool f.run] ⟨false, some 38⟩))]) (fun i => i ≤ lessF f.path l) (fun i => l.length - i) 0
      (Nat.zero_le _) (.cons rfl (.cons rfl (.cons rfl (.nil _)))) rfl ?_
    intro i hi
    have hi : i ≤ lessF f.path l := hi
    have hil : i < l.length := by omega
    have e1 : decide ((i : Int) < (((fils l).length : Nat) : Int)) = true := decide_eq_true (by omega)
    have g1 : (fils l)[(i : Int).toNat]? = some (filA l[i]) := fils_get hil
    have hT : cutL (some (i : Int)) none (fils l) = fils (l.drop i) := by simp [cutL, fils]
    have hD : cutL none (some (i : Int)) (fils l) = fils (l.take i) := by simp [cutL, fils]
    by_cases hk : i < lessF f.path l
    · have e2 := lessF_lt hil hk
      refine pB [.b true, .v (filA l[i]), .b true] rfl ?_
      exact S_round (i + 1) (by show l.length - (i + 1) < l.length - i; omega) hk (.cons rfl (.cons rfl (.cons (nX (by omega)) (.nil _)))) rfl
    · have hie : i = lessF f.path l := by omega
      have e2 : Op.bytesLess l[i].path f.path = false := by subst hie; exact lessF_at hlt
      refine pa [.b true, .v (filA l[i]), .b false, .d 9 10 [] (fun _ => [(0, some (.cells [.str f.path, .str f.text, .bool f.run] ⟨false, some 38⟩)), (0, some (.cells (celsF (f :: l.drop i)) ⟨false, none⟩))]) [.ms 1 0 0 ((l.drop i).length + 1) 3 false]] rfl ?_ ?_
      · (repeat' with_reducible apply AllP_cons) <;> try exact aC
        · rw [hT]; exact flat_one _
        · rw [hT]; exact flat_one _
        · rw [hT, fils_len, List.length_drop]; left; omega
        · show (1 + (cutL (some (i : Int)) none (fils l)).length) * 40 ≤ 140737488355328
          rw [hT, fils_len, List.length_drop]; omega
        · show 1 + (cutL (some (i : Int)) none (fils l)).length ≤ 9223372036854775807
          rw [hT, fils_len, List.length_drop]; omega
        · show AV.ms 1 0 0 (1 + (cutL (some (i : Int)) none (fils l)).length) 3 false = _
          rw [hT, fils_len, Nat.add_comm 1]
        · rw [hT]
          show [(0, some (Box.cells [AV.str f.path, AV.str f.text, AV.bool f.run] ⟨false, some 38⟩)), (0, some (Box.cells ([AV.str f.path, AV.str f.text, AV.bool f.run] ++ flatA 3 (fils (l.drop i))) ⟨false, none⟩))] = _
          rw [flat_fils]; rfl
        · show 0 + ((l.drop i).length + 1) * 3 ≤ (celsF (f :: l.drop i)).length
          rw [cels_len, List.length_cons]; omega
        · intro y hy
          have hy : y ∈ celsF (f :: l.drop i) := List.mem_of_mem_take hy
          exact cels_one _ y hy
        · rw [hD]; exact flat_one _
        · show ((cutL none (some (i : Int)) (fils l)).length + ((l.drop i).length + 1)) * 40 ≤ 140737488355328
          rw [hD, fils_len, List.length_take, List.length_drop]; omega
        · rw [hD, fils_len, List.length_take, List.length_drop]; omega
      refine S_ret ⟨_, _, rfl, trivial, _, rfl, ?_⟩
      show Frz true [(0, some (.cells [.str f.path, .str f.text, .bool f.run] ⟨false, some 38⟩)), (0, some (.cells (celsF (f :: l.drop i)) ⟨false, none⟩)), (0, some (.cells (flatA 3 (cutL none (some (i : Int)) (fils l)) ++ (celsF (f :: l.drop i)).take (((l.drop i).length + 1) * 3)) ⟨false, none⟩))] (.ms 2 0 0 ((cutL none (some (i : Int)) (fils l)).length + ((l.drop i).length + 1)) 3 false) _
      have htk : (celsF (f :: l.drop i)).take (((l.drop i).length + 1) * 3) = celsF (f :: l.drop i) := List.take_of_length_le (by rw [cels_len, List.length_cons]; omega)
      have hea : l.take i ++ f :: l.drop i = addF l f := by unfold addF; rw [hie]
      have hlen : (addF l f).length = l.length + 1 := by rw [← hea, List.length_append, List.length_cons, List.length_take, List.length_drop]; omega
      have hcl := cels_len (addF l f)
      rw [hD, flat_fils, htk, ← celsF_app, hea, fils_len, List.length_take, List.length_drop, show min i l.length + (l.length - i + 1) = (addF l f).length by omega]
      exact .ms rfl (by omega) (by rw [List.drop_zero]; exact List.take_of_length_le (by omega)) (fil_size _) (fils_len _) (fils_free _)
theorem AddFileC_end {st fl : Bool} (l : List Fil) (f : Fil) (hl : l.length ≤ 1000000000) (hlt : lessF f.path l = l.length) :
    Calc cx 21 [.sl st fl 3 (fils l), filA f] (.sl true false 3 (fils (addF l f))) :=
  pure_intro (fun a w => Tryz.call21 a w) Tryz.func21 rfl Tryz.ntmps21 rfl (.sl (fun _ => rfl) (fils_free _)) fun B => by
    have htl := fils_len l
    refine pB [] rfl ?_
    refine S_while (α := Nat) (fun i => [(0, .sl st fl 3 (fils l)), (3, .ptr 0 0 0), (5, .int .i64 (i : Nat))]) (fun _ => [(0, some (.cells [.str f.path, .str f.text, .bool f.run] ⟨false, some 38⟩))]) (fun i => i ≤ l.length) (fun i => l.length - i) 0
      (Nat.zero_le _) (.cons rfl (.cons rfl (.cons rfl (.nil _)))) rfl ?_
    intro i hi
    have hi : i ≤ l.length := hi
    have hT : cutL (some (i : Int)) none (fils l) = fils (l.drop i) := by simp [cutL, fils]
    have hD : cutL none (some (i : Int)) (fils l) = fils (l.take i) := by simp [cutL, fils]
    by_cases hk : i < l.length
    · have e1 : decide ((i : Int) < (((fils l).length : Nat) : Int)) = true := decide_eq_true (by omega)
      have g1 : (fils l)[(i : Int).toNat]? = some (filA l[i]) := fils_get hk
      have e2 := lessF_lt (p := f.path) hk (by omega)
      refine pB [.b true, .v (filA l[i]), .b true] rfl ?_
      exact S_round (i + 1) (by show l.length - (i + 1) < l.length - i; omega) hk (.cons rfl (.cons rfl (.cons (nX (by omega)) (.nil _)))) rfl
    · have hie : i = l.length := by omega
      have e1 : decide ((i : Int) < (((fils l).length : Nat) : Int)) = false := decide_eq_false (by omega)
      refine pa [.b false, .b false, .d 9 10 [1000001] (fun σ => σ) [.sl true true 3 [filA f]]] rfl ?_ ?_
      · (repeat' with_reducible apply AllP_cons) <;> try exact aC
        · exact OpSpec.append0 (st := true) (fl := true) (st' := st) (fl' := _) (sz := 3) rfl rfl rfl rfl (by show AV.sl st _ 3 (cutL (some (i : Int)) none (fils l)) = _; rw [hT, hie, List.drop_length]; rfl)
        · rw [hD]; exact flat_one _
        · show ((cutL none (some (i : Int)) (fils l)).length + 1) * 40 ≤ 140737488355328
          rw [hD, fils_len, List.length_take]; omega
        · show (cutL none (some (i : Int)) (fils l)).length + 1 ≤ 9223372036854775807
          rw [hD, fils_len, List.length_take]; omega
      refine S_ret ⟨_, _, rfl, trivial, _, rfl, ?_⟩
      show Frz true [(0, some (.cells [.str f.path, .str f.text, .bool f.run] ⟨false, some 38⟩)), (0, some (.cells (flatA 3 (cutL none (some (i : Int)) (fils l)) ++ celsF [f]) ⟨false, none⟩))] (.ms 1 0 0 ((cutL none (some (i : Int)) (fils l)).length + 1) 3 false) _
      have hea : l.take i ++ [f] = addF l f := by unfold addF; rw [hlt, hie, List.drop_length]
      have hlen : (addF l f).length = l.length + 1 := by rw [← hea, List.length_append, List.length_take, hie, Nat.min_self]; rfl
      have hcl := cels_len (addF l f)
      rw [hD, flat_fils, ← celsF_app, hea, fils_len, List.length_take, show min i l.length + 1 = (addF l f).length by omega]
      exact .ms rfl (by omega) (by rw [List.drop_zero]; exact List.take_of_length_le (by omega)) (fil_size _) (fils_len _) (fils_free _)
theorem AddFile_ok {st fl : Bool} (l : List Fil) (f : Fil) (hl : l.length ≤ 1000000000) : Calc cx 21 [.sl st fl 3 (fils l), filA f] (.sl true false 3 (fils (addF l f))) := by
  have := lessF_le f.path l
  by_cases h : lessF f.path l < l.length
  · exact AddFileC_in l f hl h
  · exact AddFileC_end l f hl (by omega)
end Go.Proofs.YtgmakmfdjhgjlaaGreatDoor
end
section
set_option linter.unusedVariables false
set_option linter.unusedSimpArgs false
set_option maxRecDepth 20000
set_option maxHeartbeats 4000000
namespace Go.Proofs.YtgmakmfdjhgjlaaGreatDoor
open Go Go.Ab
def regsL (g : List UInt8 → List UInt8) : List (List UInt8) := [g [97], g [98], g [99], g [100], g [101], g [102], g [103], g [104]]
def ixR (c : UInt8) : Nat := c.toNat - 97
theorem reg8 {c : UInt8} (h1 : 97 ≤ c) (h2 : c ≤ 104) : c = 97 ∨ c = 98 ∨ c = 99 ∨ c = 100 ∨ c = 101 ∨ c = 102 ∨ c = 103 ∨ c = 104 := by
  have k1 : 97 ≤ c.toNat := by simpa [UInt8.le_iff_toNat_le] using h1
  have k2 : c.toNat ≤ 104 := by simpa [UInt8.le_iff_toNat_le] using h2
  have : c.toNat = 97 ∨ c.toNat = 98 ∨ c.toNat = 99 ∨ c.toNat = 100 ∨ c.toNat = 101 ∨ c.toNat = 102 ∨ c.toNat = 103 ∨ c.toNat = 104 := by omega
  rcases this with h | h | h | h | h | h | h | h
  · exact .inl (UInt8.toNat_inj.1 h)
  · exact .inr (.inl (UInt8.toNat_inj.1 h))
  · exact .inr (.inr (.inl (UInt8.toNat_inj.1 h)))
  · exact .inr (.inr (.inr (.inl (UInt8.toNat_inj.1 h))))
  · exact .inr (.inr (.inr (.inr (.inl (UInt8.toNat_inj.1 h)))))
  · exact .inr (.inr (.inr (.inr (.inr (.inl (UInt8.toNat_inj.1 h))))))
  · exact .inr (.inr (.inr (.inr (.inr (.inr (.inl (UInt8.toNat_inj.1 h)))))))
  · exact .inr (.inr (.inr (.inr (.inr (.inr (.inr (UInt8.toNat_inj.1 h)))))))
theorem ix_lt {c : UInt8} (h1 : 97 ≤ c) (h2 : c ≤ 104) : ixR c < 8 := by
  rcases reg8 h1 h2 with rfl | rfl | rfl | rfl | rfl | rfl | rfl | rfl <;> decide
theorem regs_get {g : List UInt8 → List UInt8} {c : UInt8} (h1 : 97 ≤ c) (h2 : c ≤ 104) : ((texts (regsL g)).drop (offN 0 (mulN ((ixR c : Nat) : Int).toNat 1)))[0]? = some (.str (g [c])) := by
  rcases reg8 h1 h2 with rfl | rfl | rfl | rfl | rfl | rfl | rfl | rfl <;> rfl
theorem regs_set {g : List UInt8 → List UInt8} {c : UInt8} {t : List UInt8} (h1 : 97 ≤ c) (h2 : c ≤ 104) : setRange (texts (regsL g)) (offN 0 (mulN ((ixR c : Nat) : Int).toNat 1)) [.str t] = texts (regsL (updT g [c] t)) := by
  rcases reg8 h1 h2 with rfl | rfl | rfl | rfl | rfl | rfl | rfl | rfl <;> rfl
def rcH (u v y z : Nat) (g : List UInt8 → List UInt8) (ws : List (List UInt8)) : Heap :=
  [(u, some (.cells (texts (regsL g)) ⟨false, none⟩)), (v, some (.cells [.sl true false 1 (texts ws)] ⟨false, none⟩)), (y, none), (z, none)]
theorem word_at (u v y z : Nat) (g : List UInt8 → List UInt8) (ws : List (List UInt8)) (i : Nat) (c : UInt8) (hi : i < ws.length) (hw : ws[i] = [c]) (h1 : 97 ≤ c) (h2 : c ≤ 104) : CallOk cx 68 ([] ++ [.int .i64 (i : Int)] ++ [.ptr 1 v 0]) (rcH u v y z g ws)
    (fun o σ => o = .ret (.int .i64 ((ixR c : Nat) : Int)) ∧ σ = rcH u v y z g ws) :=
  callOk_intro (fun a w => Tryz.call68 a w) Tryz.func68 rfl Tryz.ntmps68 rfl fun B => by
    have hwl : (texts ws).length = ws.length := by simp [texts]
    have g1 : (texts ws)[(i : Int).toNat]? = some (.str [c]) := by rw [← hw]; exact texts_get hi
    have e1 : decide ((i : Int) < (((texts ws).length : Nat) : Int)) = true := decide_eq_true (by omega)
    refine pB [.v (.str [c])] rfl ?_
    refine S_ret ⟨_, _, rfl, trivial, ?_, rfl⟩
    rcases reg8 h1 h2 with rfl | rfl | rfl | rfl | rfl | rfl | rfl | rfl <;> rfl
def jmpB (w : List UInt8) : Bool := w == kSame || (w == kLess || (w == kGoto || w == kExit))
inductive TlOk (fs : List Fil) (x : Ln) (m : Mc) : Int → Int → List UInt8 → List UInt8 → Prop
  | set {c : UInt8} {t : List UInt8} (h1 : 97 ≤ c) (h2 : c ≤ 104) (hn : jmpB x.op = false) (he : stepM fs x m = setM [c] t m) : TlOk fs x m 0 ((ixR c : Nat) : Int) t []
  | trip (he : stepM fs x m = tripM 101 m) : TlOk fs x m 101 (-1) [] []
  | make {p t : List UInt8} {k : Int} (hp : p ≠ []) (ht : t.length ≤ 100000) (hn : jmpB x.op = false) (hk : k = if badM p m.made = true ∨ p ∉ ksP m.made ∧ (ksP m.made).length = 60 then 103 else 0) (he : stepM fs x m = makeM p t (x.op == kRun) m) : TlOk fs x m k (-1) t p
  | jump (hj : x.op = kSame ∨ x.op = kLess ∨ x.op = kGoto ∨ x.op = kExit) : TlOk fs x m 0 (-1) [] []
end Go.Proofs.YtgmakmfdjhgjlaaGreatDoor
end
section
set_option linter.unusedVariables false
set_option linter.unusedSimpArgs false
namespace Go.Ab
open Go
def Rl.fixS (r : Rl) (b : Nat) : Rl := { r with I := fun k => r.I k ∨ k = b, S := fun k => r.S k ∨ k = b }
theorem Inv.fixS {cx : Cx} {r : Rl} {σ : Heap} {w : World} {b : Nat} (hi : Inv cx r σ w) (hl : ¬ Live r σ b) (hb : b < w.heap.size) : Inv cx (r.fixS b) σ w := by
  have g : Grow r w (r.fixS b) w := ⟨fun _ h => .inl h, fun _ h => .inl h, fun _ _ _ h => h, fun _ _ => rfl, fun _ c _ f h => ⟨c, f, h, rfl⟩⟩
  refine ⟨fun id ver x h => ?_, hi.lt, hi.inj, fun k hk hI => ?_, fun k hI => ?_, fun k h => ?_, hi.glob.mono g hi.SI⟩
  · rcases hi.box id ver x h with ⟨k, o, h1, h2⟩ | h1
    · exact .inl ⟨k, o, h1, h2.mono g rfl⟩
    · exact .inr h1
  · rcases hI with h | rfl
    · exact hi.imm k hk h
    · exact hl hk
  · rcases hI with h | rfl
    · exact hi.Ilt k h
    · exact hb
  · rcases h with h | h
    · exact .inl (hi.SI k h)
    · exact .inr h
section
variable {cx : Cx} {n : Nat} {B : Bs} {k : List AI} {Q : Post} {fr : Fr} {σ : Heap}
theorem S_freezeS {todo : List AI} {t id cur off len sz : Nat} {full : Bool} {cs : List AV} {g : Tag} (xs : List AV) (hB : ∀ id ver y, B.r.ρ id ver ≠ some y) (h : fr.get t = .ms id cur off len sz full) (hb : boxAt σ id = some (cur, cs, g)) (hle : off + len * sz ≤ cs.length)
    (hx : (cs.drop off).take (len * sz) = xs.flatMap AV.cells) (hsz : ∀ x ∈ xs, x.cells.length = sz) (hl : xs.length = len)
    (hT : ∃ c k, todo = .code c :: k ∨ ∃ all l K, todo = .ops all l K :: k) (hk : S cx n B todo Q ((t, .sl true false sz xs) :: fr) (σ.set id (cur, none))) : S cx n B todo Q fr σ := by
  have key : ∀ r w a, Inv cx r σ w → FRel r w n fr a → Ext B.r B.σ B.w r σ w → ∃ r', Inv cx r' (σ.set id (cur, none)) w ∧ Ext B.r B.σ B.w r' (σ.set id (cur, none)) w ∧ FRel r' w n ((t, .sl true false sz xs) :: fr) a := by
    intro r w a hi hf0 hx0
    have hv := hf0.get t
    rw [h] at hv
    have bx := boxAt_some hb
    have out : ∀ {r' : Rl}, Grow r w r' w → VRel r' w (a.tmps.getD t undef) (.sl true false sz xs) → FRel r' w n ((t, .sl true false sz xs) :: fr) a := by
      intro r' gr hvv
      refine ⟨hf0.size, fun s => ?_, fun vs hm => ?_⟩
      · rw [Fr.get_cons]
        split
        · rename_i hs; subst hs; exact hvv
        · exact (hf0.get s).mono gr
      · rw [Fr.get_cons] at hm
        split at hm
        · cases hm
        · exact (hf0.defs vs hm).mono gr
    generalize a.tmps.getD t undef = z at hv out
    cases hv with
    | ms0 =>
      obtain rfl := List.eq_nil_of_length_eq_zero hl
      obtain ⟨q1, q2⟩ := hi.kill (w' := w) bx (fun _ _ => rfl) rfl (fun b c t f h => ⟨c, f, h, rfl⟩) rfl rfl rfl
      exact ⟨r, q1, hx0.trans q2, out (q2.grow hi) (.sl0 (fun h' => by cases h'))⟩
    | @ms _ _ b o _ _ _ _ _ hρ hcap hn hff =>
      obtain ⟨q1, q2⟩ := hi.freeze bx hρ
      obtain ⟨p1, p2⟩ := hi.kill (w' := w) bx (fun _ _ => rfl) rfl (fun b c t f h => ⟨c, f, h, rfl⟩) rfl rfl rfl
      have hnl : ¬ Live r (σ.set id (cur, none)) b := fun hl' => q1.imm b (by obtain ⟨j, v, y, o', a1, a2⟩ := hl'; exact ⟨j, v, y, o', a1, a2⟩) (.inr rfl)
      have hlt := (hi.lt _ _ _ _ hρ).2
      have hfresh : B.w.heap.size ≤ b := by
        rcases hx0.blk _ _ _ _ hρ with ⟨v', o', e⟩ | e
        · exact absurd e (hB _ _ _)
        · exact e
      have s1 := p1.fixS hnl hlt
      have e1 := hx0.trans q2
      have gr : Grow r w (r.fixS b) w := ⟨fun _ h => .inl h, fun _ h => .inl h, fun _ _ _ h => h, fun _ _ => rfl, fun _ c _ f h => ⟨c, f, h, rfl⟩⟩
      have hbr := hi.cells hb rfl hρ
      have hc := (hbr.cells'.drop off).take (len * sz)
      rw [hx] at hc
      refine ⟨_, s1, ⟨fun b' h' => .inl (hx0.S b' h'), fun b' h' => e1.I b' h', fun b' h' => ?_, fun b' h' => e1.If b' h', e1.ρ, e1.hs, e1.σl, e1.same, fun b' h' => ?_, e1.size, e1.os, e1.output, e1.tape, e1.blk⟩, out gr (Cells.sl hl.symm hn (fun h => by cases h) (.inr rfl) (fun h => .inr rfl) hsz (fun i hi' => ?_))⟩
      · rcases h' with h' | rfl
        · exact hx0.Sf b' h'
        · exact .inr hfresh
      · exact e1.liv b' (by obtain ⟨j, v, y, o', a1, a2⟩ := h'; exact ⟨j, v, y, o', a1, a2⟩)
      · obtain ⟨u, p1, p2⟩ := hc i hi'
        exact ⟨u, p1, p2.mono gr⟩
  obtain ⟨c, k, hT⟩ := hT
  rcases hT with rfl | ⟨all, l, K, rfl⟩
  · intro r a w hi hf hd hx
    obtain ⟨r', q1, q2, q3⟩ := key r w a hi hf hx
    exact hk r' a w q1 q3 hd q2
  · intro r a w hi hf hd hx
    obtain ⟨r', q1, q2, q3⟩ := key r w a hi hf hx
    exact hk r' a w q1 q3 hd q2
end
end Go.Ab
end
section
set_option linter.unusedVariables false
set_option linter.unusedSimpArgs false
set_option maxRecDepth 20000
set_option maxHeartbeats 4000000
namespace Go.Proofs.YtgmakmfdjhgjlaaGreatDoor
open Go Go.Ab
theorem prog_at {L : Nat} : ∀ {com : List (List UInt8)} {xs : List Ln}, progT L com = some xs → ∀ (i : Nat) (h : i < com.length) (h' : i < xs.length), lnOf L com[i] = some xs[i]
  | [], xs, h, i, hi, _ => absurd hi (by simp)
  | s :: r, xs, h, i, hi, h' => by
    rw [progT] at h
    cases hq : lnOf L s with
    | none => rw [hq] at h; cases h
    | some y =>
      rw [hq] at h
      replace h : (progT L r).map (y :: ·) = some xs := h
      cases hr : progT L r with
      | none => rw [hr] at h; cases h
      | some ys =>
        rw [hr] at h
        cases h
        match i, hi, h' with
        | 0, _, _ => exact hq
        | i + 1, hi, h' => exact prog_at hr i (by simpa using hi) (by simpa using h')
inductive WdOk (s : List UInt8) (x : Ln) : List (List UInt8) → Prop
  | set {c : UInt8} {b : List UInt8} {q : List (List UInt8)} (h6 : 6 ≤ s.length) (hx : x = ⟨kSet, [[c], s.drop 6], []⟩) : WdOk s x (kSet :: [c] :: b :: q)
  | other (h : x.op ≠ kSet) : WdOk s x (x.op :: x.ws)
theorem wd_of {L : Nat} {s : List UInt8} {x : Ln} (h : lnOf L s = some x) : WdOk s x (splitB 32 s) := by
  by_cases h0 : fst32 s = kSet
  · obtain ⟨c, b, t, _, _, e, hx⟩ := ln_set h h0
    rw [e]
    refine .set ?_ hx
    rw [split_fst32, h0] at e
    rcases fst32_ok s with ⟨k0, _, _⟩ | ⟨k0, k1⟩
    · rw [if_pos k0] at e; simp at e
    · rw [if_neg (by omega)] at e
      have e := (List.cons.inj e).2
      rw [split_fst32] at e
      rcases fst32_ok (rst32 s) with ⟨j0, _, _⟩ | ⟨j0, j1⟩
      · rw [if_pos j0] at e; simp at e
      · have e1 := (List.cons.inj e).1
        have l1 := congrArg List.length k1
        have l2 := congrArg List.length j1
        rw [h0] at l1
        rw [e1] at l2
        simp [kSet] at l1 l2
        omega
  · obtain ⟨_, _, _, ho, hsp, _⟩ := ln_other h h0
    rw [hsp, ← ho]
    exact .other (by rw [ho]; exact h0)
theorem find_at {l : List Fil} {p : List UInt8} {i : Nat} (h : atF l p = (i : Nat)) (hi : i < l.length) : l.find? (fun f => f.path == p) = some l[i] := by
  unfold atF at h
  cases hq : l.findIdx? (fun f => f.path == p) with
  | none => rw [hq] at h; exact absurd h (by show ¬ ((-1 : Int) = (i : Int)); omega)
  | some k =>
    rw [hq] at h
    have hk : k = i := by have h : (k : Int) = (i : Int) := h; omega
    subst hk
    rw [List.find?_eq_some_iff_getElem]
    obtain ⟨h1, h2, h3⟩ := List.findIdx?_eq_some_iff_getElem.1 hq
    exact ⟨h2, k, h1, rfl, fun j hj => by simpa using h3 j hj⟩
theorem listR_len : ∀ (l : List Fil) (d : List UInt8), (∀ f ∈ l, f.path.length ≤ 100) → (listT l d).length ≤ l.length * 101
  | [], _, _ => Nat.zero_le _
  | f :: l, d, h => by
    have ih := listR_len l d fun g hg => h g (List.mem_cons_of_mem _ hg)
    have h1 := h f (List.mem_cons_self ..)
    have e : listT (f :: l) d = (if d = [46] ∨ insT d f.path = true then f.path ++ [10] else []) ++ listT l d := by unfold listT; rw [List.flatMap_cons]
    rw [e, List.length_append, List.length_cons]
    split
    · rw [List.length_append]; simp; omega
    · simp; omega
def hitP (p : List UInt8) (f : Fil) : Bool := insT f.path p || insT p f.path
theorem ov_ks {c : List Fil} {p : List UInt8} : p ∈ ksP c ↔ ∃ f ∈ ovT c, f.path = p := by
  have h := ov_paths c
  constructor
  · intro hp
    have : p ∈ (ovT c).map Fil.path := by rw [h]; exact (sortT_perm _).mem_iff.2 hp
    obtain ⟨f, hf, e⟩ := List.mem_map.1 this
    exact ⟨f, hf, e⟩
  · rintro ⟨f, hf, rfl⟩
    have : f.path ∈ (ovT c).map Fil.path := List.mem_map.2 ⟨f, hf, rfl⟩
    rw [h] at this
    exact (sortT_perm _).mem_iff.1 this
theorem bad_any (c : List Fil) (p : List UInt8) : (ovT c).any (hitP p) = badM p c := by
  have key : ∀ q : List UInt8, (insT q p || insT p q) = (q != p && meetT q p) := fun q => by
    by_cases h : q = p
    · subst h; rw [ins_self]; simp
    · have h' : (q == p) = false := by simpa using h
      unfold meetT; rw [bne, h']; simp
  rw [Bool.eq_iff_iff]
  unfold badM hitP
  rw [List.any_eq_true, List.any_eq_true]
  constructor
  · rintro ⟨f, hf, h⟩
    exact ⟨f.path, ov_ks.2 ⟨f, hf, rfl⟩, by rw [← key]; exact h⟩
  · rintro ⟨q, hq, h⟩
    obtain ⟨f, hf, rfl⟩ := ov_ks.1 hq
    exact ⟨f, hf, by rw [key]; exact h⟩
theorem at_made (c : List Fil) (p : List UInt8) : (p ∈ ksP c → ∃ j : Nat, atF (ovT c) p = (j : Nat)) ∧ (p ∉ ksP c → atF (ovT c) p = -1) := by
  rcases atF_cases (ovT c) p with ⟨k1, k2⟩ | ⟨i, hi, k1, k2⟩
  · refine ⟨fun h => ?_, fun _ => k1⟩
    obtain ⟨f, hf, e⟩ := ov_ks.1 h
    exact absurd e (k2 f hf)
  · exact ⟨fun _ => ⟨i, k1⟩, fun h => absurd (ov_ks.2 ⟨_, List.getElem_mem hi, k2⟩) h⟩
theorem LnOk.short {L : Nat} {x : Ln} (h : LnOk L x) : ∀ w ∈ x.ws, w.length ≤ 100000 := by
  have num : ∀ {w : List UInt8} {k n : Nat}, numT w k = some n → w.length ≤ 100000 := fun {w k n} h => by
    rw [numT_eq] at h
    split at h
    · rename_i hh; have := ((numB_iff w).1 hh.1).2.2.1; omega
    · cases h
  have pth : ∀ {p : List UInt8}, isPathB p = true → p.length ≤ 100000 := fun h => by have := (path_fst h).2.1; omega
  cases h <;> intro w hw <;> simp at hw
  case set ht => rcases hw with rfl | rfl; simp; exact ht
  case read hp => rcases hw with rfl | rfl; simp; exact pth hp
  case list hp => rcases hw with rfl | rfl; simp; rcases hp with rfl | hp; simp; exact pth hp
  case join => rcases hw with rfl | rfl <;> simp
  case cut hv hw' => rcases hw with rfl | rfl | rfl; simp; exact num hv; exact num hw'
  case size => rcases hw with rfl | rfl <;> simp
  case sum => subst hw; simp
  case make hp => rcases hw with rfl | rfl; exact pth hp; simp
  case run hp => rcases hw with rfl | rfl; exact pth hp; simp
  case same hw' => rcases hw with rfl | rfl | rfl; simp; simp; exact num hw'
  case less hw' => rcases hw with rfl | rfl | rfl; simp; simp; exact num hw'
  case goto hw' => subst hw; exact num hw'
  case exit hw' => subst hw; exact num hw'
theorem num60 {w : List UInt8} {L j : Nat} (hL : L ≤ 60) (h : numT w L = some j) : Calc cx 40 [.str w, .int .i64 ((60 : Nat) : Int)] (.int .i64 (j : Int)) := by
  have h' := h
  rw [numT_eq] at h
  split at h
  · rename_i hh
    have hl := ((numB_iff w).1 hh.1).2.2.1
    have e : numT w 60 = some j := by rw [numT_eq, if_pos ⟨hh.1, by omega⟩]; exact h
    have := NumberOf_ok w 60 (by omega) (by omega)
    have hv : numI w 60 = (j : Int) := by unfold numI; rw [e]
    rwa [hv] at this
  · cases h
theorem nojump {w : List UInt8} (h : jmpB w = false) : (w == kSame) = false ∧ (w == kLess) = false ∧ (w == kGoto) = false ∧ (w == kExit) = false := by
  unfold jmpB at h
  simp only [Bool.or_eq_false_iff] at h
  exact h
theorem ov_0 : ovT [] = [] := by
  have h := (sortT_perm (ksP [])).length_eq
  have h2 : ksP [] = [] := rfl
  rw [h2] at h
  unfold ovT
  rw [h2, List.eq_nil_of_length_eq_zero h]; rfl
def rcAV (z : Mc) (fu : Nat) : AV := .tup [.sl true false 3 (fils (ovT z.made)), .int .i64 (z.code : Nat), .int .i64 (fu - z.left : Nat)]
theorem rcAV_free (z : Mc) (fu : Nat) : Free true (rcAV z fu) := .tup (by intro x hx; simp at hx; rcases hx with rfl | rfl | rfl; exact .sl (fun _ => rfl) (fils_free _); exact .int; exact .int)
theorem RunCommand_ok {st fl st' fl' : Bool} (fs : List Fil) (com : List (List UInt8)) (fu : Nat) (h0 : chkT fs = 0) (h1 : comE com = 0) (hf : fu ≤ 100000) :
    Calc cx 31 [.sl st fl 3 (fils fs), .sl st' fl' 1 (texts com), .int .i64 (fu : Nat)] (rcAV (runT fs com fu) fu) :=
  pure_introB (fun a w => Tryz.call31 a w) Tryz.func31 rfl Tryz.ntmps31 rfl (rcAV_free _ _) fun B hB => by
    have hTr := TrOk.of h0
    have htl : (texts com).length = com.length := by simp [texts]
    have hnf := fils_len fs
    obtain ⟨hc60, hcs, _⟩ := comE_long h1
    obtain ⟨_, _, _, prog, hpr, hpl, hpo, hrT⟩ := runT_inv (fs := fs) (fu := fu) h1 hf
    rw [hrT]
    refine pa [] rfl ?_ ?_
    · (repeat' with_reducible apply AllP_cons) <;> try exact aC
      all_goals exact of_decide_eq_true (by kernel_rfl)
    refine S_nilF 10 3 true false rfl ⟨_, _, .inl rfl⟩ ?_
    refine S_dead ?_ ⟨_, _, .inl rfl⟩
    refine S_dead ?_ ⟨_, _, .inl rfl⟩
    refine S_dead ?_ ⟨_, _, .inl rfl⟩
    refine S_while (α := Mc × Nat × Nat × Nat × Nat) (fun (m, u, v, y, z) => [(0, .sl st fl 3 (fils fs)), (1, .sl st' fl' 1 (texts com)), (2, .int .i64 (fu : Nat)), (9, .ms 0 u 0 8 1 false), (10, .sl true false 3 (fils (ovT m.made))), (11, .int .i64 (m.left : Nat)), (12, .int .i64 (m.pc : Nat))])
      (fun (m, u, v, y, z) => [(u, some (.cells (texts (regsL m.regs)) ⟨false, none⟩)), (v, none), (y, none), (z, none)])
      (fun (m, u, v, y, z) => McI m ∧ CdOk m ∧ m.done = false ∧ m.left ≤ fu ∧ runM fs prog (fu + 1) (mc0 fu) = runM fs prog (m.left + 1) m) (fun (m, u, v, y, z) => m.left) (mc0 fu, 0, 0, 0, 0)
      ⟨mc0_ok hf, ⟨fun _ => rfl, fun h => by cases h⟩, rfl, Nat.le_refl _, rfl⟩ (.cons rfl (.cons rfl (.cons rfl (.cons rfl (.cons (by
        have : ovT (mc0 fu).made = [] := ov_0
        show _ = AV.sl true false 3 (fils (ovT (mc0 fu).made))
        rw [this]; rfl) (.cons rfl (.cons rfl (.nil _)))))))) rfl ?_
    rintro ⟨m, u, v, y, z⟩ ⟨hI, hC, hd, hle, hrun⟩
    have hI : McI m := hI
    have hC : CdOk m := hC
    have hd : m.done = false := hd
    have hle : m.left ≤ fu := hle
    have hrun : runM fs prog (fu + 1) (mc0 fu) = runM fs prog (m.left + 1) m := hrun
    rw [hrun]
    have hpcM := hI.pc
    show S _ _ _ _ _ [(0, .sl st fl 3 (fils fs)), (1, .sl st' fl' 1 (texts com)), (2, .int .i64 (fu : Nat)), (9, .ms 0 u 0 8 1 false), (10, .sl true false 3 (fils (ovT m.made))), (11, .int .i64 (m.left : Nat)), (12, .int .i64 (m.pc : Nat))] [(u, some (.cells (texts (regsL m.regs)) ⟨false, none⟩)), (v, none), (y, none), (z, none)]
    have ret : ∀ {σ : Heap} {i j i' j' : Int} {l l' : List Fil}, l = l' → i = i' → j = j' → Frz true σ (.tup [.sl true false 3 (fils l), .int .i64 i, .int .i64 j]) (.tup [.sl true false 3 (fils l'), .int .i64 i', .int .i64 j']) := by
      intro σ i j i' j' l l' e1 e2 e3
      subst e1; subst e2; subst e3
      exact .refl (.tup (by intro x hx; simp at hx; rcases hx with rfl | rfl | rfl; exact .sl (fun _ => rfl) (fils_free _); exact .int; exact .int))
    by_cases hlt : m.pc < com.length
    case neg =>
      have e1 : decide ((m.pc : Int) < (((texts com).length : Nat) : Int)) = false := decide_eq_false (by omega)
      have hq : prog[m.pc]? = none := List.getElem?_eq_none (by omega)
      have hfin : runM fs prog (m.left + 1) m = m := by rw [runM, hq, hd]; rfl
      rw [hfin]
      have hc0 := hC.run hd
      refine pB [.b false] rfl ?_
      exact S_ret ⟨_, _, rfl, trivial, _, rfl, ret rfl (by rw [hc0]; rfl) (by rw [IntWalk.i64_in _ ⟨by omega, by omega⟩]; omega)⟩
    have e1 : decide ((m.pc : Int) < (((texts com).length : Nat) : Int)) = true := decide_eq_true (by omega)
    have g1 : (texts com)[(m.pc : Int).toNat]? = some (.str com[m.pc]) := texts_get hlt
    have hmem := List.getElem_mem hlt
    have hsl := hcs _ hmem
    have hW := WordsOf_ok com[m.pc] (by omega)
    have hln := prog_at hpr m.pc hlt (by omega)
    have hq : prog[m.pc]? = some (prog[m.pc]'(by omega)) := List.getElem?_eq_getElem (by omega)
    have hx := hpo _ (List.getElem_mem (show m.pc < prog.length by omega))
    have hwd := wd_of hln
    have hfin : runM fs prog (m.left + 1) m = runM fs prog m.left (stepM fs (prog[m.pc]'(by omega)) { m with pc := m.pc + 1 }) := by rw [runM, hq, hd]; rfl
    rw [hfin]
    clear hln
    generalize prog[m.pc] = x at *
    generalize com[m.pc] = s at *
    have hwn : ∀ w ∈ x.ws, w.length ≤ 100000 := hx.short
    generalize splitB 32 s = ws at *
    have hst := step_less (fs := fs) (m := { m with pc := m.pc + 1 }) hx
    have hIs := (hI.next (by omega)).step (fs := fs) hx (by omega)
    have hCs := (show CdOk { m with pc := m.pc + 1 } from ⟨hC.run, hC.fuel⟩).step (fs := fs) hd hx
    have hI1 : McI { m with pc := m.pc + 1 } := hI.next (by omega)
    have g2 : (texts ws)[0]? = some (.str x.op) := by cases hwd with | set h e => rw [e]; rfl | other => rfl
    have hpw : IntKind.i64.wrap ((m.pc : Int) + 1) = ((m.pc + 1 : Nat) : Int) := w64 (by omega) (by omega)
    refine pa [.b true, .v (.str s), .v (.sl true false 1 (texts ws)), .v (.str x.op), .s] rfl ?_ ?_
    · (repeat' with_reducible apply AllP_cons) <;> try exact aC
      · exact ⟨_, hW, .cons (.refl .str) (.nil _)⟩
    refine pB [] rfl ?_
    rw [hpw]
    refine S_join (fun fr σ => ∃ (k to : Int) (t p : List UInt8), TlOk fs x { m with pc := m.pc + 1 } k to t p ∧ σ = [(u, some (.cells (texts (regsL m.regs)) ⟨false, none⟩)), (v + 1, some (.cells [.sl true false 1 (texts ws)] ⟨false, none⟩)), (y, none), (z, none)] ∧
      Weak fr [(0, .sl st fl 3 (fils fs)), (1, .sl st' fl' 1 (texts com)), (2, .int .i64 (fu : Nat)), (9, .ms 0 u 0 8 1 false), (10, .sl true false 3 (fils (ovT m.made))), (11, .int .i64 (m.left : Nat)), (12, .int .i64 (m.pc + 1 : Nat)), (14, .ptr 1 (v + 1) 0), (15, .func (.func 68) [] [.ptr 1 (v + 1) 0]), (16, .int .i64 1), (17, .int .i64 k), (18, .int .i64 to), (19, .str t), (20, .str p)]) ?_ ?_
    · clear hfin hst hIs hCs hrun hq
      have fin : ∀ {fr : Fr} {k to : Int} {t p : List UInt8}, True := trivial
      cases hwd with
      | @set c b q h6 hxe =>
        subst hxe
        cases hx with
        | set c1 c2 ct =>
          have hw1 := word_at u (v + 1) y z m.regs (kSet :: [c] :: b :: q) 1 c (by simp) rfl c1 c2
          refine pa [.b true, .k (.int .i64 ((ixR c : Nat) : Int))] rfl ?_ ?_
          · (repeat' with_reducible apply AllP_cons) <;> try exact aC
            all_goals first | exact hw1 | skip
          exact S_inv ⟨0, ((ixR c : Nat) : Int), s.drop 6, [], .set c1 c2 rfl rfl, rfl, (.cons rfl (.cons rfl (.cons rfl (.cons rfl (.cons rfl (.cons rfl (.cons rfl (.cons rfl (.cons rfl (.cons rfl (.cons rfl (.cons rfl (.cons rfl (.cons rfl (.nil _)))))))))))))))⟩
      | other hop =>
        cases hx with
        | set => exact absurd rfl hop
        | @read c p c1 c2 hp =>
          have hw1 := word_at u (v + 1) y z m.regs [kRead, [c], p] 1 c (by simp) rfl c1 c2
          have hAt := FileAt_ok (st := st) (fl := fl) fs p (by have := hTr.len; omega)
          rcases atF_cases fs p with ⟨k1, k2⟩ | ⟨i, hi, k1, k2⟩
          · rw [k1] at hAt
            have hfd : fs.find? (fun f => f.path == p) = none := List.find?_eq_none.2 fun f hf => by simpa using k2 f hf
            refine pa [.b false, .b true, .v (.str p), .v (.int .i64 (-1)), .b true] rfl ?_ ?_
            · (repeat' with_reducible apply AllP_cons) <;> try exact aC
              all_goals first | exact ⟨_, hAt, .cons (filR _) (.cons (.refl .str) (.nil _))⟩ | skip
            exact S_inv ⟨101, -1, [], [], .trip (by show (match fs.find? (fun f => f.path == p) with | none => _ | some f => _) = _; rw [hfd]), rfl, (.cons rfl (.cons rfl (.cons rfl (.cons rfl (.cons rfl (.cons rfl (.cons rfl (.cons rfl (.cons rfl (.cons rfl (.cons rfl (.cons rfl (.cons rfl (.cons rfl (.nil _)))))))))))))))⟩
          · rw [k1] at hAt
            have hfd := find_at k1
            have g3 : (fils fs)[(i : Int).toNat]? = some (filA fs[i]) := fils_get hi
            have e2 : decide ((i : Int) < 0) = false := decide_eq_false (by omega)
            refine pa [.b false, .b true, .v (.str p), .v (.int .i64 (i : Int)), .b false, .k (.int .i64 ((ixR c : Nat) : Int)), .v (filA fs[i])] rfl ?_ ?_
            · (repeat' with_reducible apply AllP_cons) <;> try exact aC
              all_goals first | exact ⟨_, hAt, .cons (filR _) (.cons (.refl .str) (.nil _))⟩ | exact hw1 | skip
            exact S_inv ⟨0, ((ixR c : Nat) : Int), fs[i].text, [], .set c1 c2 rfl (by show (match fs.find? (fun f => f.path == p) with | none => _ | some f => _) = _; rw [hfd hi]; rfl), rfl, (.cons rfl (.cons rfl (.cons rfl (.cons rfl (.cons rfl (.cons rfl (.cons rfl (.cons rfl (.cons rfl (.cons rfl (.cons rfl (.cons rfl (.cons rfl (.cons rfl (.nil _)))))))))))))))⟩
        | @list c p c1 c2 hp =>
          have hw1 := word_at u (v + 1) y z m.regs [kList, [c], p] 1 c (by simp) rfl c1 c2
          have hfl := hTr.len
          have hpl : p.length ≤ 100 := by rcases hp with rfl | hp; decide; exact (path_fst hp).2.1
          refine pa [.b false, .b false, .b true, .k (.int .i64 ((ixR c : Nat) : Int))] rfl ?_ ?_
          · (repeat' with_reducible apply AllP_cons) <;> try exact aC
            all_goals first | exact hw1 | skip
          refine S_while (α := Nat) (fun i => [(0, .sl st fl 3 (fils fs)), (1, .sl st' fl' 1 (texts com)), (2, .int .i64 (fu : Nat)), (9, .ms 0 u 0 8 1 false), (10, .sl true false 3 (fils (ovT m.made))), (11, .int .i64 (m.left : Nat)), (12, .int .i64 (m.pc + 1 : Nat)), (14, .ptr 1 (v + 1) 0), (15, .func (.func 68) [] [.ptr 1 (v + 1) 0]), (16, .int .i64 1), (17, .int .i64 0), (18, .int .i64 ((ixR c : Nat) : Int)), (19, .str (listT (fs.take i) p)), (20, .str []), (22, .int .i64 (i : Nat))]) (fun _ => [(u, some (.cells (texts (regsL m.regs)) ⟨false, none⟩)), (v + 1, some (.cells [.sl true false 1 (texts [kList, [c], p])] ⟨false, none⟩)), (y, none), (z, none)]) (fun i => i ≤ fs.length) (fun i => fs.length - i) 0
            (Nat.zero_le _) (.cons rfl (.cons rfl (.cons rfl (.cons rfl (.cons rfl (.cons rfl (.cons rfl (.cons rfl (.cons rfl (.cons rfl (.cons rfl (.cons rfl (.cons rfl (.cons rfl (.cons rfl (.nil _)))))))))))))))) rfl ?_
          intro i hi
          have hi : i ≤ fs.length := hi
          have hll := listR_len (fs.take i) p (fun f hf => hTr.path f (List.mem_of_mem_take hf))
          rw [List.length_take] at hll
          by_cases hit : i < fs.length
          · have e2 : decide ((i : Int) < (((fils fs).length : Nat) : Int)) = true := decide_eq_true (by omega)
            have g3 : (fils fs)[(i : Int).toNat]? = some (filA fs[i]) := fils_get hit
            have hpt := hTr.path _ (List.getElem_mem hit)
            have hls : listT (fs.take (i + 1)) p = listT (fs.take i) p ++ (if p = [46] ∨ insT p fs[i].path = true then fs[i].path ++ [10] else []) := by
              unfold listT; rw [List.take_succ_eq_append_getElem hit, List.flatMap_append]; simp
            have hN := IsInside_ok p fs[i].path (by omega) (by omega)
            generalize fs[i] = f at *
            by_cases hdot : p = [46]
            · have b1 : (p == [46]) = true := by simpa using hdot
              rw [if_pos (.inl hdot)] at hls
              refine pa [.b true, .v (.str p), .b true, .b true, .v (filA f)] rfl ?_ ?_
              · (repeat' with_reducible apply AllP_cons) <;> try exact aC
                all_goals first | (intro x hx; rw [List.mem_singleton.1 hx]; exact trivial) | (rw [List.length_map]; show ((f.path.length + 1 : Nat) : Int) ≤ 9223372036854775807; omega) | (rw [List.length_append, List.length_map]; show (((listT (fs.take i) p).length + (f.path.length + 1) : Nat) : Int) ≤ 9223372036854775807; omega) | skip
              exact S_round (i + 1) (by show fs.length - (i + 1) < fs.length - i; omega) hit (.cons rfl (.cons rfl (.cons rfl (.cons rfl (.cons rfl (.cons rfl (.cons rfl (.cons rfl (.cons rfl (.cons rfl (.cons rfl (.cons rfl (.cons (by show AV.str (listT (fs.take i) p ++ (f.path ++ [10])) = AV.str (listT (fs.take (i + 1)) p); rw [hls]) (.cons rfl (.cons (ai64 rfl (by omega)) (.nil _)))))))))))))))) rfl
            · have b1 : (p == [46]) = false := by simpa using hdot
              cases hin : insT p f.path with
              | true =>
                rw [if_pos (.inr hin)] at hls
                rw [hin] at hN
                refine pa [.b true, .v (.str p), .b false, .v (.str p), .v (filA f), .v (.bool true), .b true, .v (filA f)] rfl ?_ ?_
                · (repeat' with_reducible apply AllP_cons) <;> try exact aC
                  all_goals first | exact ⟨_, hN, .cons (.refl .str) (.cons (.refl .str) (.nil _))⟩ | (intro x hx; rw [List.mem_singleton.1 hx]; exact trivial) | (rw [List.length_map]; show ((f.path.length + 1 : Nat) : Int) ≤ 9223372036854775807; omega) | (rw [List.length_append, List.length_map]; show (((listT (fs.take i) p).length + (f.path.length + 1) : Nat) : Int) ≤ 9223372036854775807; omega) | skip
                exact S_round (i + 1) (by show fs.length - (i + 1) < fs.length - i; omega) hit (.cons rfl (.cons rfl (.cons rfl (.cons rfl (.cons rfl (.cons rfl (.cons rfl (.cons rfl (.cons rfl (.cons rfl (.cons rfl (.cons rfl (.cons (by show AV.str (listT (fs.take i) p ++ (f.path ++ [10])) = AV.str (listT (fs.take (i + 1)) p); rw [hls]) (.cons rfl (.cons (ai64 rfl (by omega)) (.nil _)))))))))))))))) rfl
              | false =>
                rw [if_neg (by rintro (h | h); exact hdot h; rw [hin] at h; cases h), List.append_nil] at hls
                rw [hin] at hN
                refine pa [.b true, .v (.str p), .b false, .v (.str p), .v (filA f), .v (.bool false), .b false] rfl ?_ ?_
                · (repeat' with_reducible apply AllP_cons) <;> try exact aC
                  all_goals first | exact ⟨_, hN, .cons (.refl .str) (.cons (.refl .str) (.nil _))⟩ | skip
                exact S_round (i + 1) (by show fs.length - (i + 1) < fs.length - i; omega) hit (.cons rfl (.cons rfl (.cons rfl (.cons rfl (.cons rfl (.cons rfl (.cons rfl (.cons rfl (.cons rfl (.cons rfl (.cons rfl (.cons rfl (.cons (by show AV.str (listT (fs.take i) p) = AV.str (listT (fs.take (i + 1)) p); rw [hls]) (.cons rfl (.cons (ai64 rfl (by omega)) (.nil _)))))))))))))))) rfl
          have hil : i = fs.length := by omega
          subst hil
          have e2 : decide ((fs.length : Int) < (((fils fs).length : Nat) : Int)) = false := decide_eq_false (by omega)
          rw [List.take_length]
          refine pB [.b false] rfl ?_
          exact S_inv ⟨0, ((ixR c : Nat) : Int), listT fs p, [], .set c1 c2 rfl rfl, rfl, (.cons rfl (.cons rfl (.cons rfl (.cons rfl (.cons rfl (.cons rfl (.cons rfl (.cons rfl (.cons rfl (.cons rfl (.cons rfl (.cons rfl (.cons rfl (.cons rfl (.nil _)))))))))))))))⟩
        | @join c d c1 c2 d1 d2 =>
          have hw1 := word_at u (v + 1) y z m.regs [kJoin, [c], [d]] 1 c (by simp) rfl c1 c2
          have hw2 := word_at u (v + 1) y z m.regs [kJoin, [c], [d]] 2 d (by simp) rfl d1 d2
          have r1 := regs_get (g := m.regs) c1 c2
          have r2 := regs_get (g := m.regs) d1 d2
          have l1 := hI.ok.len [c]
          have l2 := hI.ok.len [d]
          have i1 := ix_lt c1 c2
          have i2 := ix_lt d1 d2
          refine pa [.b false, .b false, .b false, .b true, .k (.int .i64 ((ixR c : Nat) : Int)), .k (.int .i64 ((ixR c : Nat) : Int)), .v .top, .v (.str (m.regs [c])), .k (.int .i64 ((ixR d : Nat) : Int)), .v .top, .v (.str (m.regs [d]))] rfl ?_ ?_
          · (repeat' with_reducible apply AllP_cons) <;> try exact aC
            all_goals first | exact hw1 | exact hw2 | exact r1 | exact r2 | skip
          exact S_inv ⟨0, ((ixR c : Nat) : Int), m.regs [c] ++ m.regs [d], [], .set c1 c2 rfl rfl, rfl, (.cons rfl (.cons rfl (.cons rfl (.cons rfl (.cons rfl (.cons rfl (.cons rfl (.cons rfl (.cons rfl (.cons rfl (.cons rfl (.cons rfl (.cons rfl (.cons rfl (.nil _)))))))))))))))⟩
        | @cut c w1 w2 i j c1 c2 hv hw =>
          have hw1 := word_at u (v + 1) y z m.regs [kCut, [c], w1, w2] 1 c (by simp) rfl c1 c2
          have r1 := regs_get (g := m.regs) c1 c2
          have l1 := hI.ok.len [c]
          have i1 := ix_lt c1 c2
          have hwl := hwn w1 (by simp)
          have hwl2 := hwn w2 (by simp)
          have hN1 := NumberOf_ok w1 999999 (by omega) (by omega)
          have hN2 := NumberOf_ok w2 999999 (by omega) (by omega)
          have hv1 : numI w1 999999 = (i : Int) := by unfold numI; rw [hv]
          have hv2 : numI w2 999999 = (j : Int) := by unfold numI; rw [hw]
          rw [hv1] at hN1
          rw [hv2] at hN2
          have hil := (numT_le hv).1
          have hjl := (numT_le hw).1
          have hd0 : ((m.regs [c]).take i).drop i = [] := List.drop_eq_nil_of_le (by rw [List.length_take]; omega)
          refine pa [.b false, .b false, .b false, .b false, .b true, .k (.int .i64 ((ixR c : Nat) : Int)), .v (.str w1), .v (.int .i64 (i : Int))] rfl ?_ ?_
          · (repeat' with_reducible apply AllP_cons) <;> try exact aC
            all_goals first | exact hw1 | exact ⟨_, hN1, .cons (.refl .str) (.cons (.refl .int) (.nil _))⟩ | skip
          refine S_while (α := Nat) (fun k => [(0, .sl st fl 3 (fils fs)), (1, .sl st' fl' 1 (texts com)), (2, .int .i64 (fu : Nat)), (9, .ms 0 u 0 8 1 false), (10, .sl true false 3 (fils (ovT m.made))), (11, .int .i64 (m.left : Nat)), (12, .int .i64 (m.pc + 1 : Nat)), (14, .ptr 1 (v + 1) 0), (15, .func (.func 68) [] [.ptr 1 (v + 1) 0]), (16, .int .i64 1), (17, .int .i64 0), (18, .int .i64 ((ixR c : Nat) : Int)), (19, .str (((m.regs [c]).take k).drop i)), (20, .str []), (23, .int .i64 (k : Nat))]) (fun _ => [(u, some (.cells (texts (regsL m.regs)) ⟨false, none⟩)), (v + 1, some (.cells [.sl true false 1 (texts [kCut, [c], w1, w2])] ⟨false, none⟩)), (y, none), (z, none)]) (fun k => i ≤ k ∧ (k = i ∨ k ≤ min (m.regs [c]).length j)) (fun k => 2000000 - k) i
            ⟨Nat.le_refl _, .inl rfl⟩ (.cons rfl (.cons rfl (.cons rfl (.cons rfl (.cons rfl (.cons rfl (.cons rfl (.cons rfl (.cons rfl (.cons rfl (.cons rfl (.cons rfl (.cons (by show AV.str [] = AV.str (((m.regs [c]).take i).drop i); rw [hd0]) (.cons rfl (.cons rfl (.nil _)))))))))))))))) rfl ?_
          rintro k ⟨hk1, hk2⟩
          have hk1 : i ≤ k := hk1
          have hk3 : k ≤ 1100000 := by rcases hk2 with h | h <;> omega
          have fin : (k < j → ¬ k < (m.regs [c]).length) → ((m.regs [c]).take k).drop i = ((m.regs [c]).take (min (m.regs [c]).length j)).drop (min (min (m.regs [c]).length j) i) := fun h => by
            by_cases hij : i < min (m.regs [c]).length j
            · have e : k = min (m.regs [c]).length j := by
                rcases hk2 with h' | h'
                · by_cases hkj : k < j
                  · have := h hkj; omega
                  · omega
                · by_cases hkj : k < j
                  · have := h hkj; omega
                  · omega
              rw [e, Nat.min_eq_right (by omega : i ≤ min (m.regs [c]).length j)]
            · have e : k = i := by rcases hk2 with h' | h' <;> omega
              rw [e, hd0, Nat.min_eq_left (by omega : min (m.regs [c]).length j ≤ i)]
              exact (List.drop_eq_nil_of_le (by rw [List.length_take]; omega)).symm
          by_cases hkj : k < j
          · have e2 : decide ((k : Int) < (j : Int)) = true := decide_eq_true (by omega)
            by_cases hkl : k < (m.regs [c]).length
            · have e3 : decide ((k : Int) < (((m.regs [c]).length : Nat) : Int)) = true := decide_eq_true (by omega)
              have hcw : IntKind.i64.wrap ((k : Int) + 1) = ((k + 1 : Nat) : Int) := w64 (by omega) (by omega)
              have hcu : ((m.regs [c]).take (k + 1)).drop i = ((m.regs [c]).take k).drop i ++ cutL (some (k : Int)) (some (IntKind.i64.wrap ((k : Int) + 1))) (m.regs [c]) := by
                rw [hcw]
                show _ = _ ++ ((m.regs [c]).take ((k + 1 : Nat) : Int).toNat).drop (k : Int).toNat
                rw [Int.toNat_natCast, Int.toNat_natCast, List.take_succ_eq_append_getElem hkl, List.drop_append_of_le_length (by rw [List.length_take]; omega), List.drop_left' (by rw [List.length_take]; omega)]
              have hcl : (cutL (some (k : Int)) (some (IntKind.i64.wrap ((k : Int) + 1))) (m.regs [c])).length ≤ 100000 := by
                show (((m.regs [c]).take _).drop _).length ≤ _
                rw [List.length_drop, List.length_take]; omega
              have htl2 : (((m.regs [c]).take k).drop i).length ≤ 100000 := by rw [List.length_drop, List.length_take]; omega
              refine pa [.v (.str w2), .v (.int .i64 (j : Int)), .b true, .v .top, .v (.str (m.regs [c])), .b true, .v .top, .v (.str (m.regs [c]))] rfl ?_ ?_
              · (repeat' with_reducible apply AllP_cons) <;> try exact aC
                all_goals first | exact ⟨_, hN2, .cons (.refl .str) (.cons (.refl .int) (.nil _))⟩ | exact r1 | (rw [hcw]; omega) | skip
              exact S_round (k + 1) (by show 2000000 - (k + 1) < 2000000 - k; omega) ⟨by omega, .inr (by omega)⟩ (.cons rfl (.cons rfl (.cons rfl (.cons rfl (.cons rfl (.cons rfl (.cons rfl (.cons rfl (.cons rfl (.cons rfl (.cons rfl (.cons rfl (.cons (by show AV.str _ = AV.str (((m.regs [c]).take (k + 1)).drop i); rw [hcu]) (.cons rfl (.cons (ai64 rfl (by omega)) (.nil _)))))))))))))))) rfl
            · have e3 : decide ((k : Int) < (((m.regs [c]).length : Nat) : Int)) = false := decide_eq_false (by omega)
              refine pa [.v (.str w2), .v (.int .i64 (j : Int)), .b true, .v .top, .v (.str (m.regs [c])), .b false] rfl ?_ ?_
              · (repeat' with_reducible apply AllP_cons) <;> try exact aC
                all_goals first | exact ⟨_, hN2, .cons (.refl .str) (.cons (.refl .int) (.nil _))⟩ | exact r1 | skip
              exact S_inv ⟨0, ((ixR c : Nat) : Int), ((m.regs [c]).take k).drop i, [], .set c1 c2 rfl (by rw [fin fun _ => hkl]; rfl), rfl, (.cons rfl (.cons rfl (.cons rfl (.cons rfl (.cons rfl (.cons rfl (.cons rfl (.cons rfl (.cons rfl (.cons rfl (.cons rfl (.cons rfl (.cons rfl (.cons rfl (.nil _)))))))))))))))⟩
          · have e2 : decide ((k : Int) < (j : Int)) = false := decide_eq_false (by omega)
            refine pa [.v (.str w2), .v (.int .i64 (j : Int)), .b false, .b false] rfl ?_ ?_
            · (repeat' with_reducible apply AllP_cons) <;> try exact aC
              all_goals first | exact ⟨_, hN2, .cons (.refl .str) (.cons (.refl .int) (.nil _))⟩ | exact r1 | skip
            exact S_inv ⟨0, ((ixR c : Nat) : Int), ((m.regs [c]).take k).drop i, [], .set c1 c2 rfl (by rw [fin fun h => absurd h hkj]; rfl), rfl, (.cons rfl (.cons rfl (.cons rfl (.cons rfl (.cons rfl (.cons rfl (.cons rfl (.cons rfl (.cons rfl (.cons rfl (.cons rfl (.cons rfl (.cons rfl (.cons rfl (.nil _)))))))))))))))⟩
        | @size c d c1 c2 d1 d2 =>
          have hw1 := word_at u (v + 1) y z m.regs [kSize, [c], [d]] 1 c (by simp) rfl c1 c2
          have hw2 := word_at u (v + 1) y z m.regs [kSize, [c], [d]] 2 d (by simp) rfl d1 d2
          have r2 := regs_get (g := m.regs) d1 d2
          have l2 := hI.ok.len [d]
          have i2 := ix_lt d1 d2
          have hD := DigitsOf_ok _ (m.regs [d]).length rfl (by omega)
          refine pa [.b false, .b false, .b false, .b false, .b false, .b true, .k (.int .i64 ((ixR c : Nat) : Int)), .k (.int .i64 ((ixR d : Nat) : Int)), .v .top, .v (.str (m.regs [d])), .v (.str (digs (m.regs [d]).length))] rfl ?_ ?_
          · (repeat' with_reducible apply AllP_cons) <;> try exact aC
            all_goals first | exact hw1 | exact hw2 | exact r2 | exact ⟨_, hD, .cons (.refl .int) (.nil _)⟩ | skip
          exact S_inv ⟨0, ((ixR c : Nat) : Int), digs (m.regs [d]).length, [], .set c1 c2 rfl rfl, rfl, (.cons rfl (.cons rfl (.cons rfl (.cons rfl (.cons rfl (.cons rfl (.cons rfl (.cons rfl (.cons rfl (.cons rfl (.cons rfl (.cons rfl (.cons rfl (.cons rfl (.nil _)))))))))))))))⟩
        | @sum c c1 c2 =>
          have hw1 := word_at u (v + 1) y z m.regs [kSum, [c]] 1 c (by simp) rfl c1 c2
          have r1 := regs_get (g := m.regs) c1 c2
          have l1 := hI.ok.len [c]
          have i1 := ix_lt c1 c2
          have hD := SumR_ok (m.regs [c]) (by omega)
          refine pa [.b false, .b false, .b false, .b false, .b false, .b false, .b true, .k (.int .i64 ((ixR c : Nat) : Int)), .k (.int .i64 ((ixR c : Nat) : Int)), .v .top, .v (.str (m.regs [c])), .v (.str (sha (m.regs [c])))] rfl ?_ ?_
          · (repeat' with_reducible apply AllP_cons) <;> try exact aC
            all_goals first | exact hw1 | exact r1 | exact ⟨_, hD, .cons (.refl .str) (.nil _)⟩ | skip
          exact S_inv ⟨0, ((ixR c : Nat) : Int), sha (m.regs [c]), [], .set c1 c2 rfl rfl, rfl, (.cons rfl (.cons rfl (.cons rfl (.cons rfl (.cons rfl (.cons rfl (.cons rfl (.cons rfl (.cons rfl (.cons rfl (.cons rfl (.cons rfl (.cons rfl (.cons rfl (.nil _)))))))))))))))⟩
        | @make c p c1 c2 hp =>
          have hw1 := word_at u (v + 1) y z m.regs [kMake, p, [c]] 2 c (by simp) rfl c1 c2
          have r1 := regs_get (g := m.regs) c1 c2
          have l1 := hI.ok.len [c]
          have i1 := ix_lt c1 c2
          have hpl := (path_fst hp).2.1
          have hpn : p ≠ [] := by rintro rfl; exact absurd hp (by decide)
          have hmd := made_dir hI
          have hol := hmd.len
          have hop : ∀ f ∈ ovT m.made, f.path.length ≤ 100 := fun f hf => (path_fst (hmd.path f hf)).2.1
          have hbad := bad_any m.made p
          have hatp := at_made m.made p
          have holk : (ovT m.made).length = (ksP m.made).length := by unfold ovT; rw [List.length_map, (sortT_perm _).length_eq]
          have hnl := fils_len (ovT m.made)
          refine pa [.b false, .b false, .b false, .b false, .b false, .b false, .b false, .b true, .b true, .v (.str p), .k (.int .i64 ((ixR c : Nat) : Int)), .v .top, .v (.str (m.regs [c]))] rfl ?_ ?_
          · (repeat' with_reducible apply AllP_cons) <;> try exact aC
            all_goals first | exact hw1 | exact r1 | skip
          refine S_while (α := Nat) (fun i => [(0, .sl st fl 3 (fils fs)), (1, .sl st' fl' 1 (texts com)), (2, .int .i64 (fu : Nat)), (9, .ms 0 u 0 8 1 false), (10, .sl true false 3 (fils (ovT m.made))), (11, .int .i64 (m.left : Nat)), (12, .int .i64 (m.pc + 1 : Nat)), (14, .ptr 1 (v + 1) 0), (15, .func (.func 68) [] [.ptr 1 (v + 1) 0]), (16, .int .i64 1), (17, .int .i64 (if ((ovT m.made).take i).any (hitP p) = true then 103 else 0)), (18, .int .i64 (-1)), (19, .str (m.regs [c])), (20, .str p), (24, .int .i64 (i : Nat))]) (fun _ => [(u, some (.cells (texts (regsL m.regs)) ⟨false, none⟩)), (v + 1, some (.cells [.sl true false 1 (texts [kMake, p, [c]])] ⟨false, none⟩)), (y, none), (z, none)]) (fun i => i ≤ (ovT m.made).length) (fun i => (ovT m.made).length - i) 0
            (Nat.zero_le _) (.cons rfl (.cons rfl (.cons rfl (.cons rfl (.cons rfl (.cons rfl (.cons rfl (.cons rfl (.cons rfl (.cons rfl (.cons rfl (.cons rfl (.cons rfl (.cons rfl (.cons rfl (.nil _)))))))))))))))) rfl ?_
          intro i hi
          have hi : i ≤ (ovT m.made).length := hi
          by_cases hit : i < (ovT m.made).length
          · have e2 : decide ((i : Int) < (((fils (ovT m.made)).length : Nat) : Int)) = true := decide_eq_true (by omega)
            have g3 : (fils (ovT m.made))[(i : Int).toNat]? = some (filA (ovT m.made)[i]) := fils_get hit
            have hpt := hop _ (List.getElem_mem hit)
            have hls : ((ovT m.made).take (i + 1)).any (hitP p) = (((ovT m.made).take i).any (hitP p) || hitP p (ovT m.made)[i]) := by
              rw [List.take_succ_eq_append_getElem hit, List.any_append]; simp
            have hN1 := IsInside_ok (ovT m.made)[i].path p (by omega) (by omega)
            have hN2 := IsInside_ok p (ovT m.made)[i].path (by omega) (by omega)
            have hh : hitP p (ovT m.made)[i] = (insT (ovT m.made)[i].path p || insT p (ovT m.made)[i].path) := rfl
            generalize (ovT m.made)[i] = f at *
            cases hin1 : insT f.path p with
            | true =>
              rw [hin1] at hN1 hh
              rw [hh] at hls
              refine pa [.b true, .v (filA f), .v (.bool true), .b true, .b true] rfl ?_ ?_
              · (repeat' with_reducible apply AllP_cons) <;> try exact aC
                all_goals first | exact ⟨_, hN1, .cons (.refl .str) (.cons (.refl .str) (.nil _))⟩ | skip
              exact S_round (i + 1) (by show (ovT m.made).length - (i + 1) < (ovT m.made).length - i; omega) hit (.cons rfl (.cons rfl (.cons rfl (.cons rfl (.cons rfl (.cons rfl (.cons rfl (.cons rfl (.cons rfl (.cons rfl (.cons (by show AV.int .i64 103 = AV.int .i64 (if ((ovT m.made).take (i + 1)).any (hitP p) = true then 103 else 0); rw [hls]; simp) (.cons rfl (.cons rfl (.cons rfl (.cons (ai64 rfl (by omega)) (.nil _)))))))))))))))) rfl
            | false =>
              rw [hin1] at hN1 hh
              cases hin2 : insT p f.path with
              | true =>
                rw [hin2] at hN2 hh
                rw [hh] at hls
                refine pa [.b true, .v (filA f), .v (.bool false), .b false, .v (filA f), .v (.bool true), .b true] rfl ?_ ?_
                · (repeat' with_reducible apply AllP_cons) <;> try exact aC
                  all_goals first | exact ⟨_, hN1, .cons (.refl .str) (.cons (.refl .str) (.nil _))⟩ | exact ⟨_, hN2, .cons (.refl .str) (.cons (.refl .str) (.nil _))⟩ | skip
                exact S_round (i + 1) (by show (ovT m.made).length - (i + 1) < (ovT m.made).length - i; omega) hit (.cons rfl (.cons rfl (.cons rfl (.cons rfl (.cons rfl (.cons rfl (.cons rfl (.cons rfl (.cons rfl (.cons rfl (.cons (by show AV.int .i64 103 = AV.int .i64 (if ((ovT m.made).take (i + 1)).any (hitP p) = true then 103 else 0); rw [hls]; simp) (.cons rfl (.cons rfl (.cons rfl (.cons (ai64 rfl (by omega)) (.nil _)))))))))))))))) rfl
              | false =>
                rw [hin2] at hN2 hh
                rw [hh] at hls
                refine pa [.b true, .v (filA f), .v (.bool false), .b false, .v (filA f), .v (.bool false), .b false] rfl ?_ ?_
                · (repeat' with_reducible apply AllP_cons) <;> try exact aC
                  all_goals first | exact ⟨_, hN1, .cons (.refl .str) (.cons (.refl .str) (.nil _))⟩ | exact ⟨_, hN2, .cons (.refl .str) (.cons (.refl .str) (.nil _))⟩ | skip
                exact S_round (i + 1) (by show (ovT m.made).length - (i + 1) < (ovT m.made).length - i; omega) hit (.cons rfl (.cons rfl (.cons rfl (.cons rfl (.cons rfl (.cons rfl (.cons rfl (.cons rfl (.cons rfl (.cons rfl (.cons (by show AV.int .i64 (if ((ovT m.made).take i).any (hitP p) = true then 103 else 0) = AV.int .i64 (if ((ovT m.made).take (i + 1)).any (hitP p) = true then 103 else 0); rw [hls]; simp) (.cons rfl (.cons rfl (.cons rfl (.cons (ai64 rfl (by omega)) (.nil _)))))))))))))))) rfl
          have hil : i = (ovT m.made).length := by omega
          subst hil
          have e2 : decide ((((ovT m.made).length : Nat) : Int) < (((fils (ovT m.made)).length : Nat) : Int)) = false := decide_eq_false (by omega)
          rw [List.take_length, hbad]
          have hAt := FileAt_ok (st := true) (fl := false) (ovT m.made) p (by omega)
          by_cases hpk : p ∈ ksP m.made
          · obtain ⟨j, hj⟩ := hatp.1 hpk
            rw [hj] at hAt
            have e3 : decide ((j : Int) < 0) = false := decide_eq_false (by omega)
            refine pa [.b false, .v (.int .i64 (j : Int)), .b false, .b false] rfl ?_ ?_
            · (repeat' with_reducible apply AllP_cons) <;> try exact aC
              all_goals first | exact ⟨_, hAt, .cons (filR _) (.cons (.refl .str) (.nil _))⟩ | skip
            exact S_inv ⟨_, -1, m.regs [c], p, .make hpn l1 rfl (by
              by_cases hb : badM p m.made = true
              · rw [if_pos hb]; exact (if_pos (.inl hb)).symm
              · rw [if_neg hb]; exact (if_neg (by rintro (h | h); exact hb h; exact h.1 hpk)).symm) rfl, rfl, (.cons rfl (.cons rfl (.cons rfl (.cons rfl (.cons rfl (.cons rfl (.cons rfl (.cons rfl (.cons rfl (.cons rfl (.cons rfl (.cons rfl (.cons rfl (.cons rfl (.nil _)))))))))))))))⟩
          · have hj := hatp.2 hpk
            rw [hj] at hAt
            by_cases h60 : (ksP m.made).length = 60
            · have e4 : ((((fils (ovT m.made)).length : Nat) : Int) == 60) = true := by rw [hnl, holk, h60]; rfl
              refine pa [.b false, .v (.int .i64 (-1)), .b true, .b true] rfl ?_ ?_
              · (repeat' with_reducible apply AllP_cons) <;> try exact aC
                all_goals first | exact ⟨_, hAt, .cons (filR _) (.cons (.refl .str) (.nil _))⟩ | skip
              exact S_inv ⟨103, -1, m.regs [c], p, .make hpn l1 rfl (if_pos (.inr ⟨hpk, h60⟩)).symm rfl, rfl, (.cons rfl (.cons rfl (.cons rfl (.cons rfl (.cons rfl (.cons rfl (.cons rfl (.cons rfl (.cons rfl (.cons rfl (.cons rfl (.cons rfl (.cons rfl (.cons rfl (.nil _)))))))))))))))⟩
            · have e4 : ((((fils (ovT m.made)).length : Nat) : Int) == 60) = false := by rw [hnl, holk]; simpa using fun h => h60 (by omega)
              refine pa [.b false, .v (.int .i64 (-1)), .b true, .b false] rfl ?_ ?_
              · (repeat' with_reducible apply AllP_cons) <;> try exact aC
                all_goals first | exact ⟨_, hAt, .cons (filR _) (.cons (.refl .str) (.nil _))⟩ | skip
              exact S_inv ⟨_, -1, m.regs [c], p, .make hpn l1 rfl (by
                by_cases hb : badM p m.made = true
                · rw [if_pos hb]; exact (if_pos (.inl hb)).symm
                · rw [if_neg hb]; exact (if_neg (by rintro (h | h); exact hb h; exact h60 h.2)).symm) rfl, rfl, (.cons rfl (.cons rfl (.cons rfl (.cons rfl (.cons rfl (.cons rfl (.cons rfl (.cons rfl (.cons rfl (.cons rfl (.cons rfl (.cons rfl (.cons rfl (.cons rfl (.nil _)))))))))))))))⟩
        | @run c p c1 c2 hp =>
          have hw1 := word_at u (v + 1) y z m.regs [kRun, p, [c]] 2 c (by simp) rfl c1 c2
          have r1 := regs_get (g := m.regs) c1 c2
          have l1 := hI.ok.len [c]
          have i1 := ix_lt c1 c2
          have hpl := (path_fst hp).2.1
          have hpn : p ≠ [] := by rintro rfl; exact absurd hp (by decide)
          have hmd := made_dir hI
          have hol := hmd.len
          have hop : ∀ f ∈ ovT m.made, f.path.length ≤ 100 := fun f hf => (path_fst (hmd.path f hf)).2.1
          have hbad := bad_any m.made p
          have hatp := at_made m.made p
          have holk : (ovT m.made).length = (ksP m.made).length := by unfold ovT; rw [List.length_map, (sortT_perm _).length_eq]
          have hnl := fils_len (ovT m.made)
          refine pa [.b false, .b false, .b false, .b false, .b false, .b false, .b false, .b false, .b true, .v (.str p), .k (.int .i64 ((ixR c : Nat) : Int)), .v .top, .v (.str (m.regs [c]))] rfl ?_ ?_
          · (repeat' with_reducible apply AllP_cons) <;> try exact aC
            all_goals first | exact hw1 | exact r1 | skip
          refine S_while (α := Nat) (fun i => [(0, .sl st fl 3 (fils fs)), (1, .sl st' fl' 1 (texts com)), (2, .int .i64 (fu : Nat)), (9, .ms 0 u 0 8 1 false), (10, .sl true false 3 (fils (ovT m.made))), (11, .int .i64 (m.left : Nat)), (12, .int .i64 (m.pc + 1 : Nat)), (14, .ptr 1 (v + 1) 0), (15, .func (.func 68) [] [.ptr 1 (v + 1) 0]), (16, .int .i64 1), (17, .int .i64 (if ((ovT m.made).take i).any (hitP p) = true then 103 else 0)), (18, .int .i64 (-1)), (19, .str (m.regs [c])), (20, .str p), (24, .int .i64 (i : Nat))]) (fun _ => [(u, some (.cells (texts (regsL m.regs)) ⟨false, none⟩)), (v + 1, some (.cells [.sl true false 1 (texts [kRun, p, [c]])] ⟨false, none⟩)), (y, none), (z, none)]) (fun i => i ≤ (ovT m.made).length) (fun i => (ovT m.made).length - i) 0
            (Nat.zero_le _) (.cons rfl (.cons rfl (.cons rfl (.cons rfl (.cons rfl (.cons rfl (.cons rfl (.cons rfl (.cons rfl (.cons rfl (.cons rfl (.cons rfl (.cons rfl (.cons rfl (.cons rfl (.nil _)))))))))))))))) rfl ?_
          intro i hi
          have hi : i ≤ (ovT m.made).length := hi
          by_cases hit : i < (ovT m.made).length
          · have e2 : decide ((i : Int) < (((fils (ovT m.made)).length : Nat) : Int)) = true := decide_eq_true (by omega)
            have g3 : (fils (ovT m.made))[(i : Int).toNat]? = some (filA (ovT m.made)[i]) := fils_get hit
            have hpt := hop _ (List.getElem_mem hit)
            have hls : ((ovT m.made).take (i + 1)).any (hitP p) = (((ovT m.made).take i).any (hitP p) || hitP p (ovT m.made)[i]) := by
              rw [List.take_succ_eq_append_getElem hit, List.any_append]; simp
            have hN1 := IsInside_ok (ovT m.made)[i].path p (by omega) (by omega)
            have hN2 := IsInside_ok p (ovT m.made)[i].path (by omega) (by omega)
            have hh : hitP p (ovT m.made)[i] = (insT (ovT m.made)[i].path p || insT p (ovT m.made)[i].path) := rfl
            generalize (ovT m.made)[i] = f at *
            cases hin1 : insT f.path p with
            | true =>
              rw [hin1] at hN1 hh
              rw [hh] at hls
              refine pa [.b true, .v (filA f), .v (.bool true), .b true, .b true] rfl ?_ ?_
              · (repeat' with_reducible apply AllP_cons) <;> try exact aC
                all_goals first | exact ⟨_, hN1, .cons (.refl .str) (.cons (.refl .str) (.nil _))⟩ | skip
              exact S_round (i + 1) (by show (ovT m.made).length - (i + 1) < (ovT m.made).length - i; omega) hit (.cons rfl (.cons rfl (.cons rfl (.cons rfl (.cons rfl (.cons rfl (.cons rfl (.cons rfl (.cons rfl (.cons rfl (.cons (by show AV.int .i64 103 = AV.int .i64 (if ((ovT m.made).take (i + 1)).any (hitP p) = true then 103 else 0); rw [hls]; simp) (.cons rfl (.cons rfl (.cons rfl (.cons (ai64 rfl (by omega)) (.nil _)))))))))))))))) rfl
            | false =>
              rw [hin1] at hN1 hh
              cases hin2 : insT p f.path with
              | true =>
                rw [hin2] at hN2 hh
                rw [hh] at hls
                refine pa [.b true, .v (filA f), .v (.bool false), .b false, .v (filA f), .v (.bool true), .b true] rfl ?_ ?_
                · (repeat' with_reducible apply AllP_cons) <;> try exact aC
                  all_goals first | exact ⟨_, hN1, .cons (.refl .str) (.cons (.refl .str) (.nil _))⟩ | exact ⟨_, hN2, .cons (.refl .str) (.cons (.refl .str) (.nil _))⟩ | skip
                exact S_round (i + 1) (by show (ovT m.made).length - (i + 1) < (ovT m.made).length - i; omega) hit (.cons rfl (.cons rfl (.cons rfl (.cons rfl (.cons rfl (.cons rfl (.cons rfl (.cons rfl (.cons rfl (.cons rfl (.cons (by show AV.int .i64 103 = AV.int .i64 (if ((ovT m.made).take (i + 1)).any (hitP p) = true then 103 else 0); rw [hls]; simp) (.cons rfl (.cons rfl (.cons rfl (.cons (ai64 rfl (by omega)) (.nil _)))))))))))))))) rfl
              | false =>
                rw [hin2] at hN2 hh
                rw [hh] at hls
                refine pa [.b true, .v (filA f), .v (.bool false), .b false, .v (filA f), .v (.bool false), .b false] rfl ?_ ?_
                · (repeat' with_reducible apply AllP_cons) <;> try exact aC
                  all_goals first | exact ⟨_, hN1, .cons (.refl .str) (.cons (.refl .str) (.nil _))⟩ | exact ⟨_, hN2, .cons (.refl .str) (.cons (.refl .str) (.nil _))⟩ | skip
                exact S_round (i + 1) (by show (ovT m.made).length - (i + 1) < (ovT m.made).length - i; omega) hit (.cons rfl (.cons rfl (.cons rfl (.cons rfl (.cons rfl (.cons rfl (.cons rfl (.cons rfl (.cons rfl (.cons rfl (.cons (by show AV.int .i64 (if ((ovT m.made).take i).any (hitP p) = true then 103 else 0) = AV.int .i64 (if ((ovT m.made).take (i + 1)).any (hitP p) = true then 103 else 0); rw [hls]; simp) (.cons rfl (.cons rfl (.cons rfl (.cons (ai64 rfl (by omega)) (.nil _)))))))))))))))) rfl
          have hil : i = (ovT m.made).length := by omega
          subst hil
          have e2 : decide ((((ovT m.made).length : Nat) : Int) < (((fils (ovT m.made)).length : Nat) : Int)) = false := decide_eq_false (by omega)
          rw [List.take_length, hbad]
          have hAt := FileAt_ok (st := true) (fl := false) (ovT m.made) p (by omega)
          by_cases hpk : p ∈ ksP m.made
          · obtain ⟨j, hj⟩ := hatp.1 hpk
            rw [hj] at hAt
            have e3 : decide ((j : Int) < 0) = false := decide_eq_false (by omega)
            refine pa [.b false, .v (.int .i64 (j : Int)), .b false, .b false] rfl ?_ ?_
            · (repeat' with_reducible apply AllP_cons) <;> try exact aC
              all_goals first | exact ⟨_, hAt, .cons (filR _) (.cons (.refl .str) (.nil _))⟩ | skip
            exact S_inv ⟨_, -1, m.regs [c], p, .make hpn l1 rfl (by
              by_cases hb : badM p m.made = true
              · rw [if_pos hb]; exact (if_pos (.inl hb)).symm
              · rw [if_neg hb]; exact (if_neg (by rintro (h | h); exact hb h; exact h.1 hpk)).symm) rfl, rfl, (.cons rfl (.cons rfl (.cons rfl (.cons rfl (.cons rfl (.cons rfl (.cons rfl (.cons rfl (.cons rfl (.cons rfl (.cons rfl (.cons rfl (.cons rfl (.cons rfl (.nil _)))))))))))))))⟩
          · have hj := hatp.2 hpk
            rw [hj] at hAt
            by_cases h60 : (ksP m.made).length = 60
            · have e4 : ((((fils (ovT m.made)).length : Nat) : Int) == 60) = true := by rw [hnl, holk, h60]; rfl
              refine pa [.b false, .v (.int .i64 (-1)), .b true, .b true] rfl ?_ ?_
              · (repeat' with_reducible apply AllP_cons) <;> try exact aC
                all_goals first | exact ⟨_, hAt, .cons (filR _) (.cons (.refl .str) (.nil _))⟩ | skip
              exact S_inv ⟨103, -1, m.regs [c], p, .make hpn l1 rfl (if_pos (.inr ⟨hpk, h60⟩)).symm rfl, rfl, (.cons rfl (.cons rfl (.cons rfl (.cons rfl (.cons rfl (.cons rfl (.cons rfl (.cons rfl (.cons rfl (.cons rfl (.cons rfl (.cons rfl (.cons rfl (.cons rfl (.nil _)))))))))))))))⟩
            · have e4 : ((((fils (ovT m.made)).length : Nat) : Int) == 60) = false := by rw [hnl, holk]; simpa using fun h => h60 (by omega)
              refine pa [.b false, .v (.int .i64 (-1)), .b true, .b false] rfl ?_ ?_
              · (repeat' with_reducible apply AllP_cons) <;> try exact aC
                all_goals first | exact ⟨_, hAt, .cons (filR _) (.cons (.refl .str) (.nil _))⟩ | skip
              exact S_inv ⟨_, -1, m.regs [c], p, .make hpn l1 rfl (by
                by_cases hb : badM p m.made = true
                · rw [if_pos hb]; exact (if_pos (.inl hb)).symm
                · rw [if_neg hb]; exact (if_neg (by rintro (h | h); exact hb h; exact h60 h.2)).symm) rfl, rfl, (.cons rfl (.cons rfl (.cons rfl (.cons rfl (.cons rfl (.cons rfl (.cons rfl (.cons rfl (.cons rfl (.cons rfl (.cons rfl (.cons rfl (.cons rfl (.cons rfl (.nil _)))))))))))))))⟩
        | same =>
          refine pB [.b false, .b false, .b false, .b false, .b false, .b false, .b false, .b false, .b false] rfl ?_
          exact S_inv ⟨0, -1, [], [], .jump (.inl rfl), rfl, (.cons rfl (.cons rfl (.cons rfl (.cons rfl (.cons rfl (.cons rfl (.cons rfl (.cons rfl (.cons rfl (.cons rfl (.cons rfl (.cons rfl (.cons rfl (.cons rfl (.nil _)))))))))))))))⟩
        | less =>
          refine pB [.b false, .b false, .b false, .b false, .b false, .b false, .b false, .b false, .b false] rfl ?_
          exact S_inv ⟨0, -1, [], [], .jump (.inr (.inl rfl)), rfl, (.cons rfl (.cons rfl (.cons rfl (.cons rfl (.cons rfl (.cons rfl (.cons rfl (.cons rfl (.cons rfl (.cons rfl (.cons rfl (.cons rfl (.cons rfl (.cons rfl (.nil _)))))))))))))))⟩
        | goto =>
          refine pB [.b false, .b false, .b false, .b false, .b false, .b false, .b false, .b false, .b false] rfl ?_
          exact S_inv ⟨0, -1, [], [], .jump (.inr (.inr (.inl rfl))), rfl, (.cons rfl (.cons rfl (.cons rfl (.cons rfl (.cons rfl (.cons rfl (.cons rfl (.cons rfl (.cons rfl (.cons rfl (.cons rfl (.cons rfl (.cons rfl (.cons rfl (.nil _)))))))))))))))⟩
        | exit =>
          refine pB [.b false, .b false, .b false, .b false, .b false, .b false, .b false, .b false, .b false] rfl ?_
          exact S_inv ⟨0, -1, [], [], .jump (.inr (.inr (.inr rfl))), rfl, (.cons rfl (.cons rfl (.cons rfl (.cons rfl (.cons rfl (.cons rfl (.cons rfl (.cons rfl (.cons rfl (.cons rfl (.cons rfl (.cons rfl (.cons rfl (.cons rfl (.nil _)))))))))))))))⟩
    · have rdone : ∀ z : Mc, stepM fs x { m with pc := m.pc + 1 } = z → z.done = true → runM fs prog m.left (stepM fs x { m with pc := m.pc + 1 }) = z := fun z h h' => by rw [h, runM_done h']
      have rnext : ∀ z : Mc, stepM fs x { m with pc := m.pc + 1 } = z → z.done = false → z.left < m.left ∧ McI z ∧ CdOk z ∧ z.done = false ∧ z.left ≤ fu ∧ runM fs prog m.left (stepM fs x { m with pc := m.pc + 1 }) = runM fs prog (z.left + 1) z := fun z h h' => by
        rw [h] at hst hIs hCs ⊢
        have hl : z.left < m.left := by
          rcases hst with ⟨k, _⟩ | k
          · rw [h'] at k; cases k
          · exact k
        exact ⟨hl, hIs, hCs, h', by omega, runM_fuel hpo _ _ hl⟩
      clear hst hIs hCs
      have hlw : 1 ≤ m.left → IntKind.i64.wrap ((m.left : Int) - 1) = ((m.left - 1 : Nat) : Int) := fun h => by rw [IntWalk.i64_in _ ⟨by omega, by omega⟩]; omega
      have spent : ∀ l : Nat, l ≤ m.left → IntKind.i64.wrap ((fu : Int) - (l : Int)) = ((fu - l : Nat) : Int) := fun l h => by rw [IntWalk.i64_in _ ⟨by omega, by omega⟩]; omega
      rintro fr σ ⟨k, to, t, p, hT, rfl, hwk⟩
      refine S_code_weak hwk ?_
      clear hwk
      have f1 : ∀ n : Nat, decide ((n : Int) ≥ 0) = true := fun n => decide_eq_true (by omega)
      cases hT with
      | trip he =>
        by_cases hl : m.left < 1
        · have hz : stepM fs x { m with pc := m.pc + 1 } = endM 104 { m with pc := m.pc + 1, left := 0 } := by rw [he]; unfold tripM; rw [if_pos hl]
          rw [rdone _ hz rfl]
          have e2 : decide ((m.left : Int) < 1) = true := decide_eq_true (by omega)
          refine pB [.b false, .b false, .b false, .b false, .b true] rfl ?_
          exact S_ret ⟨_, _, rfl, trivial, _, rfl, ret rfl rfl rfl⟩
        · have hz : stepM fs x { m with pc := m.pc + 1 } = endM 101 { m with pc := m.pc + 1, left := m.left - 1 } := by rw [he]; unfold tripM; rw [if_neg hl]
          rw [rdone _ hz rfl]
          have e2 : decide ((m.left : Int) < 1) = false := decide_eq_false (by omega)
          refine pB [.b false, .b false, .b false, .b false, .b false, .b true] rfl ?_
          exact S_ret ⟨_, _, rfl, trivial, _, rfl, ret rfl rfl (by rw [hlw (by omega)]; exact spent _ (by omega))⟩
      | @set c t h1 h2 hn he =>
        have hcost : t.length ≤ 100000 → IntKind.i64.wrap (1 + IntKind.i64.wrap ((t.length : Int).tdiv 16)) = ((1 + t.length / 16 : Nat) : Int) := fun h => by
          have hd : (t.length : Int).tdiv 16 = ((t.length / 16 : Nat) : Int) := by rw [Int.tdiv_eq_ediv_of_nonneg (by omega)]; omega
          rw [hd, IntWalk.i64_in ((t.length / 16 : Nat) : Int) ⟨by omega, by omega⟩, IntWalk.i64_in _ ⟨by omega, by omega⟩]; omega
        have fix := f1 (ixR c)
        by_cases ht : 100000 < t.length
        · have e2 : decide ((t.length : Int) > 100000) = true := decide_eq_true (by omega)
          have he2 : stepM fs x { m with pc := m.pc + 1 } = tripM 102 { m with pc := m.pc + 1 } := by rw [he]; unfold setM keepM; rw [if_pos ht]
          by_cases hl : m.left < 1
          · have hz : stepM fs x { m with pc := m.pc + 1 } = endM 104 { m with pc := m.pc + 1, left := 0 } := by rw [he2]; unfold tripM; rw [if_pos hl]
            rw [rdone _ hz rfl]
            have e3 : decide ((m.left : Int) < 1) = true := decide_eq_true (by omega)
            refine pB [.b true, .b true, .b false, .b false, .b true] rfl ?_
            exact S_ret ⟨_, _, rfl, trivial, _, rfl, ret rfl rfl rfl⟩
          · have hz : stepM fs x { m with pc := m.pc + 1 } = endM 102 { m with pc := m.pc + 1, left := m.left - 1 } := by rw [he2]; unfold tripM; rw [if_neg hl]
            rw [rdone _ hz rfl]
            have e3 : decide ((m.left : Int) < 1) = false := decide_eq_false (by omega)
            refine pB [.b true, .b true, .b false, .b false, .b false, .b true] rfl ?_
            exact S_ret ⟨_, _, rfl, trivial, _, rfl, ret rfl rfl (by rw [hlw (by omega)]; exact spent _ (by omega))⟩
        · have e2 : decide ((t.length : Int) > 100000) = false := decide_eq_false (by omega)
          have hcost := hcost (by omega)
          by_cases hl : m.left < 1 + t.length / 16
          · have hz : stepM fs x { m with pc := m.pc + 1 } = endM 104 { m with pc := m.pc + 1, left := 0 } := by rw [he]; unfold setM keepM; rw [if_neg ht, if_pos hl]
            rw [rdone _ hz rfl]
            have e3 : decide ((m.left : Int) < IntKind.i64.wrap (1 + IntKind.i64.wrap ((t.length : Int).tdiv 16))) = true := by rw [hcost]; exact decide_eq_true (by omega)
            refine pB [.b true, .b false, .b true, .b true, .b true, .b true] rfl ?_
            exact S_ret ⟨_, _, rfl, trivial, _, rfl, ret rfl rfl rfl⟩
          · have hz : stepM fs x { m with pc := m.pc + 1 } = { m with pc := m.pc + 1, left := m.left - (1 + t.length / 16), regs := updT m.regs [c] t, ks := addK m.ks [c] } := by rw [he]; unfold setM keepM; rw [if_neg ht, if_neg hl]
            obtain ⟨n1, n2, n3, n4, n5, n6⟩ := rnext _ hz hd
            have e3 : decide ((m.left : Int) < IntKind.i64.wrap (1 + IntKind.i64.wrap ((t.length : Int).tdiv 16))) = false := by rw [hcost]; exact decide_eq_false (by omega)
            have r1 := regs_set (g := m.regs) (t := t) h1 h2
            have i1 := ix_lt h1 h2
            obtain ⟨j1, j2, j3, j4⟩ := nojump hn
            have hlf : IntKind.i64.wrap ((m.left : Int) - IntKind.i64.wrap (1 + IntKind.i64.wrap ((t.length : Int).tdiv 16))) = ((m.left - (1 + t.length / 16) : Nat) : Int) := by rw [hcost, IntWalk.i64_in _ ⟨by omega, by omega⟩]; omega
            refine pB [.b true, .b false, .b true, .b true, .b true, .b false, .b false, .b true, .v .top, .b false, .v (.str x.op), .s] rfl ?_
            refine S_drop (id := 1) rfl ?_ ⟨.skip, _, .inr ⟨_, _, _, rfl⟩⟩
            refine pa [.b false, .b false, .b false, .b false] rfl ?_ ?_
            · (repeat' with_reducible apply AllP_cons) <;> try exact aC
              all_goals first | exact j1 | exact j2 | exact j3 | exact j4 | skip
            exact S_round ({ m with pc := m.pc + 1, left := m.left - (1 + t.length / 16), regs := updT m.regs [c] t, ks := addK m.ks [c] }, u, v + 1, y, z) n1 ⟨n2, n3, n4, n5, n6⟩ (.cons rfl (.cons rfl (.cons rfl (.cons rfl (.cons (rfl) (.cons (by show AV.int .i64 _ = AV.int .i64 ((m.left - (1 + t.length / 16) : Nat) : Int); rw [← hlf]) (.cons (rfl) (.nil _)))))))) (by
              show _ = [(u, some (Box.cells (texts (regsL (updT m.regs [c] t))) _)), _, _, _]
              rw [← r1]; rfl)
      | @make p t k hp ht hn hk he =>
        have hpb : (p != []) = true := by simpa using hp
        have hcost : IntKind.i64.wrap (1 + IntKind.i64.wrap ((t.length : Int).tdiv 16)) = ((1 + t.length / 16 : Nat) : Int) := by
          have hd : (t.length : Int).tdiv 16 = ((t.length / 16 : Nat) : Int) := by rw [Int.tdiv_eq_ediv_of_nonneg (by omega)]; omega
          rw [hd, IntWalk.i64_in ((t.length / 16 : Nat) : Int) ⟨by omega, by omega⟩, IntWalk.i64_in _ ⟨by omega, by omega⟩]; omega
        by_cases hb : badM p m.made = true ∨ p ∉ ksP m.made ∧ (ksP m.made).length = 60
        · rw [if_pos hb] at hk
          subst hk
          have he2 : stepM fs x { m with pc := m.pc + 1 } = tripM 103 { m with pc := m.pc + 1 } := by rw [he]; unfold makeM; rw [if_pos hb]
          by_cases hl : m.left < 1
          · have hz : stepM fs x { m with pc := m.pc + 1 } = endM 104 { m with pc := m.pc + 1, left := 0 } := by rw [he2]; unfold tripM; rw [if_pos hl]
            rw [rdone _ hz rfl]
            have e2 : decide ((m.left : Int) < 1) = true := decide_eq_true (by omega)
            refine pB [.b false, .b false, .b false, .b false, .b true] rfl ?_
            exact S_ret ⟨_, _, rfl, trivial, _, rfl, ret rfl rfl rfl⟩
          · have hz : stepM fs x { m with pc := m.pc + 1 } = endM 103 { m with pc := m.pc + 1, left := m.left - 1 } := by rw [he2]; unfold tripM; rw [if_neg hl]
            rw [rdone _ hz rfl]
            have e2 : decide ((m.left : Int) < 1) = false := decide_eq_false (by omega)
            refine pB [.b false, .b false, .b false, .b false, .b false, .b true] rfl ?_
            exact S_ret ⟨_, _, rfl, trivial, _, rfl, ret rfl rfl (by rw [hlw (by omega)]; exact spent _ (by omega))⟩
        · rw [if_neg hb] at hk
          subst hk
          have ht' : ¬ 100000 < t.length := by omega
          by_cases hl : m.left < 1 + t.length / 16
          · have hz : stepM fs x { m with pc := m.pc + 1 } = endM 104 { m with pc := m.pc + 1, left := 0 } := by rw [he]; unfold makeM; rw [if_neg hb]; unfold keepM; rw [if_neg ht', if_pos hl]
            rw [rdone _ hz rfl]
            have e3 : decide ((m.left : Int) < IntKind.i64.wrap (1 + IntKind.i64.wrap ((t.length : Int).tdiv 16))) = true := by rw [hcost]; exact decide_eq_true (by omega)
            refine pB [.b false, .b false, .b true, .b false, .b true, .b true] rfl ?_
            exact S_ret ⟨_, _, rfl, trivial, _, rfl, ret rfl rfl rfl⟩
          · have hz : stepM fs x { m with pc := m.pc + 1 } = { m with pc := m.pc + 1, left := m.left - (1 + t.length / 16), made := m.made ++ [⟨p, t, x.op == kRun⟩] } := by rw [he]; unfold makeM; rw [if_neg hb]; unfold keepM; rw [if_neg ht', if_neg hl]
            obtain ⟨n1, n2, n3, n4, n5, n6⟩ := rnext _ hz hd
            have e3 : decide ((m.left : Int) < IntKind.i64.wrap (1 + IntKind.i64.wrap ((t.length : Int).tdiv 16))) = false := by rw [hcost]; exact decide_eq_false (by omega)
            obtain ⟨j1, j2, j3, j4⟩ := nojump hn
            have hlf : IntKind.i64.wrap ((m.left : Int) - IntKind.i64.wrap (1 + IntKind.i64.wrap ((t.length : Int).tdiv 16))) = ((m.left - (1 + t.length / 16) : Nat) : Int) := by rw [hcost, IntWalk.i64_in _ ⟨by omega, by omega⟩]; omega
            have hstp := step_ov m.made ⟨p, t, x.op == kRun⟩
            have hol := (made_dir hI).len
            have hAt := FileAt_ok (st := true) (fl := false) (ovT m.made) p (by omega)
            have hAd := AddFile_ok (st := true) (fl := false) (ovT m.made) ⟨p, t, x.op == kRun⟩ (by omega)
            rcases atF_step (ovT m.made) ⟨p, t, x.op == kRun⟩ with ⟨k1, k2⟩ | ⟨i, hi, k1, k2⟩
            · have k1 : atF (ovT m.made) p = -1 := k1
              rw [k1] at hAt
              rw [k2] at hstp
              refine pa [.b false, .b false, .b true, .b false, .b true, .b false, .b false, .b false, .b true, .v (.str x.op), .v (.int .i64 (-1)), .b false, .v (.sl true false 3 (fils (addF (ovT m.made) ⟨p, t, x.op == kRun⟩))), .v (.str x.op), .s] rfl ?_ ?_
              · (repeat' with_reducible apply AllP_cons) <;> try exact aC
                all_goals first | exact ⟨_, hAt, .cons (filR _) (.cons (.refl .str) (.nil _))⟩ | exact ⟨_, hAd, .cons (filR _) (.cons (.refl (filA_free ⟨p, t, x.op == kRun⟩)) (.nil _))⟩ | skip
              refine S_drop (id := 1) rfl ?_ ⟨.skip, _, .inr ⟨_, _, _, rfl⟩⟩
              refine S_drop (id := 2) rfl ?_ ⟨.skip, _, .inr ⟨_, _, _, rfl⟩⟩
              refine pa [.b false, .b false, .b false, .b false] rfl ?_ ?_
              · (repeat' with_reducible apply AllP_cons) <;> try exact aC
                all_goals first | exact j1 | exact j2 | exact j3 | exact j4 | skip
              exact S_round ({ m with pc := m.pc + 1, left := m.left - (1 + t.length / 16), made := m.made ++ [⟨p, t, x.op == kRun⟩] }, u, v + 1, y + 1, z) n1 ⟨n2, n3, n4, n5, n6⟩ (.cons rfl (.cons rfl (.cons rfl (.cons rfl (.cons (by show _ = AV.sl true false 3 (fils (ovT (m.made ++ [⟨p, t, x.op == kRun⟩]))); rw [← hstp]; rfl) (.cons (by show AV.int .i64 _ = AV.int .i64 ((m.left - (1 + t.length / 16) : Nat) : Int); rw [← hlf]) (.cons (rfl) (.nil _)))))))) rfl
            · have k1 : atF (ovT m.made) p = (i : Int) := k1
              rw [k1] at hAt
              rw [k2] at hstp
              have hno := fils_len (ovT m.made)
              have e5 : decide ((i : Int) ≥ 0) = true := decide_eq_true (by omega)
              have hbx : setRange ([] ++ flatA 3 (fils (ovT m.made))) (offN 0 (mulN (i : Int).toNat 3)) [.str p, .str t, .bool (x.op == kRun)] = celsF ((ovT m.made).set i ⟨p, t, x.op == kRun⟩) := by rw [List.nil_append, flat_fils]; exact cels_set (f := ⟨p, t, x.op == kRun⟩) hi
              refine pa [.b false, .b false, .b true, .b false, .b true, .b false, .b false, .b false, .b true, .v (.str x.op), .v (.int .i64 (i : Int)), .b true, .v .top, .v (.str x.op), .s] rfl ?_ ?_
              · (repeat' with_reducible apply AllP_cons) <;> try exact aC
                all_goals first | exact ⟨_, hAt, .cons (filR _) (.cons (.refl .str) (.nil _))⟩ | exact flat_one _ | exact .inr rfl | (show (0 + (fils (ovT m.made)).length) * 40 ≤ 140737488355328; omega) | (show offN 0 (mulN (i : Int).toNat 3) + 3 ≤ ([] ++ flatA 3 (fils (ovT m.made))).length; rw [List.nil_append, flat_fils, cels_off, cels_len]; omega) | skip
              refine S_freezeS (t := 10) (fils ((ovT m.made).set i ⟨p, t, x.op == kRun⟩)) hB rfl rfl ?_ ?_ (fil_size _) ?_ ⟨.skip, _, .inr ⟨_, _, _, rfl⟩⟩ ?_
              · show 0 + (0 + (fils (ovT m.made)).length) * 3 ≤ (setRange ([] ++ flatA 3 (fils (ovT m.made))) (offN 0 (mulN (i : Int).toNat 3)) [.str p, .str t, .bool (x.op == kRun)]).length
                rw [hbx, cels_len, List.length_set, hno]; omega
              · show ((setRange ([] ++ flatA 3 (fils (ovT m.made))) (offN 0 (mulN (i : Int).toNat 3)) [.str p, .str t, .bool (x.op == kRun)]).drop 0).take ((0 + (fils (ovT m.made)).length) * 3) = _
                rw [hbx, List.drop_zero]; exact List.take_of_length_le (by rw [cels_len, List.length_set, hno]; omega)
              · show (fils ((ovT m.made).set i ⟨p, t, x.op == kRun⟩)).length = 0 + (fils (ovT m.made)).length
                rw [fils_len, List.length_set, hno]; omega
              refine S_drop (id := 1) rfl ?_ ⟨.skip, _, .inr ⟨_, _, _, rfl⟩⟩
              refine S_drop (id := 2) rfl ?_ ⟨.skip, _, .inr ⟨_, _, _, rfl⟩⟩
              refine pa [.b false, .b false, .b false, .b false] rfl ?_ ?_
              · (repeat' with_reducible apply AllP_cons) <;> try exact aC
                all_goals first | exact j1 | exact j2 | exact j3 | exact j4 | skip
              exact S_round ({ m with pc := m.pc + 1, left := m.left - (1 + t.length / 16), made := m.made ++ [⟨p, t, x.op == kRun⟩] }, u, v + 1, y + 1, z + 1) n1 ⟨n2, n3, n4, n5, n6⟩ (.cons rfl (.cons rfl (.cons rfl (.cons rfl (.cons (by show AV.sl true false 3 _ = AV.sl true false 3 (fils (ovT (m.made ++ [⟨p, t, x.op == kRun⟩]))); rw [← hstp]) (.cons (by show AV.int .i64 _ = AV.int .i64 ((m.left - (1 + t.length / 16) : Nat) : Int); rw [← hlf]) (.cons (rfl) (.nil _)))))))) rfl
      | jump hj =>
        by_cases hl : m.left < 1
        · have hz : stepM fs x { m with pc := m.pc + 1 } = endM 104 { m with pc := m.pc + 1, left := 0 } := by
            cases hx with
            | same => show jumpM _ _ _ = _; unfold jumpM; rw [if_pos hl]
            | less => show jumpM _ _ _ = _; unfold jumpM; rw [if_pos hl]
            | goto => show jumpM _ _ _ = _; unfold jumpM; rw [if_pos hl]
            | exit => show exitM _ _ = _; unfold exitM; rw [if_pos hl]
            | _ => simp [kSet, kRead, kList, kJoin, kCut, kSize, kSum, kMake, kRun, kSame, kLess, kGoto, kExit] at hj
          rw [rdone _ hz rfl]
          have e2 : decide ((m.left : Int) < 1) = true := decide_eq_true (by omega)
          refine pB [.b false, .b false, .b true, .b false, .b false, .b true] rfl ?_
          exact S_ret ⟨_, _, rfl, trivial, _, rfl, ret rfl rfl rfl⟩
        have e2 : decide ((m.left : Int) < 1) = false := decide_eq_false (by omega)
        have hlf := hlw (by omega)
        cases hwd with
        | set h6 hxe => rw [hxe] at hj; simp [kSet, kRead, kList, kJoin, kCut, kSize, kSum, kMake, kRun, kSame, kLess, kGoto, kExit] at hj
        | other hop =>
        cases hx with
        | @same c d w j c1 c2 d1 d2 hw =>
          have hw1 := word_at u (v + 1) y z m.regs [kSame, [c], [d], w] 1 c (by simp) rfl c1 c2
          have hw2 := word_at u (v + 1) y z m.regs [kSame, [c], [d], w] 2 d (by simp) rfl d1 d2
          have r1 := regs_get (g := m.regs) c1 c2
          have r2 := regs_get (g := m.regs) d1 d2
          have i1 := ix_lt c1 c2
          have i2 := ix_lt d1 d2
          have hN := num60 (by omega) hw
          have hz0 : stepM fs ⟨kSame, [[c], [d], w], [0, 0, j]⟩ { m with pc := m.pc + 1 } = jumpM ((m.regs [c] == m.regs [d])) j { m with pc := m.pc + 1 } := rfl
          refine pa [.b false, .b false, .b true, .b false, .b false, .b false, .b false, .b false, .b false, .v (.str kSame), .b true, .k (.int .i64 ((ixR c : Nat) : Int)), .v .top, .v (.str (m.regs [c])), .k (.int .i64 ((ixR d : Nat) : Int)), .v .top, .v (.str (m.regs [d]))] rfl ?_ ?_
          · (repeat' with_reducible apply AllP_cons) <;> try exact aC
            all_goals first | exact hw1 | exact hw2 | exact r1 | exact r2 | skip
          cases hcv : (m.regs [c] == m.regs [d]) with
          | true =>
            have hz : stepM fs ⟨kSame, [[c], [d], w], [0, 0, j]⟩ { m with pc := m.pc + 1 } = { m with pc := j, left := m.left - 1 } := by rw [hz0, hcv]; unfold jumpM; rw [if_neg hl]; rfl
            obtain ⟨n1, n2, n3, n4, n5, n6⟩ := rnext _ hz hd
            refine pa [.b true, .v (.str w), .v (.int .i64 (j : Int)), .s] rfl ?_ ?_
            · (repeat' with_reducible apply AllP_cons) <;> try exact aC
              all_goals first | exact ⟨_, hN, .cons (.refl .str) (.cons (.refl .int) (.nil _))⟩ | exact hcv | skip
            refine S_drop (id := 1) rfl ?_ ⟨.skip, _, .inr ⟨_, _, _, rfl⟩⟩
            refine pB [] rfl ?_
            exact S_round ({ m with pc := j, left := m.left - 1 }, u, v + 1, y, z) n1 ⟨n2, n3, n4, n5, n6⟩ (.cons rfl (.cons rfl (.cons rfl (.cons rfl (.cons (rfl) (.cons (by show AV.int .i64 _ = AV.int .i64 ((m.left - 1 : Nat) : Int); rw [← hlf]) (.cons (rfl) (.nil _)))))))) rfl
          | false =>
            have hz : stepM fs ⟨kSame, [[c], [d], w], [0, 0, j]⟩ { m with pc := m.pc + 1 } = { m with pc := m.pc + 1, left := m.left - 1 } := by rw [hz0, hcv]; unfold jumpM; rw [if_neg hl]; rfl
            obtain ⟨n1, n2, n3, n4, n5, n6⟩ := rnext _ hz hd
            refine S_drop (id := 1) rfl ?_ ⟨_, _, .inl rfl⟩
            refine pa [.b false] rfl ?_ ?_
            · (repeat' with_reducible apply AllP_cons) <;> try exact aC
              all_goals first | exact hcv | skip
            exact S_round ({ m with pc := m.pc + 1, left := m.left - 1 }, u, v + 1, y, z) n1 ⟨n2, n3, n4, n5, n6⟩ (.cons rfl (.cons rfl (.cons rfl (.cons rfl (.cons (rfl) (.cons (by show AV.int .i64 _ = AV.int .i64 ((m.left - 1 : Nat) : Int); rw [← hlf]) (.cons (rfl) (.nil _)))))))) rfl
        | @less c d w j c1 c2 d1 d2 hw =>
          have hw1 := word_at u (v + 1) y z m.regs [kLess, [c], [d], w] 1 c (by simp) rfl c1 c2
          have hw2 := word_at u (v + 1) y z m.regs [kLess, [c], [d], w] 2 d (by simp) rfl d1 d2
          have r1 := regs_get (g := m.regs) c1 c2
          have r2 := regs_get (g := m.regs) d1 d2
          have i1 := ix_lt c1 c2
          have i2 := ix_lt d1 d2
          have hN := num60 (by omega) hw
          have hz0 : stepM fs ⟨kLess, [[c], [d], w], [0, 0, j]⟩ { m with pc := m.pc + 1 } = jumpM (Op.bytesLess (m.regs [c]) (m.regs [d])) j { m with pc := m.pc + 1 } := rfl
          refine pa [.b false, .b false, .b true, .b false, .b false, .b false, .b false, .b false, .b false, .v (.str kLess), .b false, .b true, .k (.int .i64 ((ixR c : Nat) : Int)), .v .top, .v (.str (m.regs [c])), .k (.int .i64 ((ixR d : Nat) : Int)), .v .top, .v (.str (m.regs [d]))] rfl ?_ ?_
          · (repeat' with_reducible apply AllP_cons) <;> try exact aC
            all_goals first | exact hw1 | exact hw2 | exact r1 | exact r2 | skip
          cases hcv : Op.bytesLess (m.regs [c]) (m.regs [d]) with
          | true =>
            have hz : stepM fs ⟨kLess, [[c], [d], w], [0, 0, j]⟩ { m with pc := m.pc + 1 } = { m with pc := j, left := m.left - 1 } := by rw [hz0, hcv]; unfold jumpM; rw [if_neg hl]; rfl
            obtain ⟨n1, n2, n3, n4, n5, n6⟩ := rnext _ hz hd
            refine pa [.b true, .v (.str w), .v (.int .i64 (j : Int)), .s] rfl ?_ ?_
            · (repeat' with_reducible apply AllP_cons) <;> try exact aC
              all_goals first | exact ⟨_, hN, .cons (.refl .str) (.cons (.refl .int) (.nil _))⟩ | exact hcv | skip
            refine S_drop (id := 1) rfl ?_ ⟨.skip, _, .inr ⟨_, _, _, rfl⟩⟩
            refine pB [] rfl ?_
            exact S_round ({ m with pc := j, left := m.left - 1 }, u, v + 1, y, z) n1 ⟨n2, n3, n4, n5, n6⟩ (.cons rfl (.cons rfl (.cons rfl (.cons rfl (.cons (rfl) (.cons (by show AV.int .i64 _ = AV.int .i64 ((m.left - 1 : Nat) : Int); rw [← hlf]) (.cons (rfl) (.nil _)))))))) rfl
          | false =>
            have hz : stepM fs ⟨kLess, [[c], [d], w], [0, 0, j]⟩ { m with pc := m.pc + 1 } = { m with pc := m.pc + 1, left := m.left - 1 } := by rw [hz0, hcv]; unfold jumpM; rw [if_neg hl]; rfl
            obtain ⟨n1, n2, n3, n4, n5, n6⟩ := rnext _ hz hd
            refine S_drop (id := 1) rfl ?_ ⟨_, _, .inl rfl⟩
            refine pa [.b false] rfl ?_ ?_
            · (repeat' with_reducible apply AllP_cons) <;> try exact aC
              all_goals first | exact hcv | skip
            exact S_round ({ m with pc := m.pc + 1, left := m.left - 1 }, u, v + 1, y, z) n1 ⟨n2, n3, n4, n5, n6⟩ (.cons rfl (.cons rfl (.cons rfl (.cons rfl (.cons (rfl) (.cons (by show AV.int .i64 _ = AV.int .i64 ((m.left - 1 : Nat) : Int); rw [← hlf]) (.cons (rfl) (.nil _)))))))) rfl
        | @goto w j hw =>
          have hz : stepM fs ⟨kGoto, [w], [j]⟩ { m with pc := m.pc + 1 } = { m with pc := j, left := m.left - 1 } := by show jumpM true j _ = _; unfold jumpM; rw [if_neg hl]; rfl
          obtain ⟨n1, n2, n3, n4, n5, n6⟩ := rnext _ hz hd
          have hN := num60 (by omega) hw
          refine pa [.b false, .b false, .b true, .b false, .b false, .b false, .b false, .b false, .b false, .v (.str kGoto), .b false, .b false, .b true, .v (.str w), .v (.int .i64 (j : Int)), .s] rfl ?_ ?_
          · (repeat' with_reducible apply AllP_cons) <;> try exact aC
            all_goals first | exact ⟨_, hN, .cons (.refl .str) (.cons (.refl .int) (.nil _))⟩ | skip
          refine S_drop (id := 1) rfl ?_ ⟨.skip, _, .inr ⟨_, _, _, rfl⟩⟩
          refine pB [] rfl ?_
          exact S_round ({ m with pc := j, left := m.left - 1 }, u, v + 1, y, z) n1 ⟨n2, n3, n4, n5, n6⟩ (.cons rfl (.cons rfl (.cons rfl (.cons rfl (.cons (rfl) (.cons (by show AV.int .i64 _ = AV.int .i64 ((m.left - 1 : Nat) : Int); rw [← hlf]) (.cons (rfl) (.nil _)))))))) rfl
        | @exit w j hw =>
          have hz : stepM fs ⟨kExit, [w], [j]⟩ { m with pc := m.pc + 1 } = endM j { m with pc := m.pc + 1, left := m.left - 1 } := by show exitM j _ = _; unfold exitM; rw [if_neg hl]
          rw [rdone _ hz rfl]
          have hN := NumberOf_ok w 99 (by have := hwn w (by simp); omega) (by omega)
          have hv : numI w 99 = (j : Int) := by unfold numI; rw [hw]
          rw [hv] at hN
          refine pa [.b false, .b false, .b true, .b false, .b false, .b false, .b false, .b false, .b false, .v (.str kExit), .b false, .b false, .b false, .b true, .v (.str w), .v (.int .i64 (j : Int))] rfl ?_ ?_
          · (repeat' with_reducible apply AllP_cons) <;> try exact aC
            all_goals first | exact ⟨_, hN, .cons (.refl .str) (.cons (.refl .int) (.nil _))⟩ | skip
          exact S_ret ⟨_, _, rfl, trivial, _, rfl, ret rfl rfl (by rw [hlw (by omega)]; exact spent _ (by omega))⟩
        | _ => simp [kSet, kRead, kList, kJoin, kCut, kSize, kSum, kMake, kRun, kSame, kLess, kGoto, kExit] at hj
end Go.Proofs.YtgmakmfdjhgjlaaGreatDoor
end
section
set_option linter.unusedVariables false
set_option linter.unusedSimpArgs false
set_option maxRecDepth 20000
set_option maxHeartbeats 4000000
namespace Go.Proofs.YtgmakmfdjhgjlaaGreatDoor
open Go Go.Ab
theorem split_le (c : UInt8) : ∀ (s : List UInt8), ∀ x ∈ splitB c s, x.length ≤ s.length
  | [], x, hx => by
    have hx : x ∈ [[]] := hx
    rw [List.mem_singleton.1 hx]; exact Nat.le_refl _
  | a :: s, x, hx => by
    have ih := split_le c s
    rw [splitB] at hx
    split at hx
    · rcases List.mem_cons.1 hx with rfl | h
      · exact Nat.zero_le _
      · have := ih x h; simp; omega
    · cases hq : splitB c s with
      | nil => exact absurd hq (splitB_ne _ _)
      | cons h t =>
        rw [hq] at hx ih
        have hx : x ∈ (a :: h) :: t := hx
        rcases List.mem_cons.1 hx with rfl | hm
        · have := ih h (List.mem_cons_self ..); simp; omega
        · have := ih x (List.mem_cons_of_mem _ hm); simp; omega
def okW (c : UInt8) (a : List UInt8) (L : Nat) : Bool := (wordT c a L).isSome
def chkW (L : Nat) : List UInt8 → List (List UInt8) → Bool
  | [], [] => true
  | c :: f, a :: r => okW c a L && chkW L f r
  | _, _ => false
theorem words_chk (L : Nat) : ∀ (f : List UInt8) (r : List (List UInt8)), (wordsT L f r).isSome = chkW L f r
  | [], [] => rfl
  | [], _ :: _ => rfl
  | _ :: _, [] => rfl
  | c :: f, a :: r => by
    rw [wordsT, chkW, ← words_chk L f r, okW]
    cases wordT c a L with
    | none => rfl
    | some n => cases wordsT L f r <;> rfl
theorem chk_len {L : Nat} : ∀ {f : List UInt8} {r : List (List UInt8)}, r.length ≠ f.length → chkW L f r = false
  | [], [], h => absurd rfl h
  | [], _ :: _, _ => rfl
  | _ :: _, [], _ => rfl
  | c :: f, a :: r, h => by
    rw [chkW, chk_len (f := f) (r := r) (fun e => h (by simp [e]))]; simp
theorem right_chk {L : Nat} {w f : List UInt8} {r : List (List UInt8)} (h : formT' w = some f) (h1 : f ≠ [114, 116]) : rightW L w r = chkW L f r := by
  unfold rightW; rw [h]
  show (if f = [114, 116] then _ else _) = _
  rw [if_neg h1, words_chk]
theorem okW_r (a : List UInt8) (L : Nat) : okW 114 a L = regB a := by
  unfold okW wordT; rw [if_pos rfl]; cases regB a <;> rfl
theorem okW_p (a : List UInt8) (L : Nat) : okW 112 a L = isPathB a := by
  unfold okW wordT; rw [if_neg (by decide), if_pos rfl]; cases isPathB a <;> rfl
theorem okW_d (a : List UInt8) (L : Nat) : okW 100 a L = (a == [46] || isPathB a) := by
  unfold okW wordT; rw [if_neg (by decide), if_neg (by decide), if_pos rfl]; cases (a == [46] || isPathB a) <;> rfl
theorem okW_n (a : List UInt8) (L : Nat) : okW 110 a L = (numT a 999999).isSome := by
  unfold okW wordT; rw [if_neg (by decide), if_neg (by decide), if_neg (by decide), if_pos rfl]
theorem okW_l (a : List UInt8) (L : Nat) : okW 108 a L = (numT a L).isSome := by
  unfold okW wordT; rw [if_neg (by decide), if_neg (by decide), if_neg (by decide), if_neg (by decide), if_pos rfl]
theorem okW_e (a : List UInt8) (L : Nat) : okW 101 a L = (numT a 99).isSome := by
  unfold okW wordT; rw [if_neg (by decide), if_neg (by decide), if_neg (by decide), if_neg (by decide), if_neg (by decide), if_pos rfl]
theorem RightLine_ok (L : Nat) (s : List UInt8) (hs : s.length ≤ 1000000) (hL : L ≤ 1000000) : Calc cx 24 [.str s, .int .i64 (L : Nat)] (.bool (lnOf L s).isSome) :=
  pure_intro (fun a w => Tryz.call24 a w) Tryz.func24 rfl Tryz.ntmps24 rfl .bool fun B => by
    rw [right_ln]
    have hW := WordsOf_ok s (by omega)
    have hle := split_le 32 s
    have hcl := split_len 32 s
    obtain ⟨r, hr⟩ : ∃ r, splitB 32 s = fst32 s :: r := ⟨_, split_fst32 s⟩
    have e0 : rightW L (fst32 s) (splitB 32 s).tail = rightW L (fst32 s) r := by rw [hr]; rfl
    rw [e0]
    rw [hr] at hW hle hcl
    clear e0 hr
    generalize fst32 s = w at *
    have hrl : r.length ≤ 1000000 := by have : s.count 32 ≤ s.length := List.count_le_length; simp at hcl; omega
    have htl : (texts (w :: r)).length = r.length + 1 := by simp [texts]
    have hn : IntKind.i64.wrap ((((texts (w :: r)).length : Nat) : Int) - 1) = (r.length : Int) := by rw [htl]; exact w64 (by omega) (by omega)
    have hlr : ∀ x ∈ r, x.length ≤ 1000000 := fun x hx => by have := hle x (List.mem_cons_of_mem _ hx); omega
    clear hle
    have kR : ∀ (q : List (List UInt8)) (i : Nat) (x : List UInt8) (h : i < (w :: q).length) (hx : (w :: q)[i] = x) (hm : x ∈ r) (tg : Tag), CallOk cx 37 ([] ++ [.int .i64 (i : Int)] ++ [.ptr 0 0 0]) [(0, some (.cells [.sl true false 1 (texts (w :: q))] tg))]
      (fun o σ => o = .ret (.bool (regB x)) ∧ σ = [(0, some (.cells [.sl true false 1 (texts (w :: q))] tg))]) := fun q i x h hx hm tg => reg_at (w :: q) i x h hx (by have := hlr x hm; omega)
    by_cases hkSet : w = kSet
    · subst hkSet
      by_cases hk : 2 ≤ r.length
      case neg =>
        have e1 : decide (IntKind.i64.wrap ((((texts (kSet :: r)).length : Nat) : Int) - 1) ≥ 2) = false := by rw [hn]; exact decide_eq_false (by omega)
        have ev : rightW L kSet r = false := by match r, hk with | [], _ => rfl | [_], _ => rfl | _ :: _ :: _, h => exact absurd (by simp) h
        refine pa [.v (.sl true false 1 (texts (kSet :: r))), .v (.str kSet), .b true, .b false] rfl ?_ ?_
        · (repeat' with_reducible apply AllP_cons) <;> try exact aC
          · exact ⟨_, hW, .cons (.refl .str) (.nil _)⟩
        exact S_retc .bool rfl trivial (by show AV.bool false = _; rw [ev])
      match r, hk, hn, htl, hW, hlr, kR with
      | a :: b :: q, _, hn, htl, hW, hlr, kR =>
        have e1 : decide (IntKind.i64.wrap ((((texts (kSet :: a :: b :: q)).length : Nat) : Int) - 1) ≥ 2) = true := by rw [hn]; exact decide_eq_true (by simp; omega)
        have q1 := fun tg => kR (a :: b :: q) 1 a (by simp) rfl (by simp) tg
        refine pa [.v (.sl true false 1 (texts (kSet :: a :: b :: q))), .v (.str kSet), .b true, .b true, .k (.bool (regB a))] rfl ?_ ?_
        · (repeat' with_reducible apply AllP_cons) <;> try exact aC
          all_goals first | exact ⟨_, hW, .cons (.refl .str) (.nil _)⟩ | exact q1 _ | skip
        exact S_retc .bool rfl trivial rfl
    by_cases hkRead : w = kRead
    · subst hkRead
      have ev : ∀ q, rightW L kRead q = chkW L [114, 112] q := fun q => right_chk rfl (by decide)
      by_cases hk : r.length = 2
      case neg =>
        have e1 : (IntKind.i64.wrap ((((texts (kRead :: r)).length : Nat) : Int) - 1) == 2) = false := by rw [hn]; simpa using fun h => hk (by omega)
        have ev : rightW L kRead r = false := by rw [ev]; exact chk_len hk
        refine pa [.v (.sl true false 1 (texts (kRead :: r))), .v (.str kRead), .b false, .b true, .b false, .b false] rfl ?_ ?_
        · (repeat' with_reducible apply AllP_cons) <;> try exact aC
          · exact ⟨_, hW, .cons (.refl .str) (.nil _)⟩
        exact S_retc .bool rfl trivial (by show AV.bool false = _; rw [ev])
      match r, hk, hn, htl, hW, hlr, kR with
      | [a, b], _, hn, htl, hW, hlr, kR =>
        have e1 : (IntKind.i64.wrap ((((texts (kRead :: [a, b])).length : Nat) : Int) - 1) == 2) = true := by rw [hn]; rfl
        have ev := ev [a, b]
        have x0 := fun (x : List UInt8) (hx : x ∈ [a, b]) => hlr x hx
        have q0 := fun tg => kR [a, b] 1 a (by simp) rfl (by simp) tg
        have q1 := IsPath_ok b (by have := x0 b (by simp); omega)
        cases hv0 : regB a with
        | false =>
          simp only [hv0] at q0
          refine pa [.v (.sl true false 1 (texts (kRead :: [a, b]))), .v (.str kRead), .b false, .b true, .b true, .k (.bool false), .b false] rfl ?_ ?_
          · (repeat' with_reducible apply AllP_cons) <;> try exact aC
            all_goals first | exact ⟨_, hW, .cons (.refl .str) (.nil _)⟩ | exact q0 _ | exact ⟨_, q1, .cons (.refl .str) (.nil _)⟩ | skip
          exact S_retc .bool rfl trivial (by show AV.bool false = _; rw [ev]; simp [chkW, okW_r, okW_p, okW_d, okW_n, okW_l, okW_e, hv0])
        | true =>
          simp only [hv0] at q0
          refine pa [.v (.sl true false 1 (texts (kRead :: [a, b]))), .v (.str kRead), .b false, .b true, .b true, .k (.bool true), .b true, .v (.str b), .v (.bool (isPathB b))] rfl ?_ ?_
          · (repeat' with_reducible apply AllP_cons) <;> try exact aC
            all_goals first | exact ⟨_, hW, .cons (.refl .str) (.nil _)⟩ | exact q0 _ | exact ⟨_, q1, .cons (.refl .str) (.nil _)⟩ | skip
          exact S_retc .bool rfl trivial (by show AV.bool (isPathB b) = _; rw [ev]; simp [chkW, okW_r, okW_p, okW_d, okW_n, okW_l, okW_e, hv0])
    by_cases hkList : w = kList
    · subst hkList
      have ev : ∀ q, rightW L kList q = chkW L [114, 100] q := fun q => right_chk rfl (by decide)
      by_cases hk : r.length = 2
      case neg =>
        have e1 : (IntKind.i64.wrap ((((texts (kList :: r)).length : Nat) : Int) - 1) == 2) = false := by rw [hn]; simpa using fun h => hk (by omega)
        have ev : rightW L kList r = false := by rw [ev]; exact chk_len hk
        refine pa [.v (.sl true false 1 (texts (kList :: r))), .v (.str kList), .b false, .b false, .b true, .b false, .b false] rfl ?_ ?_
        · (repeat' with_reducible apply AllP_cons) <;> try exact aC
          · exact ⟨_, hW, .cons (.refl .str) (.nil _)⟩
        exact S_retc .bool rfl trivial (by show AV.bool false = _; rw [ev])
      match r, hk, hn, htl, hW, hlr, kR with
      | [a, b], _, hn, htl, hW, hlr, kR =>
        have e1 : (IntKind.i64.wrap ((((texts (kList :: [a, b])).length : Nat) : Int) - 1) == 2) = true := by rw [hn]; rfl
        have ev := ev [a, b]
        have x0 := fun (x : List UInt8) (hx : x ∈ [a, b]) => hlr x hx
        have q0 := fun tg => kR [a, b] 1 a (by simp) rfl (by simp) tg
        have q1 := IsPath_ok b (by have := x0 b (by simp); omega)
        cases hv0 : regB a with
        | false =>
          simp only [hv0] at q0
          refine pa [.v (.sl true false 1 (texts (kList :: [a, b]))), .v (.str kList), .b false, .b false, .b true, .b true, .k (.bool false), .b false] rfl ?_ ?_
          · (repeat' with_reducible apply AllP_cons) <;> try exact aC
            all_goals first | exact ⟨_, hW, .cons (.refl .str) (.nil _)⟩ | exact q0 _ | exact ⟨_, q1, .cons (.refl .str) (.nil _)⟩ | skip
          exact S_retc .bool rfl trivial (by show AV.bool false = _; rw [ev]; simp [chkW, okW_r, okW_p, okW_d, okW_n, okW_l, okW_e, hv0])
        | true =>
          simp only [hv0] at q0
          by_cases hdot : b = [46]
          · have hd1 : (b == [46]) = true := by simpa using hdot
            refine pa [.v (.sl true false 1 (texts (kList :: [a, b]))), .v (.str kList), .b false, .b false, .b true, .b true, .k (.bool true), .b true, .v (.str b), .b true] rfl ?_ ?_
            · (repeat' with_reducible apply AllP_cons) <;> try exact aC
              all_goals first | exact ⟨_, hW, .cons (.refl .str) (.nil _)⟩ | exact q0 _ | exact ⟨_, q1, .cons (.refl .str) (.nil _)⟩ | skip
            exact S_retc .bool rfl trivial (by show AV.bool true = _; rw [ev]; simp [chkW, okW_r, okW_p, okW_d, okW_n, okW_l, okW_e, hv0, hdot])
          · have hd0 : (b == [46]) = false := by simpa using hdot
            refine pa [.v (.sl true false 1 (texts (kList :: [a, b]))), .v (.str kList), .b false, .b false, .b true, .b true, .k (.bool true), .b true, .v (.str b), .b false, .v (.str b), .v (.bool (isPathB b))] rfl ?_ ?_
            · (repeat' with_reducible apply AllP_cons) <;> try exact aC
              all_goals first | exact ⟨_, hW, .cons (.refl .str) (.nil _)⟩ | exact q0 _ | exact ⟨_, q1, .cons (.refl .str) (.nil _)⟩ | skip
            exact S_retc .bool rfl trivial (by show AV.bool (isPathB b) = _; rw [ev]; simp [chkW, okW_r, okW_p, okW_d, okW_n, okW_l, okW_e, hv0, hdot])
    by_cases hkJoin : w = kJoin
    · subst hkJoin
      have ev : ∀ q, rightW L kJoin q = chkW L [114, 114] q := fun q => right_chk rfl (by decide)
      by_cases hk : r.length = 2
      case neg =>
        have e1 : (IntKind.i64.wrap ((((texts (kJoin :: r)).length : Nat) : Int) - 1) == 2) = false := by rw [hn]; simpa using fun h => hk (by omega)
        have ev : rightW L kJoin r = false := by rw [ev]; exact chk_len hk
        refine pa [.v (.sl true false 1 (texts (kJoin :: r))), .v (.str kJoin), .b false, .b false, .b false, .b true, .b true, .b false, .b false] rfl ?_ ?_
        · (repeat' with_reducible apply AllP_cons) <;> try exact aC
          · exact ⟨_, hW, .cons (.refl .str) (.nil _)⟩
        exact S_retc .bool rfl trivial (by show AV.bool false = _; rw [ev])
      match r, hk, hn, htl, hW, hlr, kR with
      | [a, b], _, hn, htl, hW, hlr, kR =>
        have e1 : (IntKind.i64.wrap ((((texts (kJoin :: [a, b])).length : Nat) : Int) - 1) == 2) = true := by rw [hn]; rfl
        have ev := ev [a, b]
        have x0 := fun (x : List UInt8) (hx : x ∈ [a, b]) => hlr x hx
        have q0 := fun tg => kR [a, b] 1 a (by simp) rfl (by simp) tg
        have q1 := fun tg => kR [a, b] 2 b (by simp) rfl (by simp) tg
        cases hv0 : regB a with
        | false =>
          simp only [hv0] at q0
          refine pa [.v (.sl true false 1 (texts (kJoin :: [a, b]))), .v (.str kJoin), .b false, .b false, .b false, .b true, .b true, .b true, .k (.bool false), .b false] rfl ?_ ?_
          · (repeat' with_reducible apply AllP_cons) <;> try exact aC
            all_goals first | exact ⟨_, hW, .cons (.refl .str) (.nil _)⟩ | exact q0 _ | exact q1 _ | skip
          exact S_retc .bool rfl trivial (by show AV.bool false = _; rw [ev]; simp [chkW, okW_r, okW_p, okW_d, okW_n, okW_l, okW_e, hv0])
        | true =>
          simp only [hv0] at q0
          refine pa [.v (.sl true false 1 (texts (kJoin :: [a, b]))), .v (.str kJoin), .b false, .b false, .b false, .b true, .b true, .b true, .k (.bool true), .b true, .k (.bool (regB b))] rfl ?_ ?_
          · (repeat' with_reducible apply AllP_cons) <;> try exact aC
            all_goals first | exact ⟨_, hW, .cons (.refl .str) (.nil _)⟩ | exact q0 _ | exact q1 _ | skip
          exact S_retc .bool rfl trivial (by show AV.bool (regB b) = _; rw [ev]; simp [chkW, okW_r, okW_p, okW_d, okW_n, okW_l, okW_e, hv0])
    by_cases hkSize : w = kSize
    · subst hkSize
      have ev : ∀ q, rightW L kSize q = chkW L [114, 114] q := fun q => right_chk rfl (by decide)
      by_cases hk : r.length = 2
      case neg =>
        have e1 : (IntKind.i64.wrap ((((texts (kSize :: r)).length : Nat) : Int) - 1) == 2) = false := by rw [hn]; simpa using fun h => hk (by omega)
        have ev : rightW L kSize r = false := by rw [ev]; exact chk_len hk
        refine pa [.v (.sl true false 1 (texts (kSize :: r))), .v (.str kSize), .b false, .b false, .b false, .b false, .b true, .b false, .b false] rfl ?_ ?_
        · (repeat' with_reducible apply AllP_cons) <;> try exact aC
          · exact ⟨_, hW, .cons (.refl .str) (.nil _)⟩
        exact S_retc .bool rfl trivial (by show AV.bool false = _; rw [ev])
      match r, hk, hn, htl, hW, hlr, kR with
      | [a, b], _, hn, htl, hW, hlr, kR =>
        have e1 : (IntKind.i64.wrap ((((texts (kSize :: [a, b])).length : Nat) : Int) - 1) == 2) = true := by rw [hn]; rfl
        have ev := ev [a, b]
        have x0 := fun (x : List UInt8) (hx : x ∈ [a, b]) => hlr x hx
        have q0 := fun tg => kR [a, b] 1 a (by simp) rfl (by simp) tg
        have q1 := fun tg => kR [a, b] 2 b (by simp) rfl (by simp) tg
        cases hv0 : regB a with
        | false =>
          simp only [hv0] at q0
          refine pa [.v (.sl true false 1 (texts (kSize :: [a, b]))), .v (.str kSize), .b false, .b false, .b false, .b false, .b true, .b true, .k (.bool false), .b false] rfl ?_ ?_
          · (repeat' with_reducible apply AllP_cons) <;> try exact aC
            all_goals first | exact ⟨_, hW, .cons (.refl .str) (.nil _)⟩ | exact q0 _ | exact q1 _ | skip
          exact S_retc .bool rfl trivial (by show AV.bool false = _; rw [ev]; simp [chkW, okW_r, okW_p, okW_d, okW_n, okW_l, okW_e, hv0])
        | true =>
          simp only [hv0] at q0
          refine pa [.v (.sl true false 1 (texts (kSize :: [a, b]))), .v (.str kSize), .b false, .b false, .b false, .b false, .b true, .b true, .k (.bool true), .b true, .k (.bool (regB b))] rfl ?_ ?_
          · (repeat' with_reducible apply AllP_cons) <;> try exact aC
            all_goals first | exact ⟨_, hW, .cons (.refl .str) (.nil _)⟩ | exact q0 _ | exact q1 _ | skip
          exact S_retc .bool rfl trivial (by show AV.bool (regB b) = _; rw [ev]; simp [chkW, okW_r, okW_p, okW_d, okW_n, okW_l, okW_e, hv0])
    by_cases hkCut : w = kCut
    · subst hkCut
      have ev : ∀ q, rightW L kCut q = chkW L [114, 110, 110] q := fun q => right_chk rfl (by decide)
      by_cases hk : r.length = 3
      case neg =>
        have e1 : (IntKind.i64.wrap ((((texts (kCut :: r)).length : Nat) : Int) - 1) == 3) = false := by rw [hn]; simpa using fun h => hk (by omega)
        have ev : rightW L kCut r = false := by rw [ev]; exact chk_len hk
        refine pa [.v (.sl true false 1 (texts (kCut :: r))), .v (.str kCut), .b false, .b false, .b false, .b false, .b false, .b true, .b false, .b false, .b false] rfl ?_ ?_
        · (repeat' with_reducible apply AllP_cons) <;> try exact aC
          · exact ⟨_, hW, .cons (.refl .str) (.nil _)⟩
        exact S_retc .bool rfl trivial (by show AV.bool false = _; rw [ev])
      match r, hk, hn, htl, hW, hlr, kR with
      | [a, b, c], _, hn, htl, hW, hlr, kR =>
        have e1 : (IntKind.i64.wrap ((((texts (kCut :: [a, b, c])).length : Nat) : Int) - 1) == 3) = true := by rw [hn]; rfl
        have ev := ev [a, b, c]
        have x0 := fun (x : List UInt8) (hx : x ∈ [a, b, c]) => hlr x hx
        have q0 := fun tg => kR [a, b, c] 1 a (by simp) rfl (by simp) tg
        have q1 := NumberOf_ok b 999999 (by have := x0 b (by simp); omega) (by omega)
        have s1 := numI_some b 999999
        have q2 := NumberOf_ok c 999999 (by have := x0 c (by simp); omega) (by omega)
        have s2 := numI_some c 999999
        cases hv0 : regB a with
        | false =>
          simp only [hv0] at q0
          refine pa [.v (.sl true false 1 (texts (kCut :: [a, b, c]))), .v (.str kCut), .b false, .b false, .b false, .b false, .b false, .b true, .b true, .k (.bool false), .b false, .b false] rfl ?_ ?_
          · (repeat' with_reducible apply AllP_cons) <;> try exact aC
            all_goals first | exact ⟨_, hW, .cons (.refl .str) (.nil _)⟩ | exact q0 _ | exact ⟨_, q1, .cons (.refl .str) (.cons (.refl .int) (.nil _))⟩ | exact ⟨_, q2, .cons (.refl .str) (.cons (.refl .int) (.nil _))⟩ | skip
          exact S_retc .bool rfl trivial (by show AV.bool false = _; rw [ev]; simp [chkW, okW_r, okW_p, okW_d, okW_n, okW_l, okW_e, hv0])
        | true =>
          simp only [hv0] at q0
          cases hv1 : (numT b 999999).isSome with
          | false =>
            rw [hv1] at s1
            refine pa [.v (.sl true false 1 (texts (kCut :: [a, b, c]))), .v (.str kCut), .b false, .b false, .b false, .b false, .b false, .b true, .b true, .k (.bool true), .b true, .v (.str b), .v (.int .i64 (numI b 999999)), .b false] rfl ?_ ?_
            · (repeat' with_reducible apply AllP_cons) <;> try exact aC
              all_goals first | exact ⟨_, hW, .cons (.refl .str) (.nil _)⟩ | exact q0 _ | exact ⟨_, q1, .cons (.refl .str) (.cons (.refl .int) (.nil _))⟩ | exact ⟨_, q2, .cons (.refl .str) (.cons (.refl .int) (.nil _))⟩ | skip
            exact S_retc .bool rfl trivial (by show AV.bool false = _; rw [ev]; simp [chkW, okW_r, okW_p, okW_d, okW_n, okW_l, okW_e, hv0, hv1])
          | true =>
            rw [hv1] at s1
            refine pa [.v (.sl true false 1 (texts (kCut :: [a, b, c]))), .v (.str kCut), .b false, .b false, .b false, .b false, .b false, .b true, .b true, .k (.bool true), .b true, .v (.str b), .v (.int .i64 (numI b 999999)), .b true, .v (.str c), .v (.int .i64 (numI c 999999))] rfl ?_ ?_
            · (repeat' with_reducible apply AllP_cons) <;> try exact aC
              all_goals first | exact ⟨_, hW, .cons (.refl .str) (.nil _)⟩ | exact q0 _ | exact ⟨_, q1, .cons (.refl .str) (.cons (.refl .int) (.nil _))⟩ | exact ⟨_, q2, .cons (.refl .str) (.cons (.refl .int) (.nil _))⟩ | skip
            exact S_retc .bool rfl trivial (by show AV.bool (decide (numI c 999999 ≥ 0)) = _; rw [s2, ev]; simp [chkW, okW_r, okW_p, okW_d, okW_n, okW_l, okW_e, hv0, hv1])
    by_cases hkSum : w = kSum
    · subst hkSum
      have ev : ∀ q, rightW L kSum q = chkW L [114] q := fun q => right_chk rfl (by decide)
      by_cases hk : r.length = 1
      case neg =>
        have e1 : (IntKind.i64.wrap ((((texts (kSum :: r)).length : Nat) : Int) - 1) == 1) = false := by rw [hn]; simpa using fun h => hk (by omega)
        have ev : rightW L kSum r = false := by rw [ev]; exact chk_len hk
        refine pa [.v (.sl true false 1 (texts (kSum :: r))), .v (.str kSum), .b false, .b false, .b false, .b false, .b false, .b false, .b true, .b false] rfl ?_ ?_
        · (repeat' with_reducible apply AllP_cons) <;> try exact aC
          · exact ⟨_, hW, .cons (.refl .str) (.nil _)⟩
        exact S_retc .bool rfl trivial (by show AV.bool false = _; rw [ev])
      match r, hk, hn, htl, hW, hlr, kR with
      | [a], _, hn, htl, hW, hlr, kR =>
        have e1 : (IntKind.i64.wrap ((((texts (kSum :: [a])).length : Nat) : Int) - 1) == 1) = true := by rw [hn]; rfl
        have ev := ev [a]
        have x0 := fun (x : List UInt8) (hx : x ∈ [a]) => hlr x hx
        have q0 := fun tg => kR [a] 1 a (by simp) rfl (by simp) tg
        refine pa [.v (.sl true false 1 (texts (kSum :: [a]))), .v (.str kSum), .b false, .b false, .b false, .b false, .b false, .b false, .b true, .b true, .k (.bool (regB a))] rfl ?_ ?_
        · (repeat' with_reducible apply AllP_cons) <;> try exact aC
          all_goals first | exact ⟨_, hW, .cons (.refl .str) (.nil _)⟩ | exact q0 _ | skip
        exact S_retc .bool rfl trivial (by show AV.bool (regB a) = _; rw [ev]; simp [chkW, okW_r, okW_p, okW_d, okW_n, okW_l, okW_e])
    by_cases hkMake : w = kMake
    · subst hkMake
      have ev : ∀ q, rightW L kMake q = chkW L [112, 114] q := fun q => right_chk rfl (by decide)
      by_cases hk : r.length = 2
      case neg =>
        have e1 : (IntKind.i64.wrap ((((texts (kMake :: r)).length : Nat) : Int) - 1) == 2) = false := by rw [hn]; simpa using fun h => hk (by omega)
        have ev : rightW L kMake r = false := by rw [ev]; exact chk_len hk
        refine pa [.v (.sl true false 1 (texts (kMake :: r))), .v (.str kMake), .b false, .b false, .b false, .b false, .b false, .b false, .b false, .b true, .b true, .b false, .b false] rfl ?_ ?_
        · (repeat' with_reducible apply AllP_cons) <;> try exact aC
          · exact ⟨_, hW, .cons (.refl .str) (.nil _)⟩
        exact S_retc .bool rfl trivial (by show AV.bool false = _; rw [ev])
      match r, hk, hn, htl, hW, hlr, kR with
      | [a, b], _, hn, htl, hW, hlr, kR =>
        have e1 : (IntKind.i64.wrap ((((texts (kMake :: [a, b])).length : Nat) : Int) - 1) == 2) = true := by rw [hn]; rfl
        have ev := ev [a, b]
        have x0 := fun (x : List UInt8) (hx : x ∈ [a, b]) => hlr x hx
        have q0 := IsPath_ok a (by have := x0 a (by simp); omega)
        have q1 := fun tg => kR [a, b] 2 b (by simp) rfl (by simp) tg
        cases hv0 : isPathB a with
        | false =>
          rw [hv0] at q0
          refine pa [.v (.sl true false 1 (texts (kMake :: [a, b]))), .v (.str kMake), .b false, .b false, .b false, .b false, .b false, .b false, .b false, .b true, .b true, .b true, .v (.str a), .v (.bool false), .b false] rfl ?_ ?_
          · (repeat' with_reducible apply AllP_cons) <;> try exact aC
            all_goals first | exact ⟨_, hW, .cons (.refl .str) (.nil _)⟩ | exact ⟨_, q0, .cons (.refl .str) (.nil _)⟩ | exact q1 _ | skip
          exact S_retc .bool rfl trivial (by show AV.bool false = _; rw [ev]; simp [chkW, okW_r, okW_p, okW_d, okW_n, okW_l, okW_e, hv0])
        | true =>
          rw [hv0] at q0
          refine pa [.v (.sl true false 1 (texts (kMake :: [a, b]))), .v (.str kMake), .b false, .b false, .b false, .b false, .b false, .b false, .b false, .b true, .b true, .b true, .v (.str a), .v (.bool true), .b true, .k (.bool (regB b))] rfl ?_ ?_
          · (repeat' with_reducible apply AllP_cons) <;> try exact aC
            all_goals first | exact ⟨_, hW, .cons (.refl .str) (.nil _)⟩ | exact ⟨_, q0, .cons (.refl .str) (.nil _)⟩ | exact q1 _ | skip
          exact S_retc .bool rfl trivial (by show AV.bool (regB b) = _; rw [ev]; simp [chkW, okW_r, okW_p, okW_d, okW_n, okW_l, okW_e, hv0])
    by_cases hkRun : w = kRun
    · subst hkRun
      have ev : ∀ q, rightW L kRun q = chkW L [112, 114] q := fun q => right_chk rfl (by decide)
      by_cases hk : r.length = 2
      case neg =>
        have e1 : (IntKind.i64.wrap ((((texts (kRun :: r)).length : Nat) : Int) - 1) == 2) = false := by rw [hn]; simpa using fun h => hk (by omega)
        have ev : rightW L kRun r = false := by rw [ev]; exact chk_len hk
        refine pa [.v (.sl true false 1 (texts (kRun :: r))), .v (.str kRun), .b false, .b false, .b false, .b false, .b false, .b false, .b false, .b false, .b true, .b false, .b false] rfl ?_ ?_
        · (repeat' with_reducible apply AllP_cons) <;> try exact aC
          · exact ⟨_, hW, .cons (.refl .str) (.nil _)⟩
        exact S_retc .bool rfl trivial (by show AV.bool false = _; rw [ev])
      match r, hk, hn, htl, hW, hlr, kR with
      | [a, b], _, hn, htl, hW, hlr, kR =>
        have e1 : (IntKind.i64.wrap ((((texts (kRun :: [a, b])).length : Nat) : Int) - 1) == 2) = true := by rw [hn]; rfl
        have ev := ev [a, b]
        have x0 := fun (x : List UInt8) (hx : x ∈ [a, b]) => hlr x hx
        have q0 := IsPath_ok a (by have := x0 a (by simp); omega)
        have q1 := fun tg => kR [a, b] 2 b (by simp) rfl (by simp) tg
        cases hv0 : isPathB a with
        | false =>
          rw [hv0] at q0
          refine pa [.v (.sl true false 1 (texts (kRun :: [a, b]))), .v (.str kRun), .b false, .b false, .b false, .b false, .b false, .b false, .b false, .b false, .b true, .b true, .v (.str a), .v (.bool false), .b false] rfl ?_ ?_
          · (repeat' with_reducible apply AllP_cons) <;> try exact aC
            all_goals first | exact ⟨_, hW, .cons (.refl .str) (.nil _)⟩ | exact ⟨_, q0, .cons (.refl .str) (.nil _)⟩ | exact q1 _ | skip
          exact S_retc .bool rfl trivial (by show AV.bool false = _; rw [ev]; simp [chkW, okW_r, okW_p, okW_d, okW_n, okW_l, okW_e, hv0])
        | true =>
          rw [hv0] at q0
          refine pa [.v (.sl true false 1 (texts (kRun :: [a, b]))), .v (.str kRun), .b false, .b false, .b false, .b false, .b false, .b false, .b false, .b false, .b true, .b true, .v (.str a), .v (.bool true), .b true, .k (.bool (regB b))] rfl ?_ ?_
          · (repeat' with_reducible apply AllP_cons) <;> try exact aC
            all_goals first | exact ⟨_, hW, .cons (.refl .str) (.nil _)⟩ | exact ⟨_, q0, .cons (.refl .str) (.nil _)⟩ | exact q1 _ | skip
          exact S_retc .bool rfl trivial (by show AV.bool (regB b) = _; rw [ev]; simp [chkW, okW_r, okW_p, okW_d, okW_n, okW_l, okW_e, hv0])
    by_cases hkSame : w = kSame
    · subst hkSame
      have ev : ∀ q, rightW L kSame q = chkW L [114, 114, 108] q := fun q => right_chk rfl (by decide)
      by_cases hk : r.length = 3
      case neg =>
        have e1 : (IntKind.i64.wrap ((((texts (kSame :: r)).length : Nat) : Int) - 1) == 3) = false := by rw [hn]; simpa using fun h => hk (by omega)
        have ev : rightW L kSame r = false := by rw [ev]; exact chk_len hk
        refine pa [.v (.sl true false 1 (texts (kSame :: r))), .v (.str kSame), .b false, .b false, .b false, .b false, .b false, .b false, .b false, .b false, .b false, .b true, .b true, .b false, .b false, .b false] rfl ?_ ?_
        · (repeat' with_reducible apply AllP_cons) <;> try exact aC
          · exact ⟨_, hW, .cons (.refl .str) (.nil _)⟩
        exact S_retc .bool rfl trivial (by show AV.bool false = _; rw [ev])
      match r, hk, hn, htl, hW, hlr, kR with
      | [a, b, c], _, hn, htl, hW, hlr, kR =>
        have e1 : (IntKind.i64.wrap ((((texts (kSame :: [a, b, c])).length : Nat) : Int) - 1) == 3) = true := by rw [hn]; rfl
        have ev := ev [a, b, c]
        have x0 := fun (x : List UInt8) (hx : x ∈ [a, b, c]) => hlr x hx
        have q0 := fun tg => kR [a, b, c] 1 a (by simp) rfl (by simp) tg
        have q1 := fun tg => kR [a, b, c] 2 b (by simp) rfl (by simp) tg
        have q2 := NumberOf_ok c L (by have := x0 c (by simp); omega) (by omega)
        have s2 := numI_some c L
        cases hv0 : regB a with
        | false =>
          simp only [hv0] at q0
          refine pa [.v (.sl true false 1 (texts (kSame :: [a, b, c]))), .v (.str kSame), .b false, .b false, .b false, .b false, .b false, .b false, .b false, .b false, .b false, .b true, .b true, .b true, .k (.bool false), .b false, .b false] rfl ?_ ?_
          · (repeat' with_reducible apply AllP_cons) <;> try exact aC
            all_goals first | exact ⟨_, hW, .cons (.refl .str) (.nil _)⟩ | exact q0 _ | exact q1 _ | exact ⟨_, q2, .cons (.refl .str) (.cons (.refl .int) (.nil _))⟩ | skip
          exact S_retc .bool rfl trivial (by show AV.bool false = _; rw [ev]; simp [chkW, okW_r, okW_p, okW_d, okW_n, okW_l, okW_e, hv0])
        | true =>
          simp only [hv0] at q0
          cases hv1 : regB b with
          | false =>
            simp only [hv1] at q1
            refine pa [.v (.sl true false 1 (texts (kSame :: [a, b, c]))), .v (.str kSame), .b false, .b false, .b false, .b false, .b false, .b false, .b false, .b false, .b false, .b true, .b true, .b true, .k (.bool true), .b true, .k (.bool false), .b false] rfl ?_ ?_
            · (repeat' with_reducible apply AllP_cons) <;> try exact aC
              all_goals first | exact ⟨_, hW, .cons (.refl .str) (.nil _)⟩ | exact q0 _ | exact q1 _ | exact ⟨_, q2, .cons (.refl .str) (.cons (.refl .int) (.nil _))⟩ | skip
            exact S_retc .bool rfl trivial (by show AV.bool false = _; rw [ev]; simp [chkW, okW_r, okW_p, okW_d, okW_n, okW_l, okW_e, hv0, hv1])
          | true =>
            simp only [hv1] at q1
            refine pa [.v (.sl true false 1 (texts (kSame :: [a, b, c]))), .v (.str kSame), .b false, .b false, .b false, .b false, .b false, .b false, .b false, .b false, .b false, .b true, .b true, .b true, .k (.bool true), .b true, .k (.bool true), .b true, .v (.str c), .v (.int .i64 (numI c L))] rfl ?_ ?_
            · (repeat' with_reducible apply AllP_cons) <;> try exact aC
              all_goals first | exact ⟨_, hW, .cons (.refl .str) (.nil _)⟩ | exact q0 _ | exact q1 _ | exact ⟨_, q2, .cons (.refl .str) (.cons (.refl .int) (.nil _))⟩ | skip
            exact S_retc .bool rfl trivial (by show AV.bool (decide (numI c L ≥ 0)) = _; rw [s2, ev]; simp [chkW, okW_r, okW_p, okW_d, okW_n, okW_l, okW_e, hv0, hv1])
    by_cases hkLess : w = kLess
    · subst hkLess
      have ev : ∀ q, rightW L kLess q = chkW L [114, 114, 108] q := fun q => right_chk rfl (by decide)
      by_cases hk : r.length = 3
      case neg =>
        have e1 : (IntKind.i64.wrap ((((texts (kLess :: r)).length : Nat) : Int) - 1) == 3) = false := by rw [hn]; simpa using fun h => hk (by omega)
        have ev : rightW L kLess r = false := by rw [ev]; exact chk_len hk
        refine pa [.v (.sl true false 1 (texts (kLess :: r))), .v (.str kLess), .b false, .b false, .b false, .b false, .b false, .b false, .b false, .b false, .b false, .b false, .b true, .b false, .b false, .b false] rfl ?_ ?_
        · (repeat' with_reducible apply AllP_cons) <;> try exact aC
          · exact ⟨_, hW, .cons (.refl .str) (.nil _)⟩
        exact S_retc .bool rfl trivial (by show AV.bool false = _; rw [ev])
      match r, hk, hn, htl, hW, hlr, kR with
      | [a, b, c], _, hn, htl, hW, hlr, kR =>
        have e1 : (IntKind.i64.wrap ((((texts (kLess :: [a, b, c])).length : Nat) : Int) - 1) == 3) = true := by rw [hn]; rfl
        have ev := ev [a, b, c]
        have x0 := fun (x : List UInt8) (hx : x ∈ [a, b, c]) => hlr x hx
        have q0 := fun tg => kR [a, b, c] 1 a (by simp) rfl (by simp) tg
        have q1 := fun tg => kR [a, b, c] 2 b (by simp) rfl (by simp) tg
        have q2 := NumberOf_ok c L (by have := x0 c (by simp); omega) (by omega)
        have s2 := numI_some c L
        cases hv0 : regB a with
        | false =>
          simp only [hv0] at q0
          refine pa [.v (.sl true false 1 (texts (kLess :: [a, b, c]))), .v (.str kLess), .b false, .b false, .b false, .b false, .b false, .b false, .b false, .b false, .b false, .b false, .b true, .b true, .k (.bool false), .b false, .b false] rfl ?_ ?_
          · (repeat' with_reducible apply AllP_cons) <;> try exact aC
            all_goals first | exact ⟨_, hW, .cons (.refl .str) (.nil _)⟩ | exact q0 _ | exact q1 _ | exact ⟨_, q2, .cons (.refl .str) (.cons (.refl .int) (.nil _))⟩ | skip
          exact S_retc .bool rfl trivial (by show AV.bool false = _; rw [ev]; simp [chkW, okW_r, okW_p, okW_d, okW_n, okW_l, okW_e, hv0])
        | true =>
          simp only [hv0] at q0
          cases hv1 : regB b with
          | false =>
            simp only [hv1] at q1
            refine pa [.v (.sl true false 1 (texts (kLess :: [a, b, c]))), .v (.str kLess), .b false, .b false, .b false, .b false, .b false, .b false, .b false, .b false, .b false, .b false, .b true, .b true, .k (.bool true), .b true, .k (.bool false), .b false] rfl ?_ ?_
            · (repeat' with_reducible apply AllP_cons) <;> try exact aC
              all_goals first | exact ⟨_, hW, .cons (.refl .str) (.nil _)⟩ | exact q0 _ | exact q1 _ | exact ⟨_, q2, .cons (.refl .str) (.cons (.refl .int) (.nil _))⟩ | skip
            exact S_retc .bool rfl trivial (by show AV.bool false = _; rw [ev]; simp [chkW, okW_r, okW_p, okW_d, okW_n, okW_l, okW_e, hv0, hv1])
          | true =>
            simp only [hv1] at q1
            refine pa [.v (.sl true false 1 (texts (kLess :: [a, b, c]))), .v (.str kLess), .b false, .b false, .b false, .b false, .b false, .b false, .b false, .b false, .b false, .b false, .b true, .b true, .k (.bool true), .b true, .k (.bool true), .b true, .v (.str c), .v (.int .i64 (numI c L))] rfl ?_ ?_
            · (repeat' with_reducible apply AllP_cons) <;> try exact aC
              all_goals first | exact ⟨_, hW, .cons (.refl .str) (.nil _)⟩ | exact q0 _ | exact q1 _ | exact ⟨_, q2, .cons (.refl .str) (.cons (.refl .int) (.nil _))⟩ | skip
            exact S_retc .bool rfl trivial (by show AV.bool (decide (numI c L ≥ 0)) = _; rw [s2, ev]; simp [chkW, okW_r, okW_p, okW_d, okW_n, okW_l, okW_e, hv0, hv1])
    by_cases hkGoto : w = kGoto
    · subst hkGoto
      have ev : ∀ q, rightW L kGoto q = chkW L [108] q := fun q => right_chk rfl (by decide)
      by_cases hk : r.length = 1
      case neg =>
        have e1 : (IntKind.i64.wrap ((((texts (kGoto :: r)).length : Nat) : Int) - 1) == 1) = false := by rw [hn]; simpa using fun h => hk (by omega)
        have ev : rightW L kGoto r = false := by rw [ev]; exact chk_len hk
        refine pa [.v (.sl true false 1 (texts (kGoto :: r))), .v (.str kGoto), .b false, .b false, .b false, .b false, .b false, .b false, .b false, .b false, .b false, .b false, .b false, .b true, .b false] rfl ?_ ?_
        · (repeat' with_reducible apply AllP_cons) <;> try exact aC
          · exact ⟨_, hW, .cons (.refl .str) (.nil _)⟩
        exact S_retc .bool rfl trivial (by show AV.bool false = _; rw [ev])
      match r, hk, hn, htl, hW, hlr, kR with
      | [a], _, hn, htl, hW, hlr, kR =>
        have e1 : (IntKind.i64.wrap ((((texts (kGoto :: [a])).length : Nat) : Int) - 1) == 1) = true := by rw [hn]; rfl
        have ev := ev [a]
        have x0 := fun (x : List UInt8) (hx : x ∈ [a]) => hlr x hx
        have q0 := NumberOf_ok a L (by have := x0 a (by simp); omega) (by omega)
        have s0 := numI_some a L
        refine pa [.v (.sl true false 1 (texts (kGoto :: [a]))), .v (.str kGoto), .b false, .b false, .b false, .b false, .b false, .b false, .b false, .b false, .b false, .b false, .b false, .b true, .b true, .v (.str a), .v (.int .i64 (numI a L))] rfl ?_ ?_
        · (repeat' with_reducible apply AllP_cons) <;> try exact aC
          all_goals first | exact ⟨_, hW, .cons (.refl .str) (.nil _)⟩ | exact ⟨_, q0, .cons (.refl .str) (.cons (.refl .int) (.nil _))⟩ | skip
        exact S_retc .bool rfl trivial (by show AV.bool (decide (numI a L ≥ 0)) = _; rw [s0, ev]; simp [chkW, okW_r, okW_p, okW_d, okW_n, okW_l, okW_e])
    by_cases hkExit : w = kExit
    · subst hkExit
      have ev : ∀ q, rightW L kExit q = chkW L [101] q := fun q => right_chk rfl (by decide)
      by_cases hk : r.length = 1
      case neg =>
        have e1 : (IntKind.i64.wrap ((((texts (kExit :: r)).length : Nat) : Int) - 1) == 1) = false := by rw [hn]; simpa using fun h => hk (by omega)
        have ev : rightW L kExit r = false := by rw [ev]; exact chk_len hk
        refine pa [.v (.sl true false 1 (texts (kExit :: r))), .v (.str kExit), .b false, .b false, .b false, .b false, .b false, .b false, .b false, .b false, .b false, .b false, .b false, .b false, .b true, .b false] rfl ?_ ?_
        · (repeat' with_reducible apply AllP_cons) <;> try exact aC
          · exact ⟨_, hW, .cons (.refl .str) (.nil _)⟩
        exact S_retc .bool rfl trivial (by show AV.bool false = _; rw [ev])
      match r, hk, hn, htl, hW, hlr, kR with
      | [a], _, hn, htl, hW, hlr, kR =>
        have e1 : (IntKind.i64.wrap ((((texts (kExit :: [a])).length : Nat) : Int) - 1) == 1) = true := by rw [hn]; rfl
        have ev := ev [a]
        have x0 := fun (x : List UInt8) (hx : x ∈ [a]) => hlr x hx
        have q0 := NumberOf_ok a 99 (by have := x0 a (by simp); omega) (by omega)
        have s0 := numI_some a 99
        refine pa [.v (.sl true false 1 (texts (kExit :: [a]))), .v (.str kExit), .b false, .b false, .b false, .b false, .b false, .b false, .b false, .b false, .b false, .b false, .b false, .b false, .b true, .b true, .v (.str a), .v (.int .i64 (numI a 99))] rfl ?_ ?_
        · (repeat' with_reducible apply AllP_cons) <;> try exact aC
          all_goals first | exact ⟨_, hW, .cons (.refl .str) (.nil _)⟩ | exact ⟨_, q0, .cons (.refl .str) (.cons (.refl .int) (.nil _))⟩ | skip
        exact S_retc .bool rfl trivial (by show AV.bool (decide (numI a 99 ≥ 0)) = _; rw [s0, ev]; simp [chkW, okW_r, okW_p, okW_d, okW_n, okW_l, okW_e])
    have ev : rightW L w r = false := by
      have : formT' w = none := by
        unfold formT'
        have hf : formL.find? (fun p => p.1 == w) = none := by
          rw [List.find?_eq_none]
          intro p hp e
          have e : p.1 = w := by simpa using e
          simp only [formL, List.mem_cons, List.not_mem_nil, or_false] at hp
          rcases hp with rfl | rfl | rfl | rfl | rfl | rfl | rfl | rfl | rfl | rfl | rfl | rfl | rfl
          all_goals first | exact hkSet e.symm | exact hkRead e.symm | exact hkList e.symm | exact hkJoin e.symm | exact hkSize e.symm | exact hkCut e.symm | exact hkSum e.symm | exact hkMake e.symm | exact hkRun e.symm | exact hkSame e.symm | exact hkLess e.symm | exact hkGoto e.symm | exact hkExit e.symm
        rw [hf]; rfl
      unfold rightW; rw [this]
    have bkSet : (w == kSet) = false := by simpa using hkSet
    have bkRead : (w == kRead) = false := by simpa using hkRead
    have bkList : (w == kList) = false := by simpa using hkList
    have bkJoin : (w == kJoin) = false := by simpa using hkJoin
    have bkSize : (w == kSize) = false := by simpa using hkSize
    have bkCut : (w == kCut) = false := by simpa using hkCut
    have bkSum : (w == kSum) = false := by simpa using hkSum
    have bkMake : (w == kMake) = false := by simpa using hkMake
    have bkRun : (w == kRun) = false := by simpa using hkRun
    have bkSame : (w == kSame) = false := by simpa using hkSame
    have bkLess : (w == kLess) = false := by simpa using hkLess
    have bkGoto : (w == kGoto) = false := by simpa using hkGoto
    have bkExit : (w == kExit) = false := by simpa using hkExit
    refine pa [.v (.sl true false 1 (texts (w :: r))), .v (.str w), .b false, .b false, .b false, .b false, .b false, .b false, .b false, .b false, .b false, .b false, .b false, .b false, .b false] rfl ?_ ?_
    · (repeat' with_reducible apply AllP_cons) <;> try exact aC
      all_goals first | exact ⟨_, hW, .cons (.refl .str) (.nil _)⟩ | exact bkSet | exact bkRead | exact bkList | exact bkJoin | exact bkSize | exact bkCut | exact bkSum | exact bkMake | exact bkRun | exact bkSame | exact bkLess | exact bkGoto | exact bkExit | skip
    exact S_retc .bool rfl trivial (by show AV.bool false = _; rw [ev])
end Go.Proofs.YtgmakmfdjhgjlaaGreatDoor
end
section
set_option linter.unusedVariables false
set_option linter.unusedSimpArgs false
set_option maxRecDepth 20000
set_option maxHeartbeats 4000000
namespace Go.Proofs.YtgmakmfdjhgjlaaGreatDoor
open Go Go.Ab
theorem prog_iff (L : Nat) : ∀ (l : List (List UInt8)), (progT L l).isSome = l.all fun s => (lnOf L s).isSome
  | [] => rfl
  | s :: r => by
    rw [progT, List.all_cons]
    cases hq : lnOf L s with
    | none => rfl
    | some x =>
      show ((progT L r).map _).isSome = (true && _)
      rw [Option.isSome_map, prog_iff L r, Bool.true_and]
theorem bad_at {L : Nat} : ∀ {l : List (List UInt8)} {i : Nat} (h : i < l.length), (∀ s ∈ l.take i, (lnOf L s).isSome = true) → (lnOf L l[i]).isSome = false → badLn L l = i
  | [], _, h, _, _ => absurd h (by simp)
  | s :: r, 0, _, _, hb => by
    rw [badLn]
    have hb : (lnOf L s).isSome = false := hb
    cases hq : lnOf L s with
    | none => rfl
    | some x => rw [hq] at hb; cases hb
  | s :: r, i + 1, h, ha, hb => by
    have h1 := ha s (by simp)
    rw [badLn]
    cases hq : lnOf L s with
    | none => rw [hq] at h1; cases h1
    | some x =>
      show badLn L r + 1 = i + 1
      rw [bad_at (l := r) (i := i) (by simpa using h) (fun t ht => ha t (by simp; exact .inr ht)) hb]
theorem CheckCommand_ok {st fl : Bool} (l : List (List UInt8)) (hl : l.length ≤ 1048576) (hls : ∀ s ∈ l, s.length ≤ 1048576) : Calc cx 11 [.sl st fl 1 (texts l)] (.tup [.int .i64 (comI l : Nat), .int .i64 (comE l : Nat)]) :=
  pure_intro (fun a w => Tryz.call11 a w) Tryz.func11 rfl Tryz.ntmps11 rfl (.tup (by intro x hx; simp at hx; rcases hx with rfl | rfl; exact .int; exact .int)) fun B => by
    have hfree : ∀ i j : Int, Free true (.tup [.int .i64 i, .int .i64 j]) := fun i j => .tup (by intro x hx; simp at hx; rcases hx with rfl | rfl; exact .int; exact .int)
    have hC := CheckList_ok (st := st) (fl := fl) l 60 (by omega)
    have htl : (texts l).length = l.length := by simp [texts]
    have hfr : ∀ (σ : Heap) (k : Int), Frzs σ [.sl st fl 1 (texts l), .int .i64 k] [.sl st fl 1 (texts l), .int .i64 k] := fun σ k => .cons (comR l) (.cons (.refl .int) (.nil _))
    by_cases h0 : checkL l 60 = 0
    case neg =>
      have hE : comE l = 2 := by unfold comE; rw [if_neg h0]
      have hI : comI l = 0 := by unfold comI; rw [hE]; rfl
      have h2 : checkL l 60 = 2 := by
        unfold checkL at h0 ⊢
        split
        · rfl
        · rename_i h; rw [if_neg h] at h0
          split
          · rfl
          · rename_i h'; rw [if_neg h'] at h0; exact absurd rfl h0
      rw [h2] at hC
      rw [hE, hI]
      refine pa [.v (.int .i64 ((2 : Nat) : Int)), .b true] rfl ?_ ?_
      · (repeat' with_reducible apply AllP_cons) <;> try exact aC
        · exact ⟨_, hC, hfr _ _⟩
      exact S_retc (hfree _ _) rfl trivial rfl
    rw [h0] at hC
    have hcs : l.length ≤ 60 ∧ ∀ s ∈ l, s.length ≤ 100000 := by
      unfold checkL at h0
      by_cases h1 : 60 < l.length
      · rw [if_pos h1] at h0; cases h0
      · rw [if_neg h1] at h0
        cases hq : l.any (fun s => decide (100000 < s.length)) with
        | true => rw [hq] at h0; simp at h0
        | false => exact ⟨by omega, fun s hs => by have := List.any_eq_false.1 hq s hs; simpa using this⟩
    refine pa [.v (.int .i64 ((0 : Nat) : Int)), .b false] rfl ?_ ?_
    · (repeat' with_reducible apply AllP_cons) <;> try exact aC
      · exact ⟨_, hC, hfr _ _⟩
    refine S_while (α := Nat) (fun i => [(0, .sl st fl 1 (texts l)), (5, .int .i64 (i : Nat))]) (fun _ => []) (fun i => i ≤ l.length ∧ ∀ s ∈ l.take i, (lnOf l.length s).isSome = true) (fun i => l.length - i) 0
      ⟨Nat.zero_le _, fun s hs => by cases hs⟩ (.cons rfl (.cons rfl (.nil _))) rfl ?_
    rintro i ⟨hi, hst⟩
    have hi : i ≤ l.length := hi
    by_cases hlt : i < l.length
    · have e1 : decide ((i : Int) < (((texts l).length : Nat) : Int)) = true := decide_eq_true (by omega)
      have g1 : (texts l)[(i : Int).toNat]? = some (.str l[i]) := texts_get hlt
      have hR := RightLine_ok (texts l).length l[i] (by have := hcs.2 _ (List.getElem_mem hlt); omega) (by omega)
      rw [show lnOf (texts l).length l[i] = lnOf l.length l[i] by rw [htl]] at hR
      cases hb : (lnOf l.length l[i]).isSome with
      | false =>
        rw [hb] at hR
        have hE : comE l = 1 := by
          unfold comE; rw [if_pos h0, prog_iff]
          have : (l.all fun s => (lnOf l.length s).isSome) = false := by
            rw [List.all_eq_false]; exact ⟨_, List.getElem_mem hlt, by rw [hb]; simp⟩
          rw [this]; rfl
        have hI : comI l = i := by unfold comI; rw [if_pos hE]; exact bad_at hlt hst hb
        rw [hE, hI]
        refine pa [.b true, .v (.str l[i]), .v (.bool false), .b true] rfl ?_ ?_
        · (repeat' with_reducible apply AllP_cons) <;> try exact aC
          · exact ⟨_, hR, .cons (.refl .str) (.cons (.refl .int) (.nil _))⟩
        exact S_retc (hfree _ _) rfl trivial rfl
      | true =>
        rw [hb] at hR
        refine pa [.b true, .v (.str l[i]), .v (.bool true), .b false] rfl ?_ ?_
        · (repeat' with_reducible apply AllP_cons) <;> try exact aC
          · exact ⟨_, hR, .cons (.refl .str) (.cons (.refl .int) (.nil _))⟩
        refine S_round (i + 1) (by show l.length - (i + 1) < l.length - i; omega) ⟨hlt, fun s hs => ?_⟩ (.cons rfl (.cons (ai64 rfl (by omega)) (.nil _))) rfl
        rw [List.take_succ_eq_append_getElem hlt] at hs
        rcases List.mem_append.1 hs with h | h
        · exact hst s h
        · rw [List.mem_singleton.1 h]; exact hb
    have hil : i = l.length := by omega
    subst hil
    rw [List.take_length] at hst
    have e1 : decide ((l.length : Int) < (((texts l).length : Nat) : Int)) = false := decide_eq_false (by omega)
    have hE : comE l = 0 := by
      unfold comE; rw [if_pos h0, prog_iff, List.all_eq_true.2 hst]; rfl
    have hI : comI l = 0 := by unfold comI; rw [hE]; rfl
    rw [hE, hI]
    refine pB [.b false] rfl ?_
    exact S_retc (hfree _ _) rfl trivial rfl
end Go.Proofs.YtgmakmfdjhgjlaaGreatDoor
end
section
set_option linter.unusedVariables false
set_option linter.unusedSimpArgs false
set_option maxRecDepth 20000
set_option maxHeartbeats 4000000
namespace Go.Proofs.YtgmakmfdjhgjlaaGreatDoor
open Go Go.Ab
theorem SandboxRun_ok {st fl st' fl' : Bool} (fs : List Fil) (com : List (List UInt8)) (fuel : Int) (hfs : FilsOk fs) (hcl : com.length ≤ 1048576) (hcs : ∀ d ∈ com, d.length ≤ 1048576) (hf : -9223372036854775808 ≤ fuel ∧ fuel ≤ 9223372036854775807) :
    Calc cx 14 [.sl st fl 3 (fils fs), .sl st' fl' 1 (texts com), .int .i64 fuel] (runAV fs com fuel) :=
  pure_intro (fun a w => Tryz.call14 a w) Tryz.func14 rfl Tryz.ntmps14 rfl (runAV_free fs com fuel) fun B => by
    have hC := CheckTree_ok (st := st) (fl := fl) fs hfs
    have hP := CheckCommand_ok (st := st') (fl := fl') com hcl hcs
    by_cases h0 : chkT fs = 0
    case neg =>
      have hb : boxE fs com fuel = chkT fs := by unfold boxE; rw [if_neg h0]
      rw [runAV_n (by rw [hb]; exact h0), hb]
      generalize chkT fs = k at *
      have e1 : ((k : Int) == 0) = false := by simpa using h0
      have e2 : ((k : Int) != 0) = true := by simpa using h0
      refine pa [.v (.int .i64 (k : Nat)), .b false, .b false, .b false, .b true] rfl ?_ ?_
      · (repeat' with_reducible apply AllP_cons) <;> try exact aC
        · exact ⟨_, hC, .cons (filR _) (.nil _)⟩
      exact S_ret ⟨_, _, rfl, trivial, _, rfl, run_frz .nils rfl rfl rfl⟩
    rw [h0] at hC
    by_cases h1 : comE com = 0
    case neg =>
      have hb : boxE fs com fuel = comE com := by unfold boxE; rw [if_pos h0, if_neg h1]
      rw [runAV_n (by rw [hb]; exact h1), hb]
      generalize comE com = k at *
      have e1 : ((k : Int) == 0) = false := by simpa using h1
      have e2 : ((k : Int) != 0) = true := by simpa using h1
      refine pa [.v (.int .i64 ((0 : Nat) : Int)), .b true, .v (.tup [.int .i64 (comI com : Nat), .int .i64 (k : Nat)]), .b false, .b false, .b true] rfl ?_ ?_
      · (repeat' with_reducible apply AllP_cons) <;> try exact aC
        · exact ⟨_, hC, .cons (filR _) (.nil _)⟩
        · exact ⟨_, hP, .cons (comR _) (.nil _)⟩
      exact S_ret ⟨_, _, rfl, trivial, _, rfl, run_frz .nils rfl rfl rfl⟩
    rw [h1] at hP
    by_cases hlo : fuel < 0
    · have hb : boxE fs com fuel = 3 := by unfold boxE; rw [if_pos h0, if_pos h1, if_pos (.inl hlo)]
      rw [runAV_n (by rw [hb]; decide), hb]
      have e1 : decide (fuel < 0) = true := decide_eq_true hlo
      refine pa [.v (.int .i64 ((0 : Nat) : Int)), .b true, .v (.tup [.int .i64 (comI com : Nat), .int .i64 ((0 : Nat) : Int)]), .b true, .b true, .b true, .b true] rfl ?_ ?_
      · (repeat' with_reducible apply AllP_cons) <;> try exact aC
        · exact ⟨_, hC, .cons (filR _) (.nil _)⟩
        · exact ⟨_, hP, .cons (comR _) (.nil _)⟩
      exact S_ret ⟨_, _, rfl, trivial, _, rfl, run_frz .nils rfl rfl rfl⟩
    have e1 : decide (fuel < 0) = false := decide_eq_false hlo
    by_cases hhi : 100000 < fuel
    · have hb : boxE fs com fuel = 3 := by unfold boxE; rw [if_pos h0, if_pos h1, if_pos (.inr hhi)]
      rw [runAV_n (by rw [hb]; decide), hb]
      have e2 : decide (fuel > 100000) = true := decide_eq_true hhi
      refine pa [.v (.int .i64 ((0 : Nat) : Int)), .b true, .v (.tup [.int .i64 (comI com : Nat), .int .i64 ((0 : Nat) : Int)]), .b true, .b false, .b true, .b true] rfl ?_ ?_
      · (repeat' with_reducible apply AllP_cons) <;> try exact aC
        · exact ⟨_, hC, .cons (filR _) (.nil _)⟩
        · exact ⟨_, hP, .cons (comR _) (.nil _)⟩
      exact S_ret ⟨_, _, rfl, trivial, _, rfl, run_frz .nils rfl rfl rfl⟩
    have e2 : decide (fuel > 100000) = false := decide_eq_false hhi
    obtain ⟨fu, rfl⟩ : ∃ fu : Nat, fuel = (fu : Int) := ⟨fuel.toNat, by omega⟩
    have hb : boxE fs com (fu : Int) = 0 := box_of h0 h1 (by omega) (by omega)
    rw [runAV_0 hb]
    have hR := RunCommand_ok (st := st) (fl := fl) (st' := st') (fl' := fl') fs com fu h0 h1 (by omega)
    unfold rcAV at hR
    unfold runR
    refine pa [.v (.int .i64 ((0 : Nat) : Int)), .b true, .v (.tup [.int .i64 (comI com : Nat), .int .i64 ((0 : Nat) : Int)]), .b true, .b false, .b false, .b false, .v (.tup [.sl true false 3 (fils (ovT (runT fs com fu).made)), .int .i64 ((runT fs com fu).code : Nat), .int .i64 (fu - (runT fs com fu).left : Nat)])] rfl ?_ ?_
    · (repeat' with_reducible apply AllP_cons) <;> try exact aC
      · exact ⟨_, hC, .cons (filR _) (.nil _)⟩
      · exact ⟨_, hP, .cons (comR _) (.nil _)⟩
      · exact ⟨_, hR, .cons (filR _) (.cons (comR _) (.cons (.refl .int) (.nil _)))⟩
    exact S_ret ⟨_, _, rfl, trivial, _, rfl, run_frz (.refl (.sl (fun _ => rfl) (fils_free _))) rfl rfl rfl⟩
theorem SandboxRuns_ok {st fl : Bool} (fs : List Fil) (com : List (List UInt8)) (fuel : Int) (hk : avB (.sl true false 3 (fils fs)) ≤ 1048576) (hcl : com.length ≤ 1048576) (hcs : ∀ d ∈ com, d.length ≤ 1048576) (hf : -9223372036854775808 ≤ fuel ∧ fuel ≤ 9223372036854775807) :
    Calc cx 4 [.sl true false 3 (fils fs), .sl st fl 1 (texts com), .int .i64 fuel] (.bool true) :=
  pure_intro (fun a w => Tryz.call4 a w) Tryz.func4 rfl Tryz.ntmps4 rfl .bool fun B => by
    have hA := fils_of hk
    have hR := Run_any (st := true) (fl := false) (st' := st) (fl' := fl) fs com fuel hA (by omega) hf
    have hS := SandboxRun_ok (st := true) (fl := false) (st' := st) (fl' := fl) fs com fuel hA hcl hcs hf
    have hfr : ∀ (σ : Heap), Frzs σ [.sl true false 3 (fils fs), .sl st fl 1 (texts com), .int .i64 fuel] [.sl true false 3 (fils fs), .sl st fl 1 (texts com), .int .i64 fuel] := fun σ => .cons (filR fs) (.cons (comR com) (.cons (.refl .int) (.nil _)))
    have key : ∃ (o : List Fil) (c n e : Nat), runAV fs com fuel = .tup [.sl true false 3 (fils o), .int .i64 (c : Nat), .int .i64 (n : Nat), .int .i64 (e : Nat)] ∧ o.length ≤ 1000 ∧ (e ≠ 0 → o = []) := by
      refine ⟨_, _, _, _, rfl, ?_, fun h => if_neg h⟩
      split
      · rename_i hb
        obtain ⟨_, h1, hlo, hhi⟩ := box_facts hb
        have := (made_dir (runT_inv (fs := fs) (fu := fuel.toNat) h1 (by omega)).1).len
        omega
      · exact Nat.zero_le _
    obtain ⟨o, c, n, e, q, ho, he⟩ := key
    rw [q] at hR hS
    have hF := filesAre_ok (st := true) (fl := false) (st' := true) (fl' := false) o o e (by omega) (by omega) (fun _ => rfl) he
    refine pa [.v (.tup [.sl true false 3 (fils o), .int .i64 (c : Nat), .int .i64 (n : Nat), .int .i64 (e : Nat)]), .v (.tup [.sl true false 3 (fils o), .int .i64 (c : Nat), .int .i64 (n : Nat), .int .i64 (e : Nat)]), .v (.bool true), .b true, .v (.bool true), .b true, .b true] rfl ?_ ?_
    · (repeat' with_reducible apply AllP_cons) <;> try exact aC
      · exact ⟨_, hR, hfr _⟩
      · exact ⟨_, hS, hfr _⟩
      · exact ⟨_, sandboxBegun_ok, .nil _⟩
      · exact ⟨_, hF, .cons (filR _) (.cons (.refl .int) (.cons (.refl .int) (.cons (filR _) (.nil _))))⟩
      all_goals simp
    exact S_retc .bool rfl trivial (by show AV.bool ((n : Int) == (n : Int)) = _; simp)
end Go.Proofs.YtgmakmfdjhgjlaaGreatDoor
end
section
set_option linter.unusedVariables false
set_option linter.unusedSimpArgs false
set_option maxRecDepth 20000
namespace Go.Proofs.YtgmakmfdjhgjlaaGreatDoor
open Go Go.Ab
theorem open_file {H : Type} {d : DataW H} {a : AV} (h : RdD Tryz.prog 38 d a) : ∃ f : Fil, a = filA f := by
  obtain ⟨ds, xs, rfl, rfl, hall⟩ := h.inv_st Tryz.underlying38
  obtain ⟨d0, ds, x0, xs, rfl, rfl, h0, hall⟩ := hall.cons
  obtain ⟨d1, ds, x1, xs, rfl, rfl, h1, hall⟩ := hall.cons
  obtain ⟨d2, ds, x2, xs, rfl, rfl, h2, hall⟩ := hall.cons
  obtain ⟨rfl, rfl⟩ := hall.nil
  obtain ⟨s0, rfl, rfl, _⟩ := h0.inv_str Tryz.underlying9
  obtain ⟨s1, rfl, rfl, _⟩ := h1.inv_str Tryz.underlying9
  obtain ⟨b, rfl, rfl⟩ := h2.inv_bool Tryz.underlying4
  exact ⟨⟨s0, s1, b⟩, rfl⟩
theorem open_F {H : Type} {d : DataW H} {a : AV} (h : RdD Tryz.prog 28 d a) : ∃ l : List Fil, a = .sl true false 3 (fils l) := by
  obtain ⟨ds, xs, rfl, hl, hm, hall, _⟩ := h.inv_sl Tryz.underlying28
  obtain ⟨ys, rfl, hy, hg⟩ := RdD.each filA (fun _ _ => True) hl hall (fun d x h => by
    obtain ⟨f, rfl⟩ := open_file h
    exact ⟨f, rfl, trivial⟩)
  have hc : Tryz.prog.cellsOf 38 = 3 := by kernel_rfl
  exact ⟨ys, by rw [hc]; rfl⟩
end Go.Proofs.YtgmakmfdjhgjlaaGreatDoor
end
