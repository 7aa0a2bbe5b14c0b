/-
  Texts of our own, in one file.
-/
import Derived.Test.YtpehmhlgldbeoaaGreatDoorGrpD
import Derived.Shelf.Spec.SlicesGrow
import Derived.Shelf.SlSortCmp.WholeK
section
set_option linter.unusedVariables false
set_option linter.unusedSimpArgs false
namespace Go.Ab
open Go Go.WideShapes
mutual
def avB : AV → Nat
  | .str s => s.length
  | .sl _ _ _ xs => avS xs
  | .agg cs => avC cs
  | _ => 0
def avS : List AV → Nat
  | [] => 0
  | x :: r => avB x + 1 + avS r
def avC : List AV → Nat
  | [] => 0
  | x :: r => avB x + avC r
end
theorem avC_append (a b : List AV) : avC (a ++ b) = avC a + avC b := by
  induction a with
  | nil => simp [avC]
  | cons x a ih => simp only [List.cons_append, avC, ih]; omega
theorem avC_cells (x : AV) : avC x.cells ≤ avB x := by
  cases x <;> simp [AV.cells, avC, avB]
theorem avC_flat (xs : List AV) : avC (xs.flatMap AV.cells) ≤ avC xs := by
  induction xs with
  | nil => simp
  | cons x xs ih =>
    have := avC_cells x
    simp only [List.flatMap_cons, avC_append, avC]; omega
theorem avC_le_avS (xs : List AV) : avC xs ≤ avS xs := by
  induction xs with
  | nil => simp [avC, avS]
  | cons x xs ih => simp only [avC, avS]; omega
theorem bulk_all {P : Program} {H : Type} {B : DataW H → Nat} {BA : List (DataW H) → Nat} (hn : BA [] = 0) (hc : ∀ d r, BA (d :: r) = B d + BA r) : ∀ {ds : List (DataW H)} {xs : List AV}, xs.length = ds.length →
    (∀ i (h1 : i < ds.length) (h2 : i < xs.length), avB xs[i] + 1 ≤ B ds[i]) → avS xs ≤ BA ds
  | [], xs, hl, h => by
    obtain rfl : xs = [] := List.eq_nil_of_length_eq_zero (by simpa using hl)
    simp [avS]
  | d :: ds, xs, hl, h => by
    cases xs with
    | nil => simp at hl
    | cons x xs =>
      have h0 := h 0 (by simp) (by simp)
      have := bulk_all (P := P) (B := B) hn hc (ds := ds) (xs := xs) (by simpa using hl) (fun i h1 h2 => h (i + 1) (Nat.succ_lt_succ h1) (Nat.succ_lt_succ h2))
      simp only [avS, hc]
      simp only [List.getElem_cons_zero] at h0
      omega
theorem RdD.bulk {P : Program} {H : Type} {B : DataW H → Nat} {BA : List (DataW H) → Nat} (hn : BA [] = 0) (hc : ∀ d r, BA (d :: r) = B d + BA r) (h1 : ∀ d, 1 ≤ B d) (hs : ∀ s, B (.lit (.string s)) = s.length + 1)
    (hsl : ∀ a b, B (.slice a b) = BA a + BA b + 1) (hag : ∀ a, B (.agg a) = BA a + 1) {t : TypeId} {d : DataW H} {a : AV} (h : RdD P t d a) : avB a + 1 ≤ B d := by
  induction h with
  | bool => simpa [avB] using h1 _
  | int => simpa [avB] using h1 _
  | str => simp [avB, hs]
  | nils => simpa [avB, avS] using h1 _
  | sl ht hl hm h ih =>
    have := bulk_all (P := P) (B := B) hn hc hl ih
    rw [hsl]; simp only [avB]; omega
  | st ht hd hx h ih =>
    have := bulk_all (P := P) (B := B) hn hc (by omega) (fun i a b => ih i a b (by omega))
    rw [hag]; simp only [avB]
    rename_i t fs ds xs
    have k1 := avC_flat xs
    have k2 := avC_le_avS xs
    omega
end Go.Ab
end
section
set_option linter.unusedVariables false
set_option linter.unusedSimpArgs false
set_option maxRecDepth 20000
set_option maxHeartbeats 4000000
namespace Go.Proofs.YtpehmhlgldbeoaaGreatDoor
open Go Go.Ab
theorem avS_fils (l : List Fil) : l.length ≤ avS (fils l) ∧ ∀ f ∈ l, f.path.length + f.text.length ≤ avS (fils l) := by
  induction l with
  | nil => exact ⟨Nat.zero_le _, fun f hf => by cases hf⟩
  | cons g r ih =>
    have e : avS (fils (g :: r)) = (g.path.length + (g.text.length + (0 + 0))) + 1 + avS (fils r) := by
      show avS (filA g :: fils r) = _
      simp only [avS, filA, avB, avC]
    rw [e]
    refine ⟨by rw [List.length_cons]; omega, fun f hf => ?_⟩
    rcases List.mem_cons.1 hf with rfl | hf
    · omega
    · have := ih.2 f hf; omega
theorem fils_of {l : List Fil} (hk : avB (.sl true false 3 (fils l)) ≤ 1048576) : FilsOk l := by
  have h : avS (fils l) ≤ 1048576 := by simpa only [avB] using hk
  have := avS_fils l
  exact ⟨by omega, fun f hf => by have := this.2 f hf; omega, fun f hf => by have := this.2 f hf; omega⟩
end Go.Proofs.YtpehmhlgldbeoaaGreatDoor
end
section
set_option linter.unusedVariables false
set_option linter.unusedSimpArgs false
set_option maxRecDepth 20000
set_option maxHeartbeats 4000000
namespace Go.Proofs.YtpehmhlgldbeoaaGreatDoor
open Go Go.Ab
def cutF (dir : List UInt8) (f : Fil) : Fil := ⟨f.path.drop (dir.length + 1), f.text, f.run⟩
def undT (l : List Fil) (dir : List UInt8) : List Fil := (l.filter (fun f => insT dir f.path)).map (cutF dir)
def undE (l : List Fil) (dir : List UInt8) : Nat := if chkT l = 0 then (if isPathB dir = true then (if undT l dir = [] then 5 else 0) else 1) else chkT l
theorem und_step {l : List Fil} {i : Nat} (h : i < l.length) (dir : List UInt8) : undT (l.take (i + 1)) dir = undT (l.take i) dir ++ (if insT dir l[i].path = true then [cutF dir l[i]] else []) := by
  unfold undT
  rw [List.take_succ_eq_append_getElem h, List.filter_append, List.map_append]
  congr 1
  cases hi : insT dir l[i].path with
  | true => rw [List.filter_cons_of_pos (by simpa using hi)]; rfl
  | false => rw [List.filter_cons_of_neg (by simpa using hi)]; rfl
theorem und_len (l : List Fil) (dir : List UInt8) : (undT l dir).length ≤ l.length := by
  unfold undT; rw [List.length_map]; exact List.length_filter_le _ _
def outV (k : Nat) (out : List Fil) : AV := match out with | [] => .nils | _ :: _ => .ms k out.length 0 out.length 3 false
def outB (out : List Fil) : Option Box := match out with | [] => none | _ :: _ => some (.cells (celsF out) ⟨false, none⟩)
theorem Under_ok {st fl : Bool} (l : List Fil) (dir : List UInt8) (hl : FilsOk l) (hd : dir.length ≤ 1000000000) : Calc cx 33 [.sl st fl 3 (fils l), .str dir] (flatAV (undT l dir, undE l dir)) :=
  pure_intro (fun a w => Tryz.call33 a w) Tryz.func33 rfl Tryz.ntmps33 rfl (flatAV_free _) fun B => by
    have hll := fils_len l
    have hlen := hl.len
    have hC := Check_ok (st := st) (fl := fl) l hl
    have hP := isPath_ok dir (by omega)
    have rt : ∀ (x : List Fil) (e : Nat), e ≠ 0 → flatAV (x, e) = .tup [.nils, .int .i64 (e : Nat)] := fun x e he => by unfold flatAV; rw [if_neg he]
    have rf : ∀ e : Int, Free true (.tup [.nils, .int .i64 e]) := fun e => .tup (by intro x hx; simp at hx; rcases hx with rfl | rfl; exact .nils; exact .int)
    unfold undE
    by_cases hc : chkT l = 0
    case neg =>
      rw [if_neg hc, rt _ _ hc]
      refine pa [.v (.int .i64 (chkT l : Nat)), .b true] rfl ?_ ?_
      · (repeat' with_reducible apply AllP_cons) <;> try exact aC
        · exact ⟨_, hC, .cons (.refl (.sl (fun h => by cases h) (fils_free l))) (.nil _)⟩
        · show ((((chkT l : Nat) : Int)) != 0) = true
          rw [chk_bne]; simpa using hc
      exact S_retc (rf _) rfl trivial rfl
    rw [hc] at hC
    rw [if_pos hc]
    cases hp : isPathB dir with
    | false =>
      rw [hp] at hP
      rw [if_neg (by simp), rt _ _ (by decide)]
      refine pa [.v (.int .i64 ((0 : Nat) : Int)), .b false, .v (.bool false), .b true] rfl ?_ ?_
      · (repeat' with_reducible apply AllP_cons) <;> try exact aC
        · exact ⟨_, hC, .cons (.refl (.sl (fun h => by cases h) (fils_free l))) (.nil _)⟩
        · exact ⟨_, hP, .cons (.refl .str) (.nil _)⟩
      exact S_retc (rf _) rfl trivial rfl
    | true =>
      rw [hp] at hP
      rw [if_pos rfl]
      refine pa [.v (.int .i64 ((0 : Nat) : Int)), .b false, .v (.bool true), .b false] rfl ?_ ?_
      · (repeat' with_reducible apply AllP_cons) <;> try exact aC
        · exact ⟨_, hC, .cons (.refl (.sl (fun h => by cases h) (fils_free l))) (.nil _)⟩
        · exact ⟨_, hP, .cons (.refl .str) (.nil _)⟩
      refine S_dead ?_ ⟨_, _, .inl rfl⟩
      refine S_dead ?_ ⟨_, _, .inl rfl⟩
      refine S_while (α := Nat) (fun i => [(1, .str dir), (7, outV 1 (undT (l.take i) dir)), (18, .sl st fl 3 (fils l)), (19, .int .i64 (((fils l).length : Nat) : Int)), (20, .int .i64 (i : Nat))]) (fun i => [(i, none), ((undT (l.take i) dir).length, outB (undT (l.take i) dir))]) (fun i => i ≤ l.length) (fun i => l.length - i) 0
        (Nat.zero_le _) (.cons rfl (.cons rfl (.cons rfl (.cons rfl (.cons rfl (.nil _)))))) rfl ?_
      intro i hi
      have hi : i ≤ l.length := hi
      by_cases hlt : i < l.length
      · have e1 : decide ((i : Int) < (((fils l).length : Nat) : Int)) = true := decide_eq_true (by omega)
        have g1 : (fils l)[(i : Int).toNat]? = some (filA l[i]) := fils_get hlt
        have hm := List.getElem_mem hlt
        have hN := inside_ok dir l[i].path (by omega)
        have hU := und_step hlt dir
        have hul := und_len (l.take i) dir
        rw [List.length_take] at hul
        generalize undT (l.take i) dir = o at hU hul
        cases hin : insT dir l[i].path with
        | false =>
          rw [hin] at hN hU
          rw [if_neg (by simp), List.append_nil] at hU
          cases o with
          | nil =>
            refine pa [.b true, .v (filA l[i]), .v (.bool false), .b false, .s] rfl ?_ ?_
            · (repeat' with_reducible apply AllP_cons) <;> try exact aC
              · exact ⟨_, hN, .cons (.refl .str) (.cons (.refl .str) (.nil _))⟩
            refine S_drop (id := 0) rfl ?_ ⟨.skip, _, .inr ⟨_, _, _, rfl⟩⟩
            refine pB [] rfl ?_
            exact S_round (i + 1) (by show l.length - (i + 1) < l.length - i; omega) hlt (.cons rfl (.cons (by rw [hU]; rfl) (.cons rfl (.cons rfl (.cons (nX (by omega)) (.nil _)))))) (by rw [hU]; rfl)
          | cons f r =>
            refine pa [.b true, .v (filA l[i]), .v (.bool false), .b false, .s] rfl ?_ ?_
            · (repeat' with_reducible apply AllP_cons) <;> try exact aC
              · exact ⟨_, hN, .cons (.refl .str) (.cons (.refl .str) (.nil _))⟩
            refine S_drop (id := 0) rfl ?_ ⟨.skip, _, .inr ⟨_, _, _, rfl⟩⟩
            refine pB [] rfl ?_
            exact S_round (i + 1) (by show l.length - (i + 1) < l.length - i; omega) hlt (.cons rfl (.cons (by rw [hU]; rfl) (.cons rfl (.cons rfl (.cons (nX (by omega)) (.nil _)))))) (by rw [hU]; rfl)
        | true =>
          rw [hin] at hN hU
          rw [if_pos rfl] at hU
          have hpl : dir.length + 1 ≤ l[i].path.length := ((ins_iff dir l[i].path).1 hin).1
          have hpm := hl.path _ hm
          have hw : IntKind.i64.wrap ((dir.length : Int) + 1) = ((dir.length + 1 : Nat) : Int) := w64 (by omega) (by omega)
          have hcut : cutL (some (IntKind.i64.wrap ((dir.length : Int) + 1))) none l[i].path = l[i].path.drop (dir.length + 1) := by
            rw [hw]; simp [cutL]
          cases o with
          | nil =>
            refine pan 44 [.b true, .v (filA l[i]), .v (.bool true), .b true] rfl ?_ ?_
            · (repeat' with_reducible apply AllP_cons) <;> try exact aC
              · exact ⟨_, hN, .cons (.refl .str) (.cons (.refl .str) (.nil _))⟩
            refine S_drop (id := 0) rfl ?_ ⟨.skip, _, .inr ⟨_, _, _, rfl⟩⟩
            refine S_heap [(i + 1, none), (1, some (.cells (celsF [cutF dir l[i]]) ⟨false, none⟩))] ?_ ?_
            · show ([(i + 1, none), (1, some (.cells [.str (cutL (some (IntKind.i64.wrap ((dir.length : Int) + 1))) none l[i].path), .str l[i].text, .bool l[i].run] ⟨false, none⟩))] : Heap) = _
              rw [hcut]; rfl
            refine pB [] rfl ?_
            exact S_round (i + 1) (by show l.length - (i + 1) < l.length - i; omega) hlt (.cons rfl (.cons (by rw [hU]; rfl) (.cons rfl (.cons rfl (.cons (nX (by omega)) (.nil _)))))) (by rw [hU]; rfl)
          | cons f r =>
            refine pan 44 [.b true, .v (filA l[i]), .v (.bool true), .b true] rfl ?_ ?_
            · (repeat' with_reducible apply AllP_cons) <;> try exact aC
              · exact ⟨_, hN, .cons (.refl .str) (.cons (.refl .str) (.nil _))⟩
              · show 0 + (f :: r).length * 3 = _
                rw [cels_len]; omega
              · show ((f :: r).length + 1) * 40 ≤ 140737488355328
                omega
              · show (f :: r).length + 1 ≤ 9223372036854775807
                omega
            refine S_drop (id := 0) rfl ?_ ⟨.skip, _, .inr ⟨_, _, _, rfl⟩⟩
            refine S_heap [(i + 1, none), ((f :: r).length + 1, some (.cells (celsF ((f :: r) ++ [cutF dir l[i]])) ⟨false, none⟩))] ?_ ?_
            · show ([(i + 1, none), ((f :: r).length + 1, some (.cells (dropA 0 (celsF (f :: r)) ++ [.str (cutL (some (IntKind.i64.wrap ((dir.length : Int) + 1))) none l[i].path), .str l[i].text, .bool l[i].run]) ⟨false, none⟩))] : Heap) = _
              rw [hcut, celsF_add]; rfl
            refine pB [] rfl ?_
            exact S_round (i + 1) (by show l.length - (i + 1) < l.length - i; omega) hlt (.cons rfl (.cons (by rw [hU]; show AV.ms 1 ((f :: r).length + 1) 0 ((f :: r).length + 1) 3 false = outV 1 ((f :: r) ++ [cutF dir l[i]]); simp [outV]) (.cons rfl (.cons rfl (.cons (nX (by omega)) (.nil _)))))) (by rw [hU]; show _ = [(i + 1, none), (((f :: r) ++ [cutF dir l[i]]).length, outB ((f :: r) ++ [cutF dir l[i]]))]; rw [List.length_append]; rfl)
      · have hil : i = l.length := by omega
        subst hil
        have e1 : decide ((l.length : Int) < (((fils l).length : Nat) : Int)) = false := decide_eq_false (by omega)
        rw [List.take_length]
        have hcl := cels_len (undT l dir)
        have hul := und_len l dir
        cases ho : undT l dir with
        | nil =>
          rw [if_pos rfl, rt _ _ (by decide)]
          refine pa [.b false, .v (.bool true), .b true] rfl ?_ ?_
          · (repeat' with_reducible apply AllP_cons) <;> try exact aC
            · exact OpSpec.nilEq rfl Tryz.underlying22 rfl rfl (.inl ⟨rfl, rfl⟩)
          exact S_retc (rf _) rfl trivial rfl
        | cons f r =>
          rw [if_neg (by simp)]
          rw [ho] at hcl hul
          refine pa [.b false, .v (.bool false), .b false] rfl ?_ ?_
          · (repeat' with_reducible apply AllP_cons) <;> try exact aC
            · exact OpSpec.nilEq rfl Tryz.underlying22 rfl rfl (.inr ⟨_, _, _, _, _, _, rfl, by simp, rfl⟩)
          refine S_ret ⟨_, _, rfl, trivial, _, rfl, ?_⟩
          show Frz true _ (.tup [.ms 1 (f :: r).length 0 (f :: r).length 3 false, .int .i64 0]) (.tup [.sl true false 3 (fils (f :: r)), .int .i64 0])
          exact Fzs.tup (.cons (.ms rfl (by show 0 + (f :: r).length * 3 ≤ (celsF (f :: r)).length; omega) (by rw [List.drop_zero]; exact List.take_of_length_le (by omega)) (fil_size _) (fils_len _) (fils_free _)) (.cons (.refl .int) .nil))
end Go.Proofs.YtpehmhlgldbeoaaGreatDoor
end
section
set_option linter.unusedVariables false
set_option linter.unusedSimpArgs false
set_option maxRecDepth 20000
set_option maxHeartbeats 4000000
namespace Go.Proofs.YtpehmhlgldbeoaaGreatDoor
open Go Go.Ab
def flatSV (y : List Fil × Nat) : AV := .tup [.sl true false 3 (fils (if y.2 = 0 then y.1 else [])), .int .i64 (y.2 : Nat)]
theorem flatS {f : FuncId} {args : List AV} {y : List Fil × Nat} (h : Calc cx f args (flatAV y)) : Calc cx f args (flatSV y) :=
  h.weak (.tup (by intro x hx; simp at hx; rcases hx with rfl | rfl; exact .sl (fun _ => rfl) (fils_free _); exact .int)) fun r w v hv => by
    unfold flatAV at hv
    unfold flatSV
    by_cases he : y.2 = 0
    · rw [if_pos he] at hv ⊢; exact hv
    · rw [if_neg he] at hv ⊢
      cases hv with
      | tup hn hall =>
        refine .tup hn fun i hi => ?_
        match i, hi with
        | 0, hi =>
          have h0 := hall 0 (by simp)
          have h0 : VRel r w _ .nils := h0
          show VRel r w _ (.sl true false 3 [])
          generalize Array.getD _ 0 undef = z at h0 ⊢
          cases h0
          exact .sl0 (fun h => by cases h)
        | 1, hi => exact hall 1 (by simp)
        | k + 2, hi => exact absurd hi (by simp)
end Go.Proofs.YtpehmhlgldbeoaaGreatDoor
end
section
set_option linter.unusedVariables false
set_option linter.unusedSimpArgs false
set_option maxRecDepth 20000
namespace Go.Proofs.YtpehmhlgldbeoaaGreatDoor
open Go Go.Ab Go.Shelf Go.RowKit Go.Lib Go.Sort
def lay_grow_ren : Go.Shelf.Ren := ⟨fun | 4 => 96 | n => n, fun | 22 => 22 | 25 => 48 | 3 => 3 | 4 => 4 | 9 => 9 | 20 => 20 | 0 => 0 | n => n, fun | n => n⟩
theorem lay_grow : Go.Proofs.Lays8.n4 Tryz.prog lay_grow_ren := {
  mixed := by kernel_rfl
  f4 := ⟨Tryz.f96.name, by decide, Tryz.func96.trans (congrArg some (by kernel_rfl))⟩
  t0 := Tryz.underlying0
  a0 := Tryz.isAgg0
  z0 := Tryz.sizeOf0
  v0 := Tryz.zeroValue0
  t3 := Tryz.underlying3
  a3 := Tryz.isAgg3
  z3 := Tryz.sizeOf3
  v3 := Tryz.zeroValue3
  t4 := Tryz.underlying4
  a4 := Tryz.isAgg4
  z4 := Tryz.sizeOf4
  v4 := Tryz.zeroValue4
  t9 := Tryz.underlying9
  a9 := Tryz.isAgg9
  z9 := Tryz.sizeOf9
  v9 := Tryz.zeroValue9
  t20 := Tryz.underlying20
  a20 := Tryz.isAgg20
  z20 := Tryz.sizeOf20
  v20 := Tryz.zeroValue20
  t22 := Tryz.underlying22
  a22 := Tryz.isAgg22
  z22 := Tryz.sizeOf22
  v22 := Tryz.zeroValue22 }
end Go.Proofs.YtpehmhlgldbeoaaGreatDoor
end
section
set_option linter.unusedVariables false
set_option linter.unusedSimpArgs false
namespace Go.Ab
open Go Go.Shelf Go.RowKit Go.Lib
theorem Grow_gen {cx : Cx} {ρ : Ren} (L : Go.Proofs.Lays8.n4 cx.P ρ) (he : Enters cx.P (ρ.f 4)) {i0 : TypeInfo} {z : Value} (hi0 : cx.P.info? (ρ.t 25) = some i0) (hz0 : i0.zero = some z) (hs0 : 0 < i0.size) (hzs : z.cells.size = i0.size)
    {σ σ' : Heap} {id ver n : Nat} (ha : allocH σ (.cells [] ⟨false, none⟩) = (id, ver, σ')) (hb : n * i0.bytes ≤ 140737488355328) (h63 : n ≤ 4611686018427387904) :
    CallOk cx (ρ.f 4) [.nils, .int .i64 (n : Nat)] σ (fun e s => e = .ret (.ms id ver 0 0 i0.size false) ∧ s = σ') := by
  refine ⟨he, fun r w vs hi hv => ?_⟩
  obtain ⟨hs, hv⟩ := hv
  have g0 := hv 0 (by simp)
  have g1 := hv 1 (by simp)
  have hvs : vs = #[vs.getD 0 undef, vs.getD 1 undef] := by
    have hs : vs.size = 2 := hs
    refine Array.ext (by simp [hs]) fun j h1 h2 => ?_
    match j, h1 with
    | 0, h1 => simp [Array.getD, h1]
    | 1, h1 => simp [Array.getD, h1]
    | j + 2, h1 => omega
  rw [hvs]
  generalize vs.getD 0 undef = a at g0
  generalize vs.getD 1 undef = b at g1
  have g0 : VRel r w a .nils := g0
  have g1 : VRel r w b (.int .i64 (n : Nat)) := g1
  cases g0
  cases g1
  by_cases hn : n = 0
  · subst hn
    refine (Go.Proofs.Any8.slices_Grow_room L none 0 0 0 w (Nat.le_refl _) (by decide) (by decide) (Nat.le_refl _)).mono ?_
    rintro e w' ⟨rfl, rfl⟩
    obtain ⟨ha1, ha2, ha3⟩ := allocH_spec ha
    obtain ⟨q1, q2⟩ := hi.ghost ha1 ha2 ha3
    exact ⟨_, _, r, ⟨rfl, rfl⟩, .ms0, q1, q2⟩
  · refine (Go.Proofs.Any8.slices_Grow_grow L i0 z hi0 hz0 hs0 none 0 0 n [] w (Nat.le_refl _) (by omega) (by simpa using hb) (by omega) (by simp) (fun _ => rfl) (fun a h => by cases h)).mono ?_
    rintro e w' ⟨rfl, rfl⟩
    obtain ⟨hi1, hx1⟩ := hi.heap_eq (w' := w.drew) rfl rfl rfl rfl
    obtain ⟨r', k1, k2, k3, k4, k5⟩ := hi1.newCells (c := (([] : List Value).toArray ++ Builtin.zeroCells z.cells (0 + n - 0) ++ Builtin.zeroCells z.cells (grownCap w (0 + n) 0 (ρ.t 25) - (0 + n)))) (t := ρ.t 25) ha (fun j hj => absurd hj (by simp)) (fun x hx => by cases hx) (fun T h => by cases h)
    have hG := grownCap_ge w (0 + n) 0 (ρ.t 25)
    refine ⟨_, _, r', ⟨rfl, rfl⟩, ?_, k1, hx1.trans k2⟩
    refine VRel.ms (o := 0) (off := 0) k3 ⟨_, _, _, heap_alloc_self w.drew _, ?_⟩ (Nat.zero_le _) (fun h => by cases h)
    generalize grownCap w (0 + n) 0 (ρ.t 25) = G at hG
    have hsz : ∀ k, (Builtin.zeroCells z.cells k).size = k * i0.size := fun k => by rw [size_zeroCells, hzs]
    show 0 + 0 + G * i0.size ≤ (([] : List Value).toArray ++ Builtin.zeroCells z.cells (0 + n - 0) ++ Builtin.zeroCells z.cells (G - (0 + n))).size
    rw [Array.size_append, Array.size_append, hsz, hsz]
    have : G * i0.size = (0 + n - 0) * i0.size + (G - (0 + n)) * i0.size := by
      rw [← Nat.add_mul]; congr 1; omega
    simp only [List.size_toArray, List.length_nil]
    omega
end Go.Ab
end
section
set_option linter.unusedVariables false
set_option linter.unusedSimpArgs false
set_option maxRecDepth 20000
set_option maxHeartbeats 4000000
namespace Go.Proofs.YtpehmhlgldbeoaaGreatDoor
open Go Go.Ab
theorem GrowF_ok {σ σ' : Heap} {id ver n : Nat} (ha : allocH σ (.cells [] ⟨false, none⟩) = (id, ver, σ')) (hn : n ≤ 1000000000000) :
    CallOk cx 96 [.nils, .int .i64 (n : Nat)] σ (fun e s => e = .ret (.ms id ver 0 0 3 false) ∧ s = σ') :=
  Grow_gen (cx := cx) (i0 := (Tryz.prog.types[48]'(by decide +kernel))) (z := .agg #[.string .empty, .string .empty, .bool false]) lay_grow (fun a w => Tryz.call96 a w) (by kernel_rfl) (by kernel_rfl) (by decide +kernel) (by kernel_rfl) ha (by
    have : (Tryz.prog.types[48]'(by decide +kernel)).bytes = 40 := by kernel_rfl
    rw [this]; omega) (by omega)
def szC (a b : List Fil) : Nat → Nat
  | 0 => 0
  | 1 => a.length
  | _ => a.length + b.length
def ccC (a b : List Fil) : Nat → List Fil
  | 0 => []
  | 1 => a
  | _ => a ++ b
theorem celsF_app (a b : List Fil) : celsF (a ++ b) = celsF a ++ celsF b := by
  unfold celsF fils; rw [List.map_append, List.flatMap_append]
theorem Concat_ok {st fl st' fl' : Bool} (a b : List Fil) (ha : a.length ≤ 1000000000) (hb : b.length ≤ 1000000000) :
    Calc cx 65 [.sl true true 1 [.sl st fl 3 (fils a), .sl st' fl' 3 (fils b)]] (.sl true false 3 (fils (a ++ b))) :=
  pure_intro (fun a w => Tryz.call65 a w) Tryz.func65 rfl Tryz.ntmps65 rfl (.sl (fun _ => rfl) (fils_free _)) fun B => by
    have hla := fils_len a
    have hlb := fils_len b
    refine pB [] rfl ?_
    refine S_while (α := Nat) (fun i => [(0, .sl true true 1 [.sl st fl 3 (fils a), .sl st' fl' 3 (fils b)]), (3, .int .i64 (szC a b i : Nat)), (9, .sl true true 1 [.sl st fl 3 (fils a), .sl st' fl' 3 (fils b)]), (10, .int .i64 2), (11, .int .i64 (i : Nat))]) (fun _ => []) (fun i => i ≤ 2) (fun i => 2 - i) 0
      (Nat.zero_le _) (.cons rfl (.cons rfl (.cons rfl (.cons rfl (.cons rfl (.nil _)))))) rfl ?_
    intro i hi
    have hi : i ≤ 2 := hi
    have hw0 : IntKind.i64.wrap (((0 : Nat) : Int) + (((fils a).length : Nat) : Int)) = (a.length : Int) := w64 (by omega) (by omega)
    have hw1 : IntKind.i64.wrap ((a.length : Int) + (((fils b).length : Nat) : Int)) = ((a.length + b.length : Nat) : Int) := w64 (by omega) (by omega)
    match i, hi with
    | 0, _ =>
      refine pa [.b true, .v (.sl st fl 3 (fils a)), .b false] rfl ?_ ?_
      · (repeat' with_reducible apply AllP_cons) <;> try exact aC
        · show decide (IntKind.i64.wrap (((0 : Nat) : Int) + (((fils a).length : Nat) : Int)) < 0) = false
          rw [hw0]; exact decide_eq_false (by omega)
      exact S_round 1 (by decide) (by decide) (.cons rfl (.cons (by show AV.int .i64 (IntKind.i64.wrap (((0 : Nat) : Int) + (((fils a).length : Nat) : Int))) = .int .i64 (a.length : Int); rw [hw0]) (.cons rfl (.cons rfl (.cons rfl (.nil _)))))) rfl
    | 1, _ =>
      refine pa [.b true, .v (.sl st' fl' 3 (fils b)), .b false] rfl ?_ ?_
      · (repeat' with_reducible apply AllP_cons) <;> try exact aC
        · show decide (IntKind.i64.wrap ((a.length : Int) + (((fils b).length : Nat) : Int)) < 0) = false
          rw [hw1]; exact decide_eq_false (by omega)
      exact S_round 2 (by decide) (by decide) (.cons rfl (.cons (by show AV.int .i64 (IntKind.i64.wrap ((a.length : Int) + (((fils b).length : Nat) : Int))) = .int .i64 ((a.length + b.length : Nat) : Int); rw [hw1]) (.cons rfl (.cons rfl (.cons rfl (.nil _)))))) rfl
    | 2, _ =>
      have hG := GrowF_ok (σ := []) (n := a.length + b.length) rfl (by omega)
      refine pB [.b false, .f (.ms 0 0 0 0 3 false) (fun _ => [(0, some (.cells [] ⟨false, none⟩))])] rfl ?_
      refine S_while (α := Nat) (fun i => [(25, .sl true true 1 [.sl st fl 3 (fils a), .sl st' fl' 3 (fils b)]), (26, .int .i64 2), (27, .int .i64 (i : Nat)), (6, .ms 0 i 0 (ccC a b i).length 3 false)]) (fun i => [(i, some (.cells (celsF (ccC a b i)) ⟨false, none⟩))]) (fun i => i ≤ 2) (fun i => 2 - i) 0
        (Nat.zero_le _) (.cons rfl (.cons rfl (.cons rfl (.cons rfl (.nil _))))) rfl ?_
      intro i hi
      have hi : i ≤ 2 := hi
      have hca := cels_len a
      match i, hi with
      | 0, _ =>
        refine pa [.b true, .v (.sl st fl 3 (fils a))] rfl ?_ ?_
        · (repeat' with_reducible apply AllP_cons) <;> try exact aC
          · exact cels_one a
          · exact cels_one a
          · show (0 + (fils a).length) * 40 ≤ 140737488355328
            omega
          · show 0 + (fils a).length ≤ 9223372036854775807
            omega
        refine S_round 1 (by decide) (by decide) (.cons rfl (.cons rfl (.cons rfl (.cons ?_ (.nil _))))) ?_
        · show AV.ms 0 1 0 (0 + (fils a).length) 3 false = AV.ms 0 1 0 a.length 3 false
          rw [hla, Nat.zero_add]
        · rfl
      | 1, _ =>
        refine pa [.b true, .v (.sl st' fl' 3 (fils b))] rfl ?_ ?_
        · (repeat' with_reducible apply AllP_cons) <;> try exact aC
          · exact cels_one b
          · exact cels_one b
          · show 0 + a.length * 3 = (celsF a).length
            omega
          · show (a.length + (fils b).length) * 40 ≤ 140737488355328
            omega
          · show a.length + (fils b).length ≤ 9223372036854775807
            omega
        refine S_round 2 (by decide) (by decide) (.cons rfl (.cons rfl (.cons rfl (.cons ?_ (.nil _))))) ?_
        · show AV.ms 0 2 0 (a.length + (fils b).length) 3 false = AV.ms 0 2 0 (a ++ b).length 3 false
          rw [hlb, List.length_append]
        · show ([(2, some (.cells (celsF a ++ celsF b) ⟨false, none⟩))] : Heap) = [(2, some (.cells (celsF (a ++ b)) ⟨false, none⟩))]
          rw [celsF_app]
      | 2, _ =>
        have hcl := cels_len (a ++ b)
        refine pB [.b false] rfl ?_
        refine S_ret ⟨_, _, rfl, trivial, _, rfl, ?_⟩
        show Frz true [(2, some (.cells (celsF (a ++ b)) ⟨false, none⟩))] (.ms 0 2 0 (a ++ b).length 3 false) (.sl true false 3 (fils (a ++ b)))
        exact .ms rfl (by omega) (by rw [List.drop_zero]; exact List.take_of_length_le (by omega)) (fil_size _) (fils_len _) (fils_free _)
theorem both_ok {st fl st' fl' : Bool} (a b : List Fil) (ha : FilsOk a) (hb : FilsOk b) : Calc cx 64 [.sl st fl 3 (fils a), .sl st' fl' 3 (fils b)] (.int .i64 ((if chkT a = 0 then chkT b else chkT a : Nat) : Int)) :=
  pure_intro (fun a w => Tryz.call64 a w) Tryz.func64 rfl Tryz.ntmps64 rfl .int fun B => by
    have hA := Check_ok (st := st) (fl := fl) a ha
    have hB := Check_ok (st := st') (fl := fl') b hb
    by_cases hc : chkT a = 0
    · rw [hc] at hA
      rw [if_pos hc]
      refine pa [.v (.int .i64 ((0 : Nat) : Int)), .b false, .v (.int .i64 (chkT b : Nat))] rfl ?_ ?_
      · (repeat' with_reducible apply AllP_cons) <;> try exact aC
        · exact ⟨_, hA, .cons (.refl (.sl (fun h => by cases h) (fils_free a))) (.nil _)⟩
        · exact ⟨_, hB, .cons (.refl (.sl (fun h => by cases h) (fils_free b))) (.nil _)⟩
      exact S_retc .int rfl trivial rfl
    · rw [if_neg hc]
      refine pa [.v (.int .i64 (chkT a : Nat)), .b true] rfl ?_ ?_
      · (repeat' with_reducible apply AllP_cons) <;> try exact aC
        · exact ⟨_, hA, .cons (.refl (.sl (fun h => by cases h) (fils_free a))) (.nil _)⟩
        · show ((((chkT a : Nat) : Int)) != 0) = true
          rw [chk_bne]; simpa using hc
      exact S_retc .int rfl trivial rfl
def fBx (v : Nat) (f : Fil) (w : Nat) (l : List Fil) : Heap := [filBx v f, (w, some (.cells (celsF l) ⟨false, none⟩))]
theorem Over1_ok (v : Nat) (f : Fil) (w : Nat) (l : List Fil) (g : Fil) (hf : f.path.length ≤ 1000000000000) :
    CallOk cx 68 [filA g, .ptr 0 v 0] (fBx v f w l) (fun o s => o = .ret (.bool (insT f.path g.path)) ∧ s = fBx v f w l) :=
  callOk_introT (fun a w => Tryz.call68 a w) Tryz.func68 rfl Tryz.ntmps68 rfl fun B => by
    have hN := inside_ok f.path g.path hf
    refine pa [.v (.bool (insT f.path g.path))] rfl ?_ ?_
    · (repeat' with_reducible apply AllP_cons) <;> try exact aC
      · exact ⟨_, hN, .cons (.refl .str) (.cons (.refl .str) (.nil _))⟩
    refine S_ret ⟨_, _, rfl, trivial, 2, Nat.le_refl _, LowH.of (fun e he x hx => ?_), _, .low .bool, rfl, rfl⟩
    have he : e ∈ [filBx v f, (w, some (.cells (celsF l) ⟨false, none⟩))] := he
    simp only [List.mem_cons, List.not_mem_nil, or_false] at he
    rcases he with rfl | rfl
    · cases hx
      refine .cells fun z hz => ?_
      have hz : z ∈ [AV.str f.path, .str f.text, .bool f.run] := hz
      simp at hz; rcases hz with rfl | rfl | rfl; exact .str; exact .str; exact .bool
    · cases hx
      exact .cells fun z hz => (Low.free (cels_free (st := true) l z hz))
theorem cels_at : ∀ {l : List Fil} {i : Nat} (h : i < l.length), ∃ r, (celsF l).drop (i * 3) = .str l[i].path :: .str l[i].text :: .bool l[i].run :: r
  | f :: l, 0, h => ⟨celsF l, rfl⟩
  | f :: l, i + 1, h => by
    obtain ⟨r, hr⟩ := cels_at (l := l) (i := i) (by simpa using h)
    refine ⟨r, ?_⟩
    have e : celsF (f :: l) = [.str f.path, .str f.text, .bool f.run] ++ celsF l := rfl
    have e2 : (i + 1) * 3 = ([.str f.path, .str f.text, .bool f.run] : List AV).length + i * 3 := by simp; omega
    rw [e, e2, List.drop_append, Nat.add_sub_cancel_left, hr, List.drop_eq_nil_of_le (by omega)]
    rfl
theorem cels_off (i : Nat) : offN 0 (mulN (i : Int).toNat 3) = i * 3 := by
  rw [Int.toNat_natCast, offN_eq, mulN_eq, Nat.zero_add]
theorem IndexFuncF_ok (v : Nat) (f : Fil) (w : Nat) (l : List Fil) (hf : f.path.length ≤ 1000000000000) (hl : l.length ≤ 1000000000) :
    CallOk cx 98 [.ms 1 w 0 l.length 3 false, .func (.func 68) [] [.ptr 0 v 0]] (fBx v f w l) (fun o s => o = .ret (.int .i64 (match l.findIdx? (fun g => insT f.path g.path) with | some i => (i : Int) | none => -1)) ∧ s = fBx v f w l) :=
  callOk_intro (fun a w => Tryz.call98 a w) Tryz.func98 rfl Tryz.ntmps98 rfl fun B => by
    refine pB [] rfl ?_
    refine S_while (α := Nat) (fun i => [(0, .ms 1 w 0 l.length 3 false), (1, .func (.func 68) [] [.ptr 0 v 0]), (7, .int .i64 (l.length : Nat)), (8, .int .i64 (i : Nat))]) (fun _ => fBx v f w l) (fun i => i ≤ l.length ∧ ∀ k (hk : k < l.length), k < i → insT f.path l[k].path = false) (fun i => l.length - i) 0
      ⟨Nat.zero_le _, fun k hk h => absurd h (Nat.not_lt_zero _)⟩ (.cons rfl (.cons rfl (.cons rfl (.cons rfl (.nil _))))) rfl ?_
    rintro i ⟨hi, hN⟩
    have hi : i ≤ l.length := hi
    by_cases hlt : i < l.length
    · have e1 : decide ((i : Int) < (l.length : Int)) = true := decide_eq_true (by omega)
      have hC := Over1_ok v f w l l[i] hf
      cases hin : insT f.path l[i].path with
      | true =>
        rw [hin] at hC
        refine pa [.b true, .v .top, .v (filA l[i]), .k (.bool true), .b true] rfl ?_ ?_
        · (repeat' with_reducible apply AllP_cons) <;> try exact aC
          · show 3 ≤ ((celsF l).drop (offN 0 (mulN (i : Int).toNat 3))).length
            rw [cels_off, List.length_drop, cels_len]; omega
          · show filA l[i] = .agg (List.take 3 ((celsF l).drop (offN 0 (mulN (i : Int).toNat 3))))
            obtain ⟨r, hr⟩ := cels_at hlt
            rw [cels_off, hr]; rfl
        refine S_ret ⟨_, _, rfl, trivial, ?_, rfl⟩
        have : l.findIdx? (fun g => insT f.path g.path) = some i := by
          rw [List.findIdx?_eq_some_iff_getElem]
          exact ⟨hlt, hin, fun j hj => by rw [hN j (by omega) hj]; simp⟩
        rw [this]; rfl
      | false =>
        rw [hin] at hC
        refine pa [.b true, .v .top, .v (filA l[i]), .k (.bool false), .b false] rfl ?_ ?_
        · (repeat' with_reducible apply AllP_cons) <;> try exact aC
          · show 3 ≤ ((celsF l).drop (offN 0 (mulN (i : Int).toNat 3))).length
            rw [cels_off, List.length_drop, cels_len]; omega
          · show filA l[i] = .agg (List.take 3 ((celsF l).drop (offN 0 (mulN (i : Int).toNat 3))))
            obtain ⟨r, hr⟩ := cels_at hlt
            rw [cels_off, hr]; rfl
        refine S_round (i + 1) (by show l.length - (i + 1) < l.length - i; omega) ⟨hlt, fun k hk h => ?_⟩ (.cons rfl (.cons rfl (.cons rfl (.cons (nX (by omega)) (.nil _))))) rfl
        have h : k < i + 1 := h
        by_cases hki : k < i
        · exact hN k hk hki
        · have : k = i := by omega
          subst this; exact hin
    · have e1 : decide ((i : Int) < (l.length : Int)) = false := decide_eq_false (by omega)
      refine pB [.b false] rfl ?_
      refine S_ret ⟨_, _, rfl, trivial, ?_, rfl⟩
      have : l.findIdx? (fun g => insT f.path g.path) = none := by
        rw [List.findIdx?_eq_none_iff]
        intro x hx
        obtain ⟨k, hk, rfl⟩ := List.getElem_of_mem hx
        exact hN k hk (by omega)
      rw [this]; rfl
theorem ContainsFuncF_ok (v : Nat) (f : Fil) (w : Nat) (l : List Fil) (hf : f.path.length ≤ 1000000000000) (hl : l.length ≤ 1000000000) :
    CallOk cx 67 [.ms 1 w 0 l.length 3 false, .func (.func 68) [] [.ptr 0 v 0]] (fBx v f w l) (fun o s => o = .ret (.bool (l.any fun g => insT f.path g.path)) ∧ s = fBx v f w l) :=
  callOk_intro (fun a w => Tryz.call67 a w) Tryz.func67 rfl Tryz.ntmps67 rfl fun B => by
    have hI := IndexFuncF_ok v f w l hf hl
    refine pB [.k (.int .i64 (match l.findIdx? (fun g => insT f.path g.path) with | some i => (i : Int) | none => -1))] rfl ?_
    refine S_ret ⟨_, _, rfl, trivial, ?_, rfl⟩
    show Out.ret (.bool (decide ((match l.findIdx? (fun g => insT f.path g.path) with | some i => (i : Int) | none => -1) ≥ 0))) = _
    congr 2
    cases h : l.findIdx? (fun g => insT f.path g.path) with
    | none =>
      rw [List.findIdx?_eq_none_iff] at h
      rw [List.any_eq_false.2 (fun x hx => by have := h x hx; rw [this]; simp)]; rfl
    | some i =>
      rw [List.findIdx?_eq_some_iff_getElem] at h
      obtain ⟨h1, h2, _⟩ := h
      rw [List.any_eq_true.2 ⟨_, List.getElem_mem h1, h2⟩]
      show decide ((i : Int) ≥ 0) = true
      exact decide_eq_true (by omega)
end Go.Proofs.YtpehmhlgldbeoaaGreatDoor
end
section
set_option linter.unusedVariables false
set_option linter.unusedSimpArgs false
set_option maxRecDepth 20000
set_option maxHeartbeats 4000000
namespace Go.Proofs.YtpehmhlgldbeoaaGreatDoor
open Go Go.Ab
def ksP (l : List Fil) : List (List UInt8) := l.foldl (fun ks f => addU ks f.path) []
def lastF (l : List Fil) (p : List UInt8) : Fil := (l.reverse.find? (fun f => f.path == p)).getD ⟨[], [], false⟩
def vaP (l : List Fil) : List UInt8 → AV := fun p => filA (lastF l p)
def ovT (c : List Fil) : List Fil := (sortT (ksP c)).map (lastF c)
def ovX (o : List Fil) : Nat := if (o.any fun f => o.any fun g => insT f.path g.path) = true then 6 else if 60 < o.length then 2 else 0
def ovE (a b : List Fil) : Nat := if (if chkT a = 0 then chkT b else chkT a) = 0 then ovX (ovT (a ++ b)) else (if chkT a = 0 then chkT b else chkT a)
theorem ksP_mem {l : List Fil} {p : List UInt8} : p ∈ ksP l ↔ ∃ f ∈ l, f.path = p := by
  unfold ksP; rw [addU_fold_mem]; simp
theorem ksP_nodup (l : List Fil) : (ksP l).Nodup := addU_fold_nodup _ l [] .nil
theorem ksP_len (l : List Fil) : (ksP l).length ≤ l.length := by
  have := addU_fold_len (fun f : Fil => f.path) l []
  simpa [ksP] using this
theorem ksP_step {l : List Fil} {i : Nat} (h : i < l.length) : ksP (l.take (i + 1)) = addU (ksP (l.take i)) l[i].path := by
  unfold ksP; rw [List.take_succ_eq_append_getElem h, List.foldl_append]; rfl
theorem lastF_step {l : List Fil} {i : Nat} (h : i < l.length) (p : List UInt8) : lastF (l.take (i + 1)) p = if p = l[i].path then l[i] else lastF (l.take i) p := by
  unfold lastF
  rw [List.take_succ_eq_append_getElem h, List.reverse_append]
  show ((l[i] :: (l.take i).reverse).find? _).getD _ = _
  rw [List.find?_cons]
  by_cases e : p = l[i].path
  · rw [if_pos e, show (l[i].path == p) = true by simp [e]]; rfl
  · rw [if_neg e, show (l[i].path == p) = false by simpa using Ne.symm e]
theorem lastF_mem {l : List Fil} {p : List UInt8} (h : p ∈ ksP l) : lastF l p ∈ l ∧ (lastF l p).path = p := by
  unfold lastF
  cases hq : l.reverse.find? (fun f => f.path == p) with
  | none =>
    rw [List.find?_eq_none] at hq
    obtain ⟨f, hf, e⟩ := ksP_mem.1 h
    exact absurd (by simpa using e) (hq f (by simpa using hf))
  | some f => exact ⟨by simpa using List.mem_of_find?_eq_some hq, by simpa using List.find?_some hq⟩
theorem mapP_step {l : List Fil} {i : Nat} (h : i < l.length) :
    mapBx (addK (ksP (l.take i)) l[i].path) (updF (vaP (l.take i)) l[i].path (filA l[i])) = mapBx (ksP (l.take (i + 1))) (vaP (l.take (i + 1))) := by
  unfold mapBx
  rw [ksP_step h]
  show some (Box.map (mapF (addU _ _) _) none) = some (Box.map (mapF (addU _ _) _) none)
  congr 2
  refine mapF_congr fun n _ => ?_
  unfold updF vaP
  rw [lastF_step h]
  split <;> rfl
theorem Over_ok {st fl st' fl' : Bool} (a b : List Fil) (ha : FilsOk a) (hb : FilsOk b) : Calc cx 39 [.sl st fl 3 (fils a), .sl st' fl' 3 (fils b)] (flatAV (ovT (a ++ b), ovE a b)) :=
  pure_intro (fun a w => Tryz.call39 a w) Tryz.func39 rfl Tryz.ntmps39 rfl (flatAV_free _) fun B => by
    have hB := both_ok (st := st) (fl := fl) (st' := st') (fl' := fl') a b ha hb
    have rt : ∀ (x : List Fil) (e : Nat), e ≠ 0 → flatAV (x, e) = .tup [.nils, .int .i64 (e : Nat)] := fun x e he => by unfold flatAV; rw [if_neg he]
    have rf : ∀ e : Int, Free true (.tup [.nils, .int .i64 e]) := fun e => .tup (by intro x hx; simp at hx; rcases hx with rfl | rfl; exact .nils; exact .int)
    have hfr : ∀ σ : Heap, Frzs σ [.sl st fl 3 (fils a), .sl st' fl' 3 (fils b)] [.sl st fl 3 (fils a), .sl st' fl' 3 (fils b)] := fun σ => .cons (.refl (.sl (fun h => by cases h) (fils_free a))) (.cons (.refl (.sl (fun h => by cases h) (fils_free b))) (.nil _))
    unfold ovE
    obtain ⟨e, he⟩ : ∃ e, e = if chkT a = 0 then chkT b else chkT a := ⟨_, rfl⟩
    rw [← he] at hB ⊢
    by_cases h0 : e = 0
    case neg =>
      rw [if_neg h0, rt _ _ h0]
      refine pa [.v (.int .i64 (e : Nat)), .b true] rfl ?_ ?_
      · (repeat' with_reducible apply AllP_cons) <;> try exact aC
        · exact ⟨_, hB, hfr _⟩
        · show (((e : Int)) != 0) = true
          rw [chk_bne]; simpa using h0
      exact S_retc (rf _) rfl trivial rfl
    rw [if_pos h0]
    rw [h0] at hB he
    have hca : chkT a = 0 := by
      by_cases h : chkT a = 0
      · exact h
      · rw [if_neg h] at he; exact absurd he.symm h
    have hcb : chkT b = 0 := by rw [if_pos hca] at he; exact he.symm
    have hda := DirOk.of hca
    have hdb := DirOk.of hcb
    have hCC := Concat_ok (st := st) (fl := fl) (st' := st') (fl' := fl') a b ha.len hb.len
    obtain ⟨c, hc⟩ : ∃ c, c = a ++ b := ⟨_, rfl⟩
    rw [← hc] at hCC ⊢
    have hcl : c.length ≤ 120 := by rw [hc, List.length_append]; have := hda.len; have := hdb.len; omega
    have hcp : ∀ f ∈ c, f.path.length ≤ 100 := by
      intro f hf
      rw [hc] at hf
      rcases List.mem_append.1 hf with hf | hf
      · exact (path_fst (hda.path f hf)).2.1
      · exact (path_fst (hdb.path f hf)).2.1
    have hcn := fils_len c
    refine pa [.v (.int .i64 ((0 : Nat) : Int)), .b false, .f (.map 0 0) (fun _ => [(0, some (.map [] (some ([], 0))))]), .v (.sl true false 3 (fils c))] rfl ?_ ?_
    · (repeat' with_reducible apply AllP_cons) <;> try exact aC
      · exact ⟨_, hB, hfr _⟩
      · exact OpSpec.mapN (C := []) rfl trivial
      · exact ⟨_, hCC, .cons (.refl (.sl (fun h => by cases h) (by intro x hx; simp at hx; rcases hx with rfl | rfl; exact .sl (fun h => by cases h) (fils_free a); exact .sl (fun h => by cases h) (fils_free b)))) (.nil _)⟩
    refine S_unstamp (id := 0) rfl ?_ ⟨_, _, .inl rfl⟩
    refine S_dead ?_ ⟨_, _, .inl rfl⟩
    refine S_while (α := Nat) (fun i => [(7, .map 0 0), (25, .sl true false 3 (fils c)), (26, .int .i64 (((fils c).length : Nat) : Int)), (27, .int .i64 (i : Nat))]) (fun i => [(0, mapBx (ksP (c.take i)) (vaP (c.take i))), (i, none)]) (fun i => i ≤ c.length) (fun i => c.length - i) 0
      (Nat.zero_le _) (.cons rfl (.cons rfl (.cons rfl (.cons rfl (.nil _))))) rfl ?_
    intro i hi
    have hi : i ≤ c.length := hi
    by_cases hlt : i < c.length
    · have e1 : decide ((i : Int) < (((fils c).length : Nat) : Int)) = true := decide_eq_true (by omega)
      have g1 : (fils c)[(i : Int).toNat]? = some (filA c[i]) := fils_get hlt
      refine pa [.b true, .v (filA c[i]), .f (.tup []) (fun σ => (0, mapBx (addK (ksP (c.take i)) c[i].path) (updF (vaP (c.take i)) c[i].path (filA c[i]))) :: σ.tail), .s] rfl ?_ ?_
      · (repeat' with_reducible apply AllP_cons) <;> try exact aC
        · exact OpSpec.mput (kt := 9) (et := 48) (ks := ksP (c.take i)) (val := vaP (c.take i)) (s := c[i].path) rfl (Tryz.underlying85) rfl rfl rfl rfl rfl (ksP_nodup _) rfl
      refine S_drop (id := 1) rfl ?_ ⟨.skip, _, .inr ⟨_, _, _, rfl⟩⟩
      refine S_heap [(0, mapBx (ksP (c.take (i + 1))) (vaP (c.take (i + 1)))), (i + 1, none)] ?_ ?_
      · rw [← mapP_step hlt]; rfl
      refine pB [] rfl ?_
      exact S_round (i + 1) (by show c.length - (i + 1) < c.length - i; omega) hlt (.cons rfl (.cons rfl (.cons rfl (.cons (nX (by omega)) (.nil _))))) rfl
    have hil : i = c.length := by omega
    subst hil
    have e1 : decide ((c.length : Int) < (((fils c).length : Nat) : Int)) = false := decide_eq_false (by omega)
    rw [List.take_length]
    generalize hu : c.length = u at *
    have hkn := ksP_nodup c
    have hkl := ksP_len c
    refine pa [.b false, .f (.func (.func 97) [] [.ptr 1 (u + 1) 0]) (fun σ => (0, mapBx (ksP c) (vaP c)) :: [(u + 1, some (.cells [.map 0 0] ⟨false, some 85⟩))]), .k (.sl true false 1 ((sortT (ksP c)).map AV.str)), .s] rfl ?_ ?_
    · (repeat' with_reducible apply AllP_cons) <;> try exact aC
      · exact KeysF_ok rfl
      · exact SortedF_ok (ks := ksP c) (val := vaP c) rfl rfl hkn (by omega) (fun p hp => by
          obtain ⟨f, hf, rfl⟩ := ksP_mem.1 hp
          have := hcp f hf; omega)
    refine S_drop (id := 1) rfl ?_ ⟨.skip, _, .inr ⟨_, _, _, rfl⟩⟩
    refine pB [] rfl ?_
    refine S_ghostF (t := 10) 3 ⟨false, none⟩ rfl rfl ⟨_, _, .inl rfl⟩ ?_
    have hsl : (sortT (ksP c)).length ≤ 120 := by rw [(sortT_perm _).length_eq]; omega
    have hkm : ∀ p ∈ sortT (ksP c), p ∈ ksP c := fun p hp => (sortT_perm _).mem_iff.1 hp
    have hov : ovT c = (sortT (ksP c)).map (lastF c) := rfl
    rw [hov]
    generalize hks : sortT (ksP c) = ks at *
    have hkt : (ks.map AV.str).length = ks.length := List.length_map ..
    refine S_while (α := Nat) (fun j => [(7, .map 0 0), (10, .ms 1 (u + 2 + j) 0 j 3 false), (38, .sl true false 1 (ks.map AV.str)), (39, .int .i64 (((ks.map AV.str).length : Nat) : Int)), (40, .int .i64 (j : Nat))]) (fun j => [(0, mapBx (ksP c) (vaP c)), (u + 2 + j, some (.cells (celsF ((ks.take j).map (lastF c))) ⟨false, none⟩))]) (fun j => j ≤ ks.length) (fun j => ks.length - j) 0
      (Nat.zero_le _) (.cons rfl (.cons rfl (.cons rfl (.cons rfl (.cons rfl (.nil _)))))) rfl ?_
    intro j hj
    have hj : j ≤ ks.length := hj
    by_cases hjt : j < ks.length
    · have e2 : decide ((j : Int) < (((ks.map AV.str).length : Nat) : Int)) = true := decide_eq_true (by omega)
      have g2 : (ks.map AV.str)[(j : Int).toNat]? = some (.str ks[j]) := by rw [Int.toNat_natCast, List.getElem?_map, List.getElem?_eq_getElem hjt]; rfl
      have hn := hkm _ (List.getElem_mem hjt)
      have hcl2 : (celsF ((ks.take j).map (lastF c))).length = j * 3 := by rw [cels_len, List.length_map, List.length_take, Nat.min_eq_left (by omega)]
      refine pa [.b true, .v (.str ks[j]), .v (filA (lastF c ks[j]))] rfl ?_ ?_
      · (repeat' with_reducible apply AllP_cons) <;> try exact aC
        · exact OpSpec.mget (kt := 9) (et := 48) (ks := ksP c) (val := vaP c) (s := ks[j]) (z := .agg [.str [], .str [], .bool false]) rfl (Tryz.underlying85) rfl rfl rfl rfl rfl (by rw [if_pos hn]; rfl)
        · show 0 + j * 3 = _
          omega
        · show (j + 1) * 40 ≤ 140737488355328
          omega
      refine S_round (j + 1) (by show ks.length - (j + 1) < ks.length - j; omega) hjt (.cons rfl (.cons rfl (.cons rfl (.cons rfl (.cons (nX (by omega)) (.nil _)))))) ?_
      rw [List.take_succ_eq_append_getElem hjt, List.map_append]
      show _ = [(0, mapBx (ksP c) (vaP c)), (u + 2 + (j + 1), some (.cells (celsF ((ks.take j).map (lastF c) ++ [lastF c ks[j]])) ⟨false, none⟩))]
      rw [celsF_add]; rfl
    have hje : j = ks.length := by omega
    subst hje
    have e2 : decide ((ks.length : Int) < (((ks.map AV.str).length : Nat) : Int)) = false := decide_eq_false (by omega)
    rw [List.take_length]
    obtain ⟨o, ho⟩ : ∃ o, o = ks.map (lastF c) := ⟨_, rfl⟩
    rw [← ho]
    have hol : o.length = ks.length := by rw [ho, List.length_map]
    have hop : ∀ f ∈ o, f.path.length ≤ 1000000000000 := by
      intro f hf
      rw [ho] at hf
      obtain ⟨p, hp, rfl⟩ := List.mem_map.1 hf
      have h1 := lastF_mem (hkm p hp)
      have := hcp _ h1.1; omega
    rw [← hol]
    generalize hw : u + 2 + o.length = w
    have hocl := cels_len o
    refine pan 6 [.b false] rfl ?_ ?_
    · (repeat' with_reducible apply AllP_cons) <;> try exact aC
    refine S_drop (id := 0) rfl ?_ ⟨_, _, .inl rfl⟩
    refine pB [] rfl ?_
    refine S_while (α := Nat) (fun k => [(10, .ms 1 w 0 o.length 3 false), (51, .ms 1 w 0 o.length 3 false), (52, .int .i64 (o.length : Nat)), (53, .int .i64 (k : Nat))]) (fun k => [(k, none), (w, some (.cells (celsF o) ⟨false, none⟩))]) (fun k => k ≤ o.length ∧ ∀ j (hj : j < o.length), j < k → (o.any fun g => insT o[j].path g.path) = false) (fun k => o.length - k) 0
      ⟨Nat.zero_le _, fun j hj h => absurd h (Nat.not_lt_zero _)⟩ (.cons rfl (.cons rfl (.cons rfl (.cons rfl (.nil _))))) rfl ?_
    rintro k ⟨hk, hK⟩
    have hk : k ≤ o.length := hk
    by_cases hkt : k < o.length
    · have e3 : decide ((k : Int) < (o.length : Int)) = true := decide_eq_true (by omega)
      have hF := ContainsFuncF_ok (k + 1) o[k] w o (hop _ (List.getElem_mem hkt)) (by omega)
      have c1 : 3 ≤ ((celsF o).drop (offN 0 (mulN (k : Int).toNat 3))).length := by
        rw [cels_off, List.length_drop, cels_len]; omega
      have c2 : filA o[k] = .agg (List.take 3 ((celsF o).drop (offN 0 (mulN (k : Int).toNat 3)))) := by
        obtain ⟨r, hr⟩ := cels_at hkt
        rw [cels_off, hr]; rfl
      cases hin : o.any fun g => insT o[k].path g.path with
      | true =>
        rw [hin] at hF
        have hX : ovX o = 6 := by
          unfold ovX
          rw [if_pos (List.any_eq_true.2 ⟨_, List.getElem_mem hkt, hin⟩)]
        rw [hX, rt _ _ (by decide)]
        refine pa [.b true, .v .top, .v (filA o[k]), .k (.bool true), .b true] rfl ?_ ?_
        · (repeat' with_reducible apply AllP_cons) <;> try exact aC
          all_goals first | exact c1 | exact c2 | exact hF
        exact S_retc (rf _) rfl trivial rfl
      | false =>
        rw [hin] at hF
        refine pa [.b true, .v .top, .v (filA o[k]), .k (.bool false), .b false, .s] rfl ?_ ?_
        · (repeat' with_reducible apply AllP_cons) <;> try exact aC
          all_goals first | exact c1 | exact c2 | exact hF
        refine S_drop (id := 0) rfl ?_ ⟨.skip, _, .inr ⟨_, _, _, rfl⟩⟩
        refine pB [] rfl ?_
        refine S_round (k + 1) (by show o.length - (k + 1) < o.length - k; omega) ⟨hkt, fun j hj h => ?_⟩ (.cons rfl (.cons rfl (.cons rfl (.cons (nX (by omega)) (.nil _))))) rfl
        have h : j < k + 1 := h
        by_cases hjk : j < k
        · exact hK j hj hjk
        · have : j = k := by omega
          subst this; exact hin
    · have e3 : decide ((k : Int) < (o.length : Int)) = false := decide_eq_false (by omega)
      have hno : (o.any fun f => o.any fun g => insT f.path g.path) = false := by
        rw [List.any_eq_false]
        intro f hf
        obtain ⟨j, hj, rfl⟩ := List.getElem_of_mem hf
        rw [hK j hj (by omega)]; simp
      by_cases h60 : 60 < o.length
      · have hX : ovX o = 2 := by unfold ovX; rw [hno, if_neg (by simp), if_pos h60]
        have e4 : decide ((o.length : Int) > 60) = true := decide_eq_true (by omega)
        rw [hX, rt _ _ (by decide)]
        refine pB [.b false, .b true] rfl ?_
        exact S_retc (rf _) rfl trivial rfl
      · have hX : ovX o = 0 := by unfold ovX; rw [hno, if_neg (by simp), if_neg h60]
        have e4 : decide ((o.length : Int) > 60) = false := decide_eq_false (by omega)
        rw [hX]
        refine pB [.b false, .b false] rfl ?_
        refine S_ret ⟨_, _, rfl, trivial, _, rfl, ?_⟩
        show Frz true [(k, none), (w, some (.cells (celsF o) ⟨false, none⟩))] (.tup [.ms 1 w 0 o.length 3 false, .int .i64 0]) (.tup [.sl true false 3 (fils o), .int .i64 0])
        exact Fzs.tup (.cons (.ms rfl (by omega) (by rw [List.drop_zero]; exact List.take_of_length_le (by omega)) (fil_size _) (fils_len _) (fils_free _)) (.cons (.refl .int) .nil))
end Go.Proofs.YtpehmhlgldbeoaaGreatDoor
end
section
set_option linter.unusedVariables false
set_option linter.unusedSimpArgs false
set_option maxRecDepth 20000
set_option maxHeartbeats 4000000
namespace Go.Proofs.YtpehmhlgldbeoaaGreatDoor
open Go Go.Ab
theorem nodup_perm {a b : List (List UInt8)} (ha : a.Nodup) (hb : b.Nodup) (h : ∀ x, x ∈ a ↔ x ∈ b) : a.Perm b := by
  exact (List.perm_ext_iff_of_nodup ha hb).2 h
theorem und_mem {l : List Fil} {dir : List UInt8} {g : Fil} : g ∈ undT l dir ↔ ∃ f ∈ l, insT dir f.path = true ∧ cutF dir f = g := by
  unfold undT
  simp only [List.mem_map, List.mem_filter]
  constructor
  · rintro ⟨f, ⟨h1, h2⟩, h3⟩; exact ⟨f, h1, h2, h3⟩
  · rintro ⟨f, h1, h2, h3⟩; exact ⟨f, ⟨h1, h2⟩, h3⟩
theorem drop_dir (dir x : List UInt8) : (dir ++ [47] ++ x).drop (dir.length + 1) = x := by
  have e : dir.length + 1 = (dir ++ [47]).length := by simp
  rw [e, List.drop_left]
theorem ins_cut {dir p : List UInt8} (h : insT dir p = true) : p = dir ++ [47] ++ p.drop (dir.length + 1) := by
  unfold insT at h
  rw [List.isPrefixOf_iff_prefix] at h
  obtain ⟨x, rfl⟩ := h
  rw [drop_dir]
theorem ins_mk (dir x : List UInt8) : insT dir (dir ++ [47] ++ x) = true := by
  unfold insT; rw [List.isPrefixOf_iff_prefix]; exact ⟨x, rfl⟩
end Go.Proofs.YtpehmhlgldbeoaaGreatDoor
end
section
set_option linter.unusedVariables false
set_option linter.unusedSimpArgs false
set_option maxRecDepth 20000
set_option maxHeartbeats 4000000
namespace Go.Proofs.YtpehmhlgldbeoaaGreatDoor
open Go Go.Ab
theorem formT_all {l : List Fil} (h : ∀ f ∈ l, isPathB f.path = true ∧ f.text.length ≤ 100000) : formT l = 0 := by
  induction l with
  | nil => rfl
  | cons f r ih =>
    have hf : filE f = 0 := by
      unfold filE
      rw [if_pos (h f (List.mem_cons_self ..)).1, if_neg (by have := (h f (List.mem_cons_self ..)).2; omega)]
    rw [formT, if_pos hf]
    exact ih fun g hg => h g (List.mem_cons_of_mem _ hg)
theorem chk_of {d : Nat} {l : List Fil} (h : DirOk d l) : chkT l = 0 := by
  unfold chkT
  have := h.len
  rw [if_neg (by omega), if_neg (by rw [formT_all fun f hf => ⟨h.path f hf, h.text f hf⟩]; simp), if_pos h.ok]
theorem fok_of {d : Nat} {l : List Fil} (h : DirOk d l) : FilsOk l :=
  ⟨by have := h.len; omega, fun f hf => by have := (path_fst (h.path f hf)).2.1; omega, fun f hf => by have := h.text f hf; omega⟩
theorem split_app (d x : List UInt8) : splitB 47 (d ++ 47 :: x) = splitB 47 d ++ splitB 47 x := by
  induction d with
  | nil =>
    show splitB 47 (47 :: x) = [] :: splitB 47 x
    rw [splitB, if_pos rfl]
  | cons c d ih =>
    by_cases hc : c = 47
    · rw [List.cons_append, splitB, if_pos hc, splitB, if_pos hc, ih]; rfl
    · rw [List.cons_append, splitB, if_neg hc, splitB, if_neg hc, ih]
      cases hs : splitB 47 d with
      | nil => exact absurd hs (splitB_ne _ _)
      | cons p ps => rfl
theorem pre_lt (p x y : List UInt8) : p ++ x < p ++ y ↔ x < y := by
  induction p with
  | nil => exact Iff.rfl
  | cons c p ih =>
    rw [List.cons_append, List.cons_append, List.cons_lt_cons_iff]
    constructor
    · rintro (h | ⟨_, h⟩)
      · exact absurd h (UInt8.lt_irrefl _)
      · exact ih.1 h
    · intro h; exact .inr ⟨rfl, ih.2 h⟩
theorem pre_ins (p x y : List UInt8) : insT (p ++ x) (p ++ y) = insT x y := by
  unfold insT
  induction p with
  | nil => rfl
  | cons c p ih =>
    rw [List.cons_append, List.cons_append, List.cons_append, List.isPrefixOf_cons_cons]
    simpa using ih
theorem und_dirOk {l : List Fil} (h : DirOk 101 l) (dir : List UInt8) : DirOk 101 (undT l dir) := by
  have hmem : ∀ g ∈ undT l dir, ∃ f ∈ l, insT dir f.path = true ∧ f.path = dir ++ [47] ++ g.path ∧ g.text = f.text := by
    intro g hg
    obtain ⟨f, hf, hi, rfl⟩ := und_mem.1 hg
    exact ⟨f, hf, hi, ins_cut hi, rfl⟩
  have hpath : ∀ g ∈ undT l dir, isPathB g.path = true := by
    intro g hg
    obtain ⟨f, hf, _, e, _⟩ := hmem g hg
    have hp := h.path f hf
    rw [e, List.append_assoc] at hp
    unfold isPathB at hp ⊢
    rw [show dir ++ ([47] ++ g.path) = dir ++ 47 :: g.path from rfl, split_app, List.all_append] at hp
    simp only [Bool.and_eq_true, decide_eq_true_eq, List.length_append, List.length_cons] at hp ⊢
    exact ⟨hp.1.2, by omega⟩
  refine ⟨Nat.le_trans (und_len _ _) h.len, hpath, fun g hg => ?_, ⟨?_, ?_⟩, fun g hg => ?_⟩
  · obtain ⟨f, hf, _, _, e⟩ := hmem g hg
    rw [e]; exact h.text f hf
  · unfold undT
    rw [List.pairwise_map]
    refine List.Pairwise.imp_of_mem ?_ (h.ok.1.filter _)
    intro f g hf hg hfg
    have e1 := ins_cut (List.mem_filter.1 hf).2
    have e2 := ins_cut (List.mem_filter.1 hg).2
    rw [bl_eq, decide_eq_true_eq, e1, e2, pre_lt] at hfg
    show Op.bytesLess (f.path.drop (dir.length + 1)) (g.path.drop (dir.length + 1)) = true
    rw [bl_eq, decide_eq_true_eq]; exact hfg
  · intro f hf g hg
    obtain ⟨f', hf', _, e1, _⟩ := hmem f hf
    obtain ⟨g', hg', _, e2, _⟩ := hmem g hg
    have := h.ok.2 f' hf' g' hg'
    rw [e1, e2, pre_ins] at this; exact this
  · have := (path_fst (hpath g hg)).2.1; omega
theorem ov_mem {c : List Fil} {f : Fil} : f ∈ ovT c ↔ ∃ p ∈ ksP c, lastF c p = f := by
  unfold ovT
  rw [List.mem_map]
  constructor
  · rintro ⟨p, hp, h⟩; exact ⟨p, (sortT_perm _).mem_iff.1 hp, h⟩
  · rintro ⟨p, hp, h⟩; exact ⟨p, (sortT_perm _).mem_iff.2 hp, h⟩
theorem ov_sub {c : List Fil} {f : Fil} (h : f ∈ ovT c) : f ∈ c := by
  obtain ⟨p, hp, rfl⟩ := ov_mem.1 h
  exact (lastF_mem hp).1
theorem ov_has {c : List Fil} {f : Fil} (h : f ∈ c) : ∃ g ∈ ovT c, g.path = f.path := by
  have hp : f.path ∈ ksP c := ksP_mem.2 ⟨f, h, rfl⟩
  exact ⟨_, ov_mem.2 ⟨_, hp, rfl⟩, (lastF_mem hp).2⟩
theorem ov_dirOk {a b : List Fil} (ha : DirOk 101 a) (hb : DirOk 101 b) (h : ovX (ovT (a ++ b)) = 0) : DirOk 101 (ovT (a ++ b)) := by
  have hmem : ∀ f ∈ ovT (a ++ b), f ∈ a ∨ f ∈ b := fun f hf => List.mem_append.1 (ov_sub hf)
  have hpath : ∀ f ∈ ovT (a ++ b), isPathB f.path = true := fun f hf => (hmem f hf).elim (ha.path f) (hb.path f)
  unfold ovX at h
  split at h
  · cases h
  rename_i h1
  split at h
  · cases h
  rename_i h2
  refine ⟨by omega, hpath, fun f hf => (hmem f hf).elim (ha.text f) (hb.text f), ⟨?_, ?_⟩, fun f hf => ?_⟩
  · rw [List.pairwise_iff_getElem]
    intro i j hi hj hij
    have e : ∀ k (hk : k < (ovT (a ++ b)).length), (ovT (a ++ b))[k].path = (sortT (ksP (a ++ b)))[k]'(by simpa [ovT] using hk) := by
      intro k hk
      have hk' : k < (sortT (ksP (a ++ b))).length := by simpa [ovT] using hk
      have : (ovT (a ++ b))[k] = lastF (a ++ b) ((sortT (ksP (a ++ b)))[k]'hk') := List.getElem_map (lastF (a ++ b))
      rw [this]
      exact (lastF_mem ((sortT_perm _).mem_iff.1 (List.getElem_mem hk'))).2
    rw [e i hi, e j hj, bl_eq, decide_eq_true_eq]
    exact sort_lt (ksP_nodup _) hij _
  · intro f hf g hg
    cases hi : insT f.path g.path with
    | false => rfl
    | true => exact absurd (List.any_eq_true.2 ⟨f, hf, List.any_eq_true.2 ⟨g, hg, hi⟩⟩) h1
  · have := (path_fst (hpath f hf)).2.1; omega
theorem und_app (a b : List Fil) (dir : List UInt8) : undT (a ++ b) dir = undT a dir ++ undT b dir := by
  unfold undT; rw [List.filter_append, List.map_append]
theorem lastF_und (c : List Fil) (dir q : List UInt8) (hq : dir ++ [47] ++ q ∈ ksP c) : lastF (undT c dir) q = cutF dir (lastF c (dir ++ [47] ++ q)) := by
  have hl := lastF_mem hq
  unfold lastF at hl ⊢
  unfold undT
  rw [← List.map_reverse, ← List.filter_reverse, List.find?_map, List.find?_filter]
  have e : (fun a : Fil => decide (insT dir a.path = true ∧ ((fun f : Fil => f.path == q) ∘ cutF dir) a = true)) = fun f : Fil => f.path == dir ++ [47] ++ q := by
    funext f
    rw [Bool.eq_iff_iff]
    simp only [decide_eq_true_eq, Function.comp, beq_iff_eq]
    constructor
    · rintro ⟨h1, h2⟩
      have h2 : f.path.drop (dir.length + 1) = q := h2
      rw [← h2]; exact ins_cut h1
    · intro h
      refine ⟨by rw [h]; exact ins_mk _ _, ?_⟩
      show f.path.drop (dir.length + 1) = q
      rw [h, drop_dir]
  rw [e]
  cases hf : c.reverse.find? (fun f => f.path == dir ++ [47] ++ q) with
  | none =>
    rw [List.find?_eq_none] at hf
    obtain ⟨f, hf1, hf2⟩ := ksP_mem.1 hq
    exact absurd (by simpa using hf2) (hf f (by simpa using hf1))
  | some f => rfl
theorem ov_und (c : List Fil) (dir : List UInt8) : ovT (undT c dir) = undT (ovT c) dir := by
  have hks : sortT (ksP (undT c dir)) = ((sortT (ksP c)).filter (fun p => insT dir p)).map (fun p => p.drop (dir.length + 1)) := by
    refine perm_sorted ?_ (sortT_pw _) ?_
    · refine (sortT_perm _).trans (nodup_perm (ksP_nodup _) ?_ ?_)
      · have hnd : ((sortT (ksP c)).filter (fun p => insT dir p)).Nodup := (sort_nodup (ksP_nodup c)).filter _
        rw [List.Nodup, List.pairwise_map]
        refine List.Pairwise.imp_of_mem ?_ hnd
        intro p q hp hq hpq h
        exact hpq (by rw [ins_cut (List.mem_filter.1 hp).2, ins_cut (List.mem_filter.1 hq).2, h])
      · intro x
        rw [ksP_mem]
        simp only [List.mem_map, List.mem_filter]
        constructor
        · rintro ⟨g, hg, rfl⟩
          obtain ⟨f, hf, hi, rfl⟩ := und_mem.1 hg
          exact ⟨f.path, ⟨(sortT_perm _).mem_iff.2 (ksP_mem.2 ⟨f, hf, rfl⟩), hi⟩, rfl⟩
        · rintro ⟨p, ⟨hp, hi⟩, rfl⟩
          obtain ⟨f, hf, rfl⟩ := ksP_mem.1 ((sortT_perm _).mem_iff.1 hp)
          exact ⟨cutF dir f, und_mem.2 ⟨f, hf, hi, rfl⟩, rfl⟩
    · rw [List.pairwise_map]
      refine List.Pairwise.imp_of_mem ?_ ((sortT_pw (ksP c)).filter _)
      intro p q hp hq hpq
      rw [ins_cut (List.mem_filter.1 hp).2, ins_cut (List.mem_filter.1 hq).2] at hpq
      intro h
      exact hpq ((pre_lt _ _ _).2 h)
  have hL : ovT (undT c dir) = ((sortT (ksP c)).filter (fun p => insT dir p)).map (fun p => cutF dir (lastF c p)) := by
    conv => lhs; unfold ovT
    rw [hks, List.map_map]
    apply List.map_congr_left
    intro p hp
    obtain ⟨hp1, hp2⟩ := List.mem_filter.1 hp
    have e := ins_cut hp2
    show lastF (undT c dir) (p.drop (dir.length + 1)) = cutF dir (lastF c p)
    rw [lastF_und c dir _ (by rw [← e]; exact (sortT_perm _).mem_iff.1 hp1), ← e]
  rw [hL]
  unfold undT ovT
  rw [List.filter_map, List.map_map]
  have : (sortT (ksP c)).filter ((fun f : Fil => insT dir f.path) ∘ lastF c) = (sortT (ksP c)).filter (fun p => insT dir p) := by
    apply List.filter_congr
    intro p hp
    show insT dir (lastF c p).path = insT dir p
    rw [(lastF_mem ((sortT_perm _).mem_iff.1 hp)).2]
  rw [this]; rfl
theorem ov_no {c : List Fil} (h : DirOk 101 c) : ovX c = 0 := by
  unfold ovX
  have h1 : (c.any fun f => c.any fun g => insT f.path g.path) = false := by
    rw [List.any_eq_false]
    intro f hf
    have : (c.any fun g => insT f.path g.path) = false := by
      rw [List.any_eq_false]
      intro g hg
      rw [h.ok.2 f hf g hg]; simp
    rw [this]; simp
  have := h.len
  rw [h1, if_neg (by simp), if_neg (by omega)]
end Go.Proofs.YtpehmhlgldbeoaaGreatDoor
end
section
set_option linter.unusedVariables false
set_option linter.unusedSimpArgs false
set_option maxRecDepth 20000
set_option maxHeartbeats 4000000
namespace Go.Proofs.YtpehmhlgldbeoaaGreatDoor
open Go Go.Ab
theorem Under_e {st fl : Bool} {l : List Fil} (h : DirOk 101 l) (dir : List UInt8) (hd : dir.length ≤ 1000000000) (hp : isPathB dir = true) :
    Calc cx 33 [.sl st fl 3 (fils l), .str dir] (.tup [.sl true false 3 (fils (undT l dir)), .int .i64 ((if undT l dir = [] then 5 else 0 : Nat) : Int)]) := by
  have hU := flatS (Under_ok (st := st) (fl := fl) l dir (fok_of h) hd)
  have he : undE l dir = if undT l dir = [] then 5 else 0 := by unfold undE; rw [if_pos (chk_of h), if_pos hp]
  rw [he] at hU
  unfold flatSV at hU
  by_cases hn : undT l dir = []
  · rw [if_pos hn] at hU ⊢
    rw [hn]; exact hU
  · rw [if_neg hn] at hU ⊢
    exact hU
theorem Under_n {st fl : Bool} {l : List Fil} (h : DirOk 101 l) (dir : List UInt8) (hd : dir.length ≤ 1000000000) (hp : isPathB dir = false) :
    Calc cx 33 [.sl st fl 3 (fils l), .str dir] (.tup [.sl true false 3 (fils []), .int .i64 ((1 : Nat) : Int)]) := by
  have hU := flatS (Under_ok (st := st) (fl := fl) l dir (fok_of h) hd)
  have he : undE l dir = 1 := by unfold undE; rw [if_pos (chk_of h), if_neg (by rw [hp]; simp)]
  rw [he] at hU
  exact hU
theorem und_ov (a b : List Fil) (dir : List UInt8) : undT (ovT (a ++ b)) dir = ovT (undT a dir ++ undT b dir) := by
  rw [← ov_und, und_app]
theorem ov_nil {c : List Fil} : ovT c = [] ↔ c = [] := by
  constructor
  · intro h
    cases c with
    | nil => rfl
    | cons f r =>
      obtain ⟨g, hg, _⟩ := ov_has (c := f :: r) (f := f) (List.mem_cons_self ..)
      rw [h] at hg; cases hg
  · rintro rfl
    cases h : ovT [] with
    | nil => rfl
    | cons f r => have := ov_sub (c := []) (f := f) (by rw [h]; simp); cases this
theorem TreeParts_ok (a b : List Fil) (dir : List UInt8) (ha : avB (.sl true false 3 (fils a)) ≤ 1048576) (hb : avB (.sl true false 3 (fils b)) ≤ 1048576) (hd : dir.length ≤ 1048576) :
    Calc cx 14 [.sl true false 3 (fils a), .sl true false 3 (fils b), .str dir] (.bool true) :=
  pure_intro (fun a w => Tryz.call14 a w) Tryz.func14 rfl Tryz.ntmps14 rfl .bool fun B => by
    have hla := fils_of ha
    have hlb := fils_of hb
    have hO := flatS (Over_ok (st := true) (fl := false) (st' := true) (fl' := false) a b hla hlb)
    have fr2 : ∀ (σ : Heap) (x y : List Fil), Frzs σ [.sl true false 3 (fils x), .sl true false 3 (fils y)] [.sl true false 3 (fils x), .sl true false 3 (fils y)] := fun σ x y => .cons (.refl (.sl (fun h => by cases h) (fils_free x))) (.cons (.refl (.sl (fun h => by cases h) (fils_free y))) (.nil _))
    have fr1 : ∀ (σ : Heap) (x : List Fil), Frzs σ [.sl true false 3 (fils x), .str dir] [.sl true false 3 (fils x), .str dir] := fun σ x => .cons (.refl (.sl (fun h => by cases h) (fils_free x))) (.cons (.refl .str) (.nil _))
    by_cases hE : ovE a b = 0
    case neg =>
      refine pa [.v (.bool true), .b false, .v (flatSV (ovT (a ++ b), ovE a b)), .b true] rfl ?_ ?_
      · (repeat' with_reducible apply AllP_cons) <;> try exact aC
        · exact ⟨_, treeBegun_ok, .nil _⟩
        · exact ⟨_, hO, fr2 _ _ _⟩
        · show ((((ovE a b : Nat) : Int)) != 0) = true
          rw [chk_bne]; simpa using hE
      exact S_retc .bool rfl trivial rfl
    have hca : chkT a = 0 := by
      by_cases h : chkT a = 0
      · exact h
      · unfold ovE at hE; rw [if_neg h, if_neg h] at hE; exact absurd hE h
    have hcb : chkT b = 0 := by
      by_cases h : chkT b = 0
      · exact h
      · unfold ovE at hE; rw [if_pos hca, if_neg h] at hE; exact absurd hE h
    have hX : ovX (ovT (a ++ b)) = 0 := by
      unfold ovE at hE; rw [if_pos hca, if_pos hcb] at hE; exact hE
    have hda := DirOk.of hca
    have hdb := DirOk.of hcb
    have hdo := ov_dirOk hda hdb hX
    rw [hE] at hO
    have hO : Calc cx 39 [.sl true false 3 (fils a), .sl true false 3 (fils b)] (.tup [.sl true false 3 (fils (ovT (a ++ b))), .int .i64 ((0 : Nat) : Int)]) := hO
    have hua := und_dirOk hda dir
    have hub := und_dirOk hdb dir
    have huo := und_dirOk hdo dir
    have hov := und_ov a b dir
    generalize ovT (a ++ b) = o at *
    cases hp : isPathB dir with
    | false =>
      have h1 := Under_n (st := true) (fl := false) hdo dir (by omega) hp
      have h2 := Under_n (st := true) (fl := false) hda dir (by omega) hp
      have h3 := Under_n (st := true) (fl := false) hdb dir (by omega) hp
      refine pa [.v (.bool true), .b false, .v (.tup [.sl true false 3 (fils o), .int .i64 ((0 : Nat) : Int)]), .b false, .v (.tup [.sl true false 3 (fils []), .int .i64 ((1 : Nat) : Int)]), .v (.tup [.sl true false 3 (fils []), .int .i64 ((1 : Nat) : Int)]), .v (.tup [.sl true false 3 (fils []), .int .i64 ((1 : Nat) : Int)]), .b true, .b true] rfl ?_ ?_
      · (repeat' with_reducible apply AllP_cons) <;> try exact aC
        · exact ⟨_, treeBegun_ok, .nil _⟩
        · exact ⟨_, hO, fr2 _ _ _⟩
        · exact ⟨_, h1, fr1 _ _⟩
        · exact ⟨_, h2, fr1 _ _⟩
        · exact ⟨_, h3, fr1 _ _⟩
      exact S_retc .bool rfl trivial rfl
    | true =>
      have h1 := Under_e (st := true) (fl := false) hdo dir (by omega) hp
      have h2 := Under_e (st := true) (fl := false) hda dir (by omega) hp
      have h3 := Under_e (st := true) (fl := false) hdb dir (by omega) hp
      by_cases hna : undT a dir = [] ∧ undT b dir = []
      · have hno : undT o dir = [] := by rw [hov, hna.1, hna.2]; exact ov_nil.2 rfl
        rw [hno, if_pos rfl] at h1
        rw [hna.1, if_pos rfl] at h2
        rw [hna.2, if_pos rfl] at h3
        refine pa [.v (.bool true), .b false, .v (.tup [.sl true false 3 (fils o), .int .i64 ((0 : Nat) : Int)]), .b false, .v (.tup [.sl true false 3 (fils []), .int .i64 ((5 : Nat) : Int)]), .v (.tup [.sl true false 3 (fils []), .int .i64 ((5 : Nat) : Int)]), .v (.tup [.sl true false 3 (fils []), .int .i64 ((5 : Nat) : Int)]), .b false, .b true, .b true] rfl ?_ ?_
        · (repeat' with_reducible apply AllP_cons) <;> try exact aC
          · exact ⟨_, treeBegun_ok, .nil _⟩
          · exact ⟨_, hO, fr2 _ _ _⟩
          · exact ⟨_, h1, fr1 _ _⟩
          · exact ⟨_, h2, fr1 _ _⟩
          · exact ⟨_, h3, fr1 _ _⟩
        exact S_retc .bool rfl trivial rfl
      · have hno : undT o dir ≠ [] := by
          rw [hov]
          intro h
          have := ov_nil.1 h
          exact hna (List.append_eq_nil_iff.1 this)
        rw [if_neg hno] at h1
        have hEu : ovE (undT a dir) (undT b dir) = 0 := by
          unfold ovE
          rw [chk_of hua, chk_of hub, if_pos rfl, if_pos rfl, ← hov]
          exact ov_no huo
        have hO2 := flatS (Over_ok (st := true) (fl := false) (st' := true) (fl' := false) (undT a dir) (undT b dir) (fok_of hua) (fok_of hub))
        rw [hEu, ← hov] at hO2
        have hO2 : Calc cx 39 [.sl true false 3 (fils (undT a dir)), .sl true false 3 (fils (undT b dir))] (.tup [.sl true false 3 (fils (undT o dir)), .int .i64 ((0 : Nat) : Int)]) := hO2
        have hS := SameFiles_ok (st := true) (st' := true) (fl := false) (fl' := false) (undT o dir) (undT o dir) (by have := huo.len; omega) (by have := huo.len; omega)
        rw [decide_eq_true rfl] at hS
        by_cases hua0 : undT a dir = []
        · have hub0 : undT b dir ≠ [] := fun h => hna ⟨hua0, h⟩
          rw [if_pos hua0] at h2
          rw [if_neg hub0] at h3
          refine pa [.v (.bool true), .b false, .v (.tup [.sl true false 3 (fils o), .int .i64 ((0 : Nat) : Int)]), .b false, .v (.tup [.sl true false 3 (fils (undT o dir)), .int .i64 ((0 : Nat) : Int)]), .v (.tup [.sl true false 3 (fils (undT a dir)), .int .i64 ((5 : Nat) : Int)]), .v (.tup [.sl true false 3 (fils (undT b dir)), .int .i64 ((0 : Nat) : Int)]), .b false, .b true, .b false, .v (.tup [.sl true false 3 (fils (undT o dir)), .int .i64 ((0 : Nat) : Int)]), .b true, .b true, .v (.bool true)] rfl ?_ ?_
          · (repeat' with_reducible apply AllP_cons) <;> try exact aC
            · exact ⟨_, treeBegun_ok, .nil _⟩
            · exact ⟨_, hO, fr2 _ _ _⟩
            · exact ⟨_, h1, fr1 _ _⟩
            · exact ⟨_, h2, fr1 _ _⟩
            · exact ⟨_, h3, fr1 _ _⟩
            · exact ⟨_, hO2, fr2 _ _ _⟩
            · exact ⟨_, hS, fr2 _ _ _⟩
          exact S_retc .bool rfl trivial rfl
        · rw [if_neg hua0] at h2
          by_cases hub0 : undT b dir = []
          case' pos => rw [if_pos hub0] at h3
          case' neg => rw [if_neg hub0] at h3
          case' pos => refine pa [.v (.bool true), .b false, .v (.tup [.sl true false 3 (fils o), .int .i64 ((0 : Nat) : Int)]), .b false, .v (.tup [.sl true false 3 (fils (undT o dir)), .int .i64 ((0 : Nat) : Int)]), .v (.tup [.sl true false 3 (fils (undT a dir)), .int .i64 ((0 : Nat) : Int)]), .v (.tup [.sl true false 3 (fils (undT b dir)), .int .i64 ((5 : Nat) : Int)]), .b false, .b false, .b false, .v (.tup [.sl true false 3 (fils (undT o dir)), .int .i64 ((0 : Nat) : Int)]), .b true, .b true, .v (.bool true)] rfl ?_ ?_
          case' neg => refine pa [.v (.bool true), .b false, .v (.tup [.sl true false 3 (fils o), .int .i64 ((0 : Nat) : Int)]), .b false, .v (.tup [.sl true false 3 (fils (undT o dir)), .int .i64 ((0 : Nat) : Int)]), .v (.tup [.sl true false 3 (fils (undT a dir)), .int .i64 ((0 : Nat) : Int)]), .v (.tup [.sl true false 3 (fils (undT b dir)), .int .i64 ((0 : Nat) : Int)]), .b false, .b false, .b false, .v (.tup [.sl true false 3 (fils (undT o dir)), .int .i64 ((0 : Nat) : Int)]), .b true, .b true, .v (.bool true)] rfl ?_ ?_
          case pos.refine_1 | neg.refine_1 =>
            (repeat' with_reducible apply AllP_cons) <;> try exact aC
            · exact ⟨_, treeBegun_ok, .nil _⟩
            · exact ⟨_, hO, fr2 _ _ _⟩
            · exact ⟨_, h1, fr1 _ _⟩
            · exact ⟨_, h2, fr1 _ _⟩
            · exact ⟨_, h3, fr1 _ _⟩
            · exact ⟨_, hO2, fr2 _ _ _⟩
            · exact ⟨_, hS, fr2 _ _ _⟩
          all_goals exact S_retc .bool rfl trivial rfl
end Go.Proofs.YtpehmhlgldbeoaaGreatDoor
end
section
set_option linter.unusedVariables false
set_option linter.unusedSimpArgs false
set_option maxRecDepth 20000
namespace Go.Proofs.YtpehmhlgldbeoaaGreatDoor
open Go Go.Ab
theorem open_file {H : Type} {d : DataW H} {a : AV} (h : RdD Tryz.prog 48 d a) : ∃ f : Fil, a = filA f := by
  obtain ⟨ds, xs, rfl, rfl, hall⟩ := h.inv_st Tryz.underlying48
  obtain ⟨d0, ds, x0, xs, rfl, rfl, h0, hall⟩ := hall.cons
  obtain ⟨d1, ds, x1, xs, rfl, rfl, h1, hall⟩ := hall.cons
  obtain ⟨d2, ds, x2, xs, rfl, rfl, h2, hall⟩ := hall.cons
  obtain ⟨rfl, rfl⟩ := hall.nil
  obtain ⟨s0, rfl, rfl, _⟩ := h0.inv_str Tryz.underlying9
  obtain ⟨s1, rfl, rfl, _⟩ := h1.inv_str Tryz.underlying9
  obtain ⟨b, rfl, rfl⟩ := h2.inv_bool Tryz.underlying4
  exact ⟨⟨s0, s1, b⟩, rfl⟩
theorem open_F {H : Type} {d : DataW H} {a : AV} (h : RdD Tryz.prog 22 d a) : ∃ l : List Fil, a = .sl true false 3 (fils l) := by
  obtain ⟨ds, xs, rfl, hl, hm, hall, _⟩ := h.inv_sl Tryz.underlying22
  obtain ⟨ys, rfl, hy, hg⟩ := RdD.each filA (fun _ _ => True) hl hall (fun d x h => by
    obtain ⟨f, rfl⟩ := open_file h
    exact ⟨f, rfl, trivial⟩)
  have hc : Tryz.prog.cellsOf 48 = 3 := by kernel_rfl
  exact ⟨ys, by rw [hc]; rfl⟩
end Go.Proofs.YtpehmhlgldbeoaaGreatDoor
end
