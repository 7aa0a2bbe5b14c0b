/-
  Texts of our own, in one file.
-/
import Derived.Test.YtonjhfeabphaaaaGreatDoorGrpD
import Derived.Sort.Grow
import Derived.Deep.Draws
import Derived.Shelf.Strconv.Itoa3
import Derived.Shelf.LaysM
section
set_option linter.unusedVariables false
set_option linter.unusedSimpArgs false
set_option maxRecDepth 20000
set_option maxHeartbeats 4000000
namespace Go.Proofs.YtonjhfeabphaaaaGreatDoor
open Go Go.Ab
def parseAV (x : List St × Flt) : AV := .tup [stsA x.1, fltA x.2]
theorem parseAV_free (x : List St × Flt) : Free true (parseAV x) := .tup (by intro y hy; simp at hy; rcases hy with rfl | rfl; exact stsA_free _; exact flt_free _)
theorem parse2_ok (q v : Nat) (l r : List Tok) (e b d n : Nat) (τ : Heap) (hr : r <:+ l) (hl : l.length ≤ 100000) :
  CallOk cx 22 [.ptr 1 q 0] (psB v l r e b d n :: qB q v :: τ) (fun o σ => o = .ret (.bool (!atEnd true r)) ∧ σ = psB v l r e b d n :: qB q v :: τ) :=
 callOk_intro (fun a w => Tryz.call22 a w) Tryz.func22 rfl Tryz.ntmps22 rfl fun B => by
  refine pa [] rfl ?_ ?_
  ·(repeat' with_reducible apply AllP_cons) <;> first | exact aC | skip
  refine S_ret ⟨_, _, rfl, trivial, ?_, rfl⟩
  show Out.ret (.bool (decide ((((l.length - r.length : Nat) : Nat) : Int) < (((l.map tokA).length : Nat) : Int)))) = .ret (.bool (!r.isEmpty))
  congr 2
  rw [List.length_map]
  have := hr.length_le
  cases r with
  | nil => exact decide_eq_false (by simp)
  | cons t u => simp only [List.length_cons] at this ⊢; exact decide_eq_true (by omega)
theorem pclos_ret (x : AV) (e : Flt) (a b : Nat × Box) (R : Md → Heap → Prop) (h : ∀ y, R .ret [xo x, xf e, (a.1, some a.2), (b.1, some b.2), y]) :
  DCall cx (.func (.func 20) [] [.ptr 0 0 0, .ptr 1 0 0]) .ret [xo x, xf e, (a.1, some a.2), (b.1, some b.2)] R :=
 dcall_recover (fun a w => Tryz.call20 a w) Tryz.func20 rfl Tryz.ntmps20 rfl rfl rfl rfl rfl rfl rfl fun B => by
  refine pa [.b false] rfl ?_ ?_
  ·(repeat' with_reducible apply AllP_cons) <;> first | exact aC | skip
  exact S_nil ⟨_, _, rfl, trivial, _, rfl, h _⟩
theorem pclos_pan (x : AV) (e g : Flt) (a b : Nat × Box) (R : Md → Heap → Prop) (h : ∀ y, R (.pan (flt g) true) [xo .nils, xf g, (a.1, some a.2), (b.1, some b.2), y]) :
  DCall cx (.func (.func 20) [] [.ptr 0 0 0, .ptr 1 0 0]) (.pan (flt g) false) [xo x, xf e, (a.1, some a.2), (b.1, some b.2)] R :=
 dcall_recover (fun a w => Tryz.call20 a w) Tryz.func20 rfl Tryz.ntmps20 rfl rfl rfl rfl rfl rfl rfl fun B => by
  refine pa [.b true] rfl ?_ ?_
  ·(repeat' with_reducible apply AllP_cons) <;> first | exact aC | skip
  refine S_drawC [xo .nils, xf e, (a.1, some a.2), (b.1, some b.2), xf g] 1 2 [] [.tup []] rfl rfl rfl rfl rfl ⟨rfl, rfl, rfl, rfl, rfl, rfl, lble rfl, rfl, rfl, trivial⟩ ?_
  refine pa [] rfl ?_ ?_
  ·(repeat' with_reducible apply AllP_cons) <;> first | exact aC | skip
  exact S_nil ⟨_, _, rfl, trivial, _, rfl, h _⟩
theorem parse_fuel (s : List UInt8) : fuelS (splitS s).1 ≤ 900000 := by
 have := splitS_size s
 unfold fuelS; omega
theorem parse_ne (l : List Tok) : stmtsS (fuelS l) true 0 0 [] l ≠ .out := ((allU (fuelS l)).stmts true 0 0 [] l (by unfold fuelS; omega)).1
theorem psBox_rn (v : Nat) (l r : List Tok) (e b d n : Nat) (ids : List Nat) : RnE ids (psB v l r e b d n) (psB v l r e b d n) := .live (.cells (.free (psB_free v l r e b d n)))
theorem Parse_ok (s : List UInt8) : Calc cx 10 [.str s] (parseAV (parseS s)) :=
 calc_of (parseAV_free _) (callOk_introD (fun a w => Tryz.call10 a w) Tryz.func10 rfl Tryz.ntmps10 rfl fun B hB => by
  have hlen := splitS_size s
  have hfu := parse_fuel s
  have hg := splitS_good s
  have hsz : (splitS s).2.1 = 0 → s.length ≤ 6000 := by
   unfold splitS
   split
   ·intro h; cases h
   ·intro _; omega
  have hSp0 := Split_ok s
  obtain ⟨Y, hY⟩ : ∃ Y, Y = parseS s := ⟨_, rfl⟩
  rw [← hY]
  unfold parseS at hY
  obtain ⟨l, e1, e2, hsp⟩ : ∃ l e1 e2, splitS s = (l, (e1, e2)) := ⟨_, _, _, rfl⟩
  rw [hsp] at hlen hfu hg hsz hSp0 hY
  have hY : Y = if e1 ≠ 0 then ([], (e1, e2)) else match stmtsS (fuelS l) true 0 0 [] l with | .ok x _ => (x, (0, 0)) | .bad e r => ([], (e, placeS s.length r)) | .out => ([], (0, 0)) := hY
  have hlen : l.length ≤ 24040 := hlen
  have hfu : fuelS l ≤ 900000 := hfu
  have hSp : Calc cx 18 [.str s] (.tup [.sl true false 4 (l.map tokA), .agg [.int .i64 (e1 : Nat), .int .i64 (e2 : Nat)]]) := hSp0
  have hsz : e1 = 0 → s.length ≤ 6000 := hsz
  clear hSp0
  by_cases h1 : e1 = 0
  ·subst h1
   rw [if_neg (by decide)] at hY
   have hsz := hsz rfl
   have hT : ∀ t ∈ l, t.text.length ≤ 6000 := fun t ht => by have := (hg t ht).size; omega
   have hne := parse_ne l
   refine pa [.v (.tup [.sl true false 4 (l.map tokA), .agg [.int .i64 (0 : Nat), .int .i64 (e2 : Nat)]]), .b false] rfl ?_ ?_
   ·(repeat' with_reducible apply AllP_cons) <;> first | exact aC | skip
    exact ⟨_, hSp, .cons (.refl .str) (.nil _)⟩
   refine S_defer rfl rfl rfl rfl hB ?_
   refine pa [] rfl ?_ ?_
   ·(repeat' with_reducible apply AllP_cons) <;> first | exact aC | skip
   refine S_heap [xo .nils, xf (0, e2), psB 0 l l s.length 0 0 0, (0, some (.cells [.ptr 2 0 0] ⟨false, none⟩))] ?_ ?_
   ·show [xo .nils, xf (0, e2), psI 0 l 0 (s.length : Nat) 0 0 0, (0, some (.cells [.ptr 2 0 0] ⟨false, none⟩))] = _
    unfold psB psI
    rw [Nat.sub_self]; rfl
   have hst := stmts_ok (fuelS l) hfu true 22 (fun F' h => (allD (fuelS l) hfu F' h).1) 0 0 l s.length 0 0 l (List.suffix_refl _) (by omega) hT (by omega) (by omega)
    (fun r τ hr => parse2_ok 0 0 l r s.length 0 0 0 τ hr (by omega)) hne
   refine S_callf [2, 3] hst rfl (.cons (.ptr rfl) (.cons (.func rfl (fun i h => by simp at h) rfl (fun i h _ => by
    have : i = 0 := by simp at h; omega
    subst this; exact .ptr rfl)) (.nil _))) (Part.mk' (es := [psB 0 l l s.length 0 0 0, (0, some (.cells [.ptr 2 0 0] ⟨false, none⟩))]) rfl rfl
    (.cons (psBox_rn ..) (.cons (.live (.cells (.cons (.ptr rfl) (.nil _)))) (.nil _)))) rfl rfl ?_ ?_
   ·intro y σ1 h
    cases hx : stmtsS (fuelS l) true 0 0 [] l with
    | out => exact absurd hx hne
    | bad j u => rw [hx] at h; cases h.1
    | ok x u =>
     rw [hx] at h hY
     have hY : Y = (x, (0, 0)) := hY
     subst hY
     obtain ⟨h1, rfl⟩ := h
     cases h1
     refine ⟨stsA x, [psB 0 l u s.length 0 0 0, (0, some (.cells [.ptr 2 0 0] ⟨false, none⟩))], (.cons (psBox_rn ..) (.cons (.live (.cells (.cons (.ptr rfl) (.nil _)))) (.nil _))), .free (stsA_free _), ?_⟩
     refine pa [] rfl ?_ ?_
     ·(repeat' with_reducible apply AllP_cons) <;> first | exact aC | skip
     refine S_ret ⟨_, rfl, pclos_ret (stsA x) (0, 0) (0, .cells [.sl true false 4 (l.map tokA), .int .i64 ((l.length - u.length : Nat) : Int), .int .i64 (s.length : Nat), .int .i64 (0 : Nat), .int .i64 (0 : Nat), .int .i64 (0 : Nat)] ⟨false, some 44⟩) (0, .cells [.ptr 2 0 0] ⟨false, none⟩) _ fun y => ?_⟩
     refine ⟨_, _, rfl, ⟨rfl, rfl, trivial⟩, _, rfl, ?_⟩
     exact Fzs.tup (.cons (.refl (stsA_free _)) (.cons (.refl (flt_free (0, 0))) .nil))
   ·intro y σ1 h
    cases hx : stmtsS (fuelS l) true 0 0 [] l with
    | out => exact absurd hx hne
    | ok x u => rw [hx] at h; cases h.1
    | bad j u =>
     rw [hx] at h hY
     have hY : Y = ([], (j, placeS s.length u)) := hY
     subst hY
     obtain ⟨h1, r', b', d', n', rfl⟩ := h
     cases h1
     refine ⟨flt (j, placeS s.length u), [psB 0 l r' s.length b' d' n', (0, some (.cells [.ptr 2 0 0] ⟨false, none⟩))], (.cons (psBox_rn ..) (.cons (.live (.cells (.cons (.ptr rfl) (.nil _)))) (.nil _))), .free (fltI_free _), ?_⟩
     refine ⟨_, rfl, pclos_pan .nils (0, e2) (j, placeS s.length u) (0, .cells [.sl true false 4 (l.map tokA), .int .i64 ((l.length - r'.length : Nat) : Int), .int .i64 (s.length : Nat), .int .i64 (b' : Nat), .int .i64 (d' : Nat), .int .i64 (n' : Nat)] ⟨false, some 44⟩) (0, .cells [.ptr 2 0 0] ⟨false, none⟩) _ fun y => ?_⟩
     exact ⟨_, _, rfl, ⟨rfl, rfl, trivial⟩, _, rfl, Fzs.tup (.cons .nils (.cons (.refl (flt_free _)) .nil))⟩
  ·have e0 : (((e1 : Nat) : Int) != 0) = true := bne_iff_ne.2 (by omega)
   rw [if_pos h1] at hY
   subst hY
   refine pa [.v (.tup [.sl true false 4 (l.map tokA), .agg [.int .i64 (e1 : Nat), .int .i64 (e2 : Nat)]]), .b true] rfl ?_ ?_
   ·(repeat' with_reducible apply AllP_cons) <;> first | exact aC | skip
    exact ⟨_, hSp, .cons (.refl .str) (.nil _)⟩
   refine S_drawC [xo .nils, xf (e1, e2)] 1 2 [] [.tup []] rfl rfl rfl rfl rfl ⟨rfl, rfl, rfl, rfl, rfl, rfl, lble rfl, rfl, rfl, trivial⟩ ?_
   refine pa [] rfl ?_ ?_
   ·(repeat' with_reducible apply AllP_cons) <;> first | exact aC | skip
   refine S_ret ⟨_, rfl, _, _, rfl, ⟨rfl, rfl, trivial⟩, _, rfl, ?_⟩
   exact Fzs.tup (.cons .nils (.cons (.refl (flt_free (e1, e2))) .nil)))
end Go.Proofs.YtonjhfeabphaaaaGreatDoor
end
section
set_option linter.unusedVariables false
set_option linter.unusedSimpArgs false
namespace Go.Ab
open Go
theorem Inv.grown {cx : Cx} {r : Rl} {σ : Heap} {w w' : World} (hi : Inv cx r σ w) (hsame : ∀ b, b < w.heap.size → w'.heap[b]? = w.heap[b]?) (hs : w.heap.size ≤ w'.heap.size) (hos : w'.os = w.os) (hout : w'.output = w.output) (htape : w'.tape = w.tape) :
  Inv cx r σ w' ∧ Ext r σ w r σ w' := by
 have hsize : ∀ (b : Nat) (c : Array Value) (t : TypeId) (f : Nat × Nat), w.heap[b]? = some (Obj.cells c t f) → ∃ (c' : Array Value) (f' : Nat × Nat), w'.heap[b]? = some (Obj.cells c' t f') ∧ c'.size = c.size := by
  intro b c t f h
  have hlt : b < w.heap.size := by
   rcases Nat.lt_or_ge b w.heap.size with h' | h'
   ·exact h'
   ·simp [Array.getElem?_eq_none h'] at h
  exact ⟨c, f, by rw [hsame b hlt, h], rfl⟩
 have g : Grow r w r w' := ⟨fun _ h => h, fun _ h => h, fun _ _ _ h => h, fun b hb => hsame b (hi.Ilt b hb), hsize⟩
 refine ⟨⟨?_, fun id ver b o h => ?_, hi.inj, hi.imm, fun b hb => Nat.lt_of_lt_of_le (hi.Ilt b hb) hs, hi.SI, hi.glob.mono g hi.SI⟩, ?_⟩
 ·intro id ver x hx
  rcases hi.box id ver x hx with ⟨b, o, h1, h2⟩ | h1
  ·exact .inl ⟨b, o, h1, h2.mono g (hsame b h2.lt)⟩
  ·exact .inr h1
 ·obtain ⟨h1, h2⟩ := hi.lt id ver b o h
  exact ⟨h1, Nat.lt_of_lt_of_le h2 hs⟩
 ·exact ⟨fun _ h => h, fun _ h => h, fun _ h => .inl h, fun _ h => .inl h, fun _ _ _ h => h, hs, Nat.le_refl _, fun b hb _ => hsame b hb, fun _ h => .inl h, hsize, hos, hout, htape, fun id ver b o h => .inl ⟨ver, o, h⟩⟩
theorem Calc.told {cx : Cx} {f : FuncId} {args : List AV} {res : AV} (he : Enters cx.P f) (hf : Free true res)
  (h : ∀ r w vs, Inv cx r [] w → VRels r w vs args → ∃ v, (∀ w', VRel r w' v res) ∧ Calls cx.P f vs w fun e w' => e = .returned v ∧ ∃ k os, w' = Sort.grow (w.drewN k) os) : Calc cx f args res :=
 calc_of hf ⟨he, fun r w vs hi hv => by
  obtain ⟨v, h1, h2⟩ := h r w vs hi hv
  refine h2.mono fun e w' ⟨he, k, os, hw⟩ => ?_
  subst he; subst hw
  have hsame : ∀ b, b < w.heap.size → (Sort.grow (w.drewN k) os).heap[b]? = w.heap[b]? := fun b hb => by
   show (w.heap ++ os)[b]? = w.heap[b]?
   rw [Array.getElem?_append_left hb]
  obtain ⟨q1, q2⟩ := hi.grown (w' := Sort.grow (w.drewN k) os) hsame (by show w.heap.size ≤ (w.heap ++ os).size; simp) rfl rfl rfl
  exact ⟨.ret res, [], r, ⟨res, rfl, .refl hf⟩, h1 _, q1, q2⟩⟩
theorem Inv.whole {cx : Cx} {r : Rl} {σ : Heap} {w : World} {g : Nat} {vs : Array Value} {name : String} (hi : Inv cx r σ w) (hg : cx.P.globalNamed name = some g) (hx : cx.X g = some vs) : w.var? cx.P name = some vs := by
 obtain ⟨_, t, f, h⟩ := hi.glob.X g vs hx
 unfold World.var?
 rw [hg]
 show (match w.heap[g]? with | some (.cells cs _ _) => some cs | _ => none) = _
 rw [h]
end Go.Ab
end
section
set_option linter.unusedVariables false
set_option linter.unusedSimpArgs false
set_option maxRecDepth 20000
namespace Go.Proofs.YtonjhfeabphaaaaGreatDoor
open Go Go.Ab
def laysItoa_ren : Go.Shelf.Ren := ⟨fun | 171 => 100 | 243 => 120 | 246 => 130 | 283 => 137 | 284 => 138 | 285 => 139 | 286 => 140 | 129 => 144 | 317 => 143 | 318 => 145 | 319 => 146 | 320 => 147 | 337 => 151 | 338 => 152 | n => n, fun | 3 => 3 | 9 => 9 | 2 => 2 | 4 => 4 | 171 => 121 | 0 => 0 | 53 => 122 | 37 => 40 | 5 => 5 | 173 => 125 | 212 => 129 | 51 => 130 | 20 => 20 | 213 => 131 | 46 => 133 | 232 => 138 | 233 => 139 | n => n, fun | 17 => 3 | 18 => 4 | 19 => 5 | n => n⟩
theorem laysItoa : Go.Proofs.LaysM.n171 Tryz.prog laysItoa_ren := {
 mixed := by kernel_rfl
 f129 := Tryz.func144.trans (congrArg some (by kernel_rfl))
 f171 := Tryz.func100.trans (congrArg some (by kernel_rfl))
 f243 := Tryz.func120.trans (congrArg some (by kernel_rfl))
 f246 := Tryz.func130.trans (congrArg some (by kernel_rfl))
 f283 := Tryz.func137.trans (congrArg some (by kernel_rfl))
 f284 := Tryz.func138.trans (congrArg some (by kernel_rfl))
 f285 := Tryz.func139.trans (congrArg some (by kernel_rfl))
 f286 := Tryz.func140.trans (congrArg some (by kernel_rfl))
 f317 := Tryz.func143.trans (congrArg some (by kernel_rfl))
 f318 := Tryz.func145.trans (congrArg some (by kernel_rfl))
 f319 := Tryz.func146.trans (congrArg some (by kernel_rfl))
 f320 := Tryz.func147.trans (congrArg some (by kernel_rfl))
 f337 := Tryz.func151.trans (congrArg some (by kernel_rfl))
 f338 := Tryz.func152.trans (congrArg some (by kernel_rfl))
 t0 := Tryz.underlying0
 a0 := Tryz.isAgg0
 z0 := Tryz.sizeOf0
 v0 := Tryz.zeroValue0
 t2 := Tryz.underlying2
 a2 := Tryz.isAgg2
 z2 := Tryz.sizeOf2
 v2 := Tryz.zeroValue2
 t3 := Tryz.underlying3
 a3 := Tryz.isAgg3
 z3 := Tryz.sizeOf3
 v3 := Tryz.zeroValue3
 t4 := Tryz.underlying4
 a4 := Tryz.isAgg4
 z4 := Tryz.sizeOf4
 v4 := Tryz.zeroValue4
 t5 := Tryz.underlying5
 a5 := Tryz.isAgg5
 z5 := Tryz.sizeOf5
 v5 := Tryz.zeroValue5
 t9 := Tryz.underlying9
 a9 := Tryz.isAgg9
 z9 := Tryz.sizeOf9
 v9 := Tryz.zeroValue9
 t20 := Tryz.underlying20
 a20 := Tryz.isAgg20
 z20 := Tryz.sizeOf20
 v20 := Tryz.zeroValue20
 t37 := Tryz.underlying40
 a37 := Tryz.isAgg40
 z37 := Tryz.sizeOf40
 v37 := Tryz.zeroValue40
 t46 := Tryz.underlying133
 a46 := Tryz.isAgg133
 z46 := Tryz.sizeOf133
 v46 := Tryz.zeroValue133
 t51 := Tryz.underlying130
 a51 := Tryz.isAgg130
 z51 := Tryz.sizeOf130
 v51 := Tryz.zeroValue130
 t53 := Tryz.underlying122
 a53 := Tryz.isAgg122
 z53 := Tryz.sizeOf122
 v53 := Tryz.zeroValue122
 t171 := Tryz.underlying121
 a171 := Tryz.isAgg121
 z171 := Tryz.sizeOf121
 v171 := Tryz.zeroValue121
 t173 := Tryz.underlying125
 a173 := Tryz.isAgg125
 z173 := Tryz.sizeOf125
 v173 := Tryz.zeroValue125
 t212 := Tryz.underlying129
 a212 := Tryz.isAgg129
 z212 := Tryz.sizeOf129
 v212 := Tryz.zeroValue129
 t213 := Tryz.underlying131
 a213 := Tryz.isAgg131
 z213 := Tryz.sizeOf131
 t232 := Tryz.underlying138
 a232 := Tryz.isAgg138
 z232 := Tryz.sizeOf138
 v232 := Tryz.zeroValue138
 t233 := Tryz.underlying139
 a233 := Tryz.isAgg139
 z233 := Tryz.sizeOf139
 v233 := Tryz.zeroValue139
 g17 := by kernel_rfl
 g18 := by kernel_rfl
 g19 := by kernel_rfl
 i0 := by kernel_rfl
 i2 := by kernel_rfl
 i3 := by kernel_rfl
 i4 := by kernel_rfl
 i5 := by kernel_rfl
 i9 := by kernel_rfl
 i20 := by kernel_rfl
 i37 := by kernel_rfl
 i46 := by kernel_rfl
 i51 := by kernel_rfl
 i53 := by kernel_rfl
 i171 := by kernel_rfl
 i173 := by kernel_rfl
 i212 := by kernel_rfl
 i232 := by kernel_rfl
 i233 := by kernel_rfl
 m17 := by kernel_rfl
 m18 := by kernel_rfl
 m19 := by kernel_rfl }
theorem gPow : Tryz.prog.globalNamed "internal/strconv.uint64pow10" = some 3 := by kernel_rfl
theorem pow10_whole : (Lib.pow10Tab.map fun z => Value.int .u64 z).toArray = pow10V := by unfold Lib.pow10Tab pow10V; rw [List.map_map]; rfl
theorem Itoa_ok (n : Int) (h0 : -9223372036854775808 ≤ n) (h1 : n ≤ 9223372036854775807) : Calc cx 100 [.int .i64 n] (.str (Lib.itoa n)) :=
 .told (fun a w => Tryz.call100 a w) .str fun r w vs hi hv => by
  obtain ⟨hs, hv⟩ := hv
  have h := hv 0 (Nat.zero_lt_succ _)
  have hvs : vs = #[.int .i64 n] := by
   refine Array.ext_getElem? fun i => ?_
   match i with
   | 0 =>
    cases hx : vs[0]? with
    | none => rw [Array.getElem?_eq_none_iff] at hx; simp at hs; omega
    | some x =>
     have : vs.getD 0 undef = x := by simp [Array.getD_eq_getD_getElem?, hx]
     rw [this] at h
     cases h; rfl
   | i + 1 =>
    have : vs.size = 1 := hs
    rw [Array.getElem?_eq_none (by omega), Array.getElem?_eq_none (by simp)]
  subst hvs
  refine ⟨.string ⟨(Lib.itoa n).toArray⟩, fun w' => .str rfl, ?_⟩
  exact Any.strconv_Itoa laysItoa n h0 h1 w (by
   unfold Lib.TabIs
   rw [pow10_whole]
   exact hi.whole gPow rfl)
end Go.Proofs.YtonjhfeabphaaaaGreatDoor
end
section
set_option linter.unusedVariables false
set_option linter.unusedSimpArgs false
set_option maxRecDepth 20000
set_option maxHeartbeats 4000000
namespace Go.Proofs.YtonjhfeabphaaaaGreatDoor
open Go Go.Ab
theorem holdsW : HoldsB 69 2 := ⟨lble rfl, lble rfl, fun k => by kernel_rfl⟩
def wrB (v u : Nat) (a : AV) (bs : List UInt8) : Nat × Option Box := (v, some (bBox 69 a (.ms 1 u 0 bs.length 1 false) []))
def wyB (u : Nat) (bs : List UInt8) : Nat × Option Box := (u, some (byBox bs))
def wrH (v u : Nat) (a : AV) (bs : List UInt8) (τ : Heap) : Heap := wrB v u a bs :: wyB u bs :: τ
theorem wr_rn (v u : Nat) (a : AV) (ha : a = .nilp ∨ a = .ptr 0 v 0) (bs : List UInt8) : RnH (List.range 2) (wrH v u a bs []) (wrH v u a bs []) := by
 have h : Rn (List.range 2) a a := by
  rcases ha with rfl | rfl
  ·exact .free .nilp
  ·exact .ptr rfl
 exact .cons (.live (.cells (.cons h (.cons (.ms rfl) (.nil _))))) (.cons (.live (.cells (.free (bytes_fr bs)))) (.nil _))
theorem wr_low (v u : Nat) (a : AV) (ha : a = .nilp ∨ a = .ptr 0 v 0) (bs : List UInt8) (τ : Heap) : LowH 2 (wrH v u a bs τ) := by
 intro id ver x hid hx
 match id, hid with
 | 0, _ =>
  cases hx
  refine .cells fun y hy => ?_
  simp only [List.mem_cons, List.not_mem_nil, or_false] at hy
  rcases hy with rfl | rfl
  ·rcases ha with rfl | rfl
   ·exact .nilp
   ·exact .ptr (by decide)
  ·exact .ms (by decide)
 | 1, _ =>
  cases hx
  exact .cells fun y hy => Low.free (st := false) (bytes_fr bs y hy)
theorem wsT (v u : Nat) (a : AV) (ha : a = .nilp ∨ a = .ptr 0 v 0) (bs cs : List UInt8) (τ : Heap) (hl : bs.length + cs.length ≤ 140737488355328) :
  CallOk cx 72 [.ptr 0 v 0, .str cs] (wrH v u a bs τ) (fun o s => o = .ret (.tup [.int .i64 cs.length, .nili]) ∧ s = wrH v (u + 1) (.ptr 0 v 0) (bs ++ cs) τ) :=
 (writeString_ok (rest := []) holdsW v u a ha bs cs hl).pre1 2 τ rfl rfl (.cons (.ptr rfl) (.free (by intro y hy; simp at hy; subst hy; exact .str))) (wr_rn v u a ha bs) (wr_rn v (u + 1) (.ptr 0 v 0) (.inr rfl) (bs ++ cs)) (.free (.tup (by intro y hy; simp at hy; rcases hy with rfl | rfl; exact .int; exact .nili)))
structure PutSt where
 i : Nat
 a : AV
theorem flat_take (l : List (List UInt8)) (i : Nat) (h : i < l.length) : (l.take (i + 1)).flatten = (l.take i).flatten ++ l[i] := by
 rw [List.take_succ_eq_append_getElem h, List.flatten_append]; simp
theorem flat_take_le (l : List (List UInt8)) (i : Nat) : (l.take i).flatten.length ≤ l.flatten.length := by
 conv => rhs; rw [← List.take_append_drop i l, List.flatten_append, List.length_append]
 omega
theorem wput0 (v u : Nat) (a : AV) (ha : a = .nilp ∨ a = .ptr 0 v 0) (bs : List UInt8) (st fl : Bool) (l : List (List UInt8)) (hn : l.length ≤ 1000000000) (hl : bs.length + l.flatten.length ≤ 140737488355328) (hne : l ≠ []) :
  CallOk cx 42 [.ptr 0 v 0, .sl st fl 1 (texts l)] (wrH v u a bs []) (fun o s => o = .ret (.tup []) ∧ s = wrH v (u + l.length) (.ptr 0 v 0) (bs ++ l.flatten) []) :=
 callOk_intro (fun a w => Tryz.call42 a w) Tryz.func42 rfl Tryz.ntmps42 rfl fun B => by
  have htl := texts_len l
  refine pa [] rfl ?_ ?_
  ·(repeat' with_reducible apply AllP_cons) <;> first | exact aC | skip
  refine S_while (α := PutSt) (fun q => [(0, .ptr 0 v 0), (6, .sl st fl 1 (texts l)), (7, .int .i64 (l.length : Nat)), (8, .int .i64 (q.i : Nat))]) (fun q => wrH v (u + q.i) q.a (bs ++ (l.take q.i).flatten) [])
   (fun q => q.i ≤ l.length ∧ (q.a = .nilp ∨ q.a = .ptr 0 v 0) ∧ (0 < q.i → q.a = .ptr 0 v 0)) (fun q => l.length - q.i) ⟨0, a⟩ ⟨Nat.zero_le _, ha, fun h => absurd h (Nat.lt_irrefl 0)⟩ (.cons rfl (.cons rfl (.cons (by show AV.int .i64 (((texts l).length : Nat) : Int) = _; rw [htl]) (.cons rfl (.nil _))))) (by show wrH v u a bs [] = wrH v (u + 0) a (bs ++ ([] : List (List UInt8)).flatten) []; simp) ?_
  rintro ⟨i, a1⟩ ⟨hi, ha1, hp⟩
  have hi : i ≤ l.length := hi
  have ha1 : a1 = .nilp ∨ a1 = .ptr 0 v 0 := ha1
  have hp : 0 < i → a1 = .ptr 0 v 0 := hp
  have hfl := flat_take_le l i
  show S cx _ B _ _ [(0, .ptr 0 v 0), (6, .sl st fl 1 (texts l)), (7, .int .i64 (l.length : Nat)), (8, .int .i64 (i : Nat))] (wrH v (u + i) a1 (bs ++ (l.take i).flatten) [])
  by_cases hlt : i < l.length
  ·have hel : (texts l)[((i : Nat) : Int).toNat]? = some (.str l[i]) := texts_get hlt
   have h1 := flat_take l i hlt
   have h2 := flat_take_le l (i + 1)
   rw [h1, List.length_append] at h2
   have hw := wsT v (u + i) a1 ha1 (bs ++ (l.take i).flatten) l[i] [] (by rw [List.length_append]; omega)
   refine pa [.b true, .v (.str l[i]), .f (.tup [.int .i64 l[i].length, .nili]) (fun _ => wrH v (u + i + 1) (.ptr 0 v 0) (bs ++ (l.take i).flatten ++ l[i]) [])] rfl ?_ ?_
   ·(repeat' with_reducible apply AllP_cons) <;> first | exact aC | skip
   refine S_round ⟨i + 1, .ptr 0 v 0⟩ (by show l.length - (i + 1) < l.length - i; omega) ⟨hlt, .inr rfl, fun _ => rfl⟩ (.cons rfl (.cons rfl (.cons rfl (.cons (by show AV.int .i64 (IntKind.i64.wrap (((i : Nat) : Int) + 1)) = .int .i64 ((i + 1 : Nat) : Int); exact ai64 rfl (by omega)) (.nil _))))) ?_
   show wrH v (u + i + 1) (.ptr 0 v 0) (bs ++ (l.take i).flatten ++ l[i]) [] = wrH v (u + (i + 1)) (.ptr 0 v 0) (bs ++ (l.take (i + 1)).flatten) []
   rw [h1, List.append_assoc]; rfl
  ·obtain rfl : i = l.length := by omega
   have hpos : 0 < l.length := List.length_pos_iff.2 hne
   obtain rfl := hp hpos
   rw [List.take_length]
   refine pa [.b false] rfl ?_ ?_
   ·(repeat' with_reducible apply AllP_cons) <;> first | exact aC | skip
   exact S_nil ⟨_, _, rfl, trivial, rfl, rfl⟩
theorem wput_ok (v u : Nat) (a : AV) (ha : a = .nilp ∨ a = .ptr 0 v 0) (bs : List UInt8) (st fl : Bool) (l : List (List UInt8)) (τ : Heap) (hn : l.length ≤ 1000000000) (hl : bs.length + l.flatten.length ≤ 140737488355328) (hne : l ≠ []) :
  CallOk cx 42 [.ptr 0 v 0, .sl st fl 1 (texts l)] (wrH v u a bs τ) (fun o s => o = .ret (.tup []) ∧ s = wrH v (u + l.length) (.ptr 0 v 0) (bs ++ l.flatten) τ) :=
 (wput0 v u a ha bs st fl l hn hl hne).pre1 2 τ rfl rfl (.cons (.ptr rfl) (.free (by intro y hy; simp at hy; subst hy; exact .sl (fun h => by cases h) (textsF l)))) (wr_rn v u a ha bs) (wr_rn v _ (.ptr 0 v 0) (.inr rfl) _) (.free (.tup (by simp)))
theorem dput (v u : Nat) (a : AV) (ha : a = .nilp ∨ a = .ptr 0 v 0) (bs : List UInt8) (st fl : Bool) (l : List (List UInt8)) (yc : List AV) (yg : Tag) (hn : l.length ≤ 1000000000) (hl : bs.length + l.flatten.length ≤ 140737488355328) (hne : l ≠ []) {R : Md → Heap → Prop} (hR : R .ret (wrH v (u + l.length) (.ptr 0 v 0) (bs ++ l.flatten) [(0, some (.cells yc yg))])) :
  DCall cx (.func (.func 42) [.ptr 0 v 0, .sl st fl 1 (texts l)] []) .ret (wrH v u a bs [(0, some (.cells yc yg))]) R :=
 dcall_intro (fun a w => Tryz.call42 a w) Tryz.func42 rfl Tryz.ntmps42 rfl fun B => by
  have htl := texts_len l
  refine pa [] rfl ?_ ?_
  ·(repeat' with_reducible apply AllP_cons) <;> first | exact aC | skip
  refine S_while (α := PutSt) (fun q => [(0, .ptr 0 v 0), (6, .sl st fl 1 (texts l)), (7, .int .i64 (l.length : Nat)), (8, .int .i64 (q.i : Nat))]) (fun q => wrH v (u + q.i) q.a (bs ++ (l.take q.i).flatten) [(0, some (.cells yc yg))])
   (fun q => q.i ≤ l.length ∧ (q.a = .nilp ∨ q.a = .ptr 0 v 0) ∧ (0 < q.i → q.a = .ptr 0 v 0)) (fun q => l.length - q.i) ⟨0, a⟩ ⟨Nat.zero_le _, ha, fun h => absurd h (Nat.lt_irrefl 0)⟩ (.cons rfl (.cons rfl (.cons (by show AV.int .i64 (((texts l).length : Nat) : Int) = _; rw [htl]) (.cons rfl (.nil _))))) (by show wrH v u a bs [(0, some (.cells yc yg))] = wrH v (u + 0) a (bs ++ ([] : List (List UInt8)).flatten) [(0, some (.cells yc yg))]; simp) ?_
  rintro ⟨i, a1⟩ ⟨hi, ha1, hp⟩
  have hi : i ≤ l.length := hi
  have ha1 : a1 = .nilp ∨ a1 = .ptr 0 v 0 := ha1
  have hp : 0 < i → a1 = .ptr 0 v 0 := hp
  have hfl := flat_take_le l i
  show S cx _ B _ _ [(0, .ptr 0 v 0), (6, .sl st fl 1 (texts l)), (7, .int .i64 (l.length : Nat)), (8, .int .i64 (i : Nat))] (wrH v (u + i) a1 (bs ++ (l.take i).flatten) [(0, some (.cells yc yg))])
  by_cases hlt : i < l.length
  ·have hel : (texts l)[((i : Nat) : Int).toNat]? = some (.str l[i]) := texts_get hlt
   have h1 := flat_take l i hlt
   have h2 := flat_take_le l (i + 1)
   rw [h1, List.length_append] at h2
   have hw := wsT v (u + i) a1 ha1 (bs ++ (l.take i).flatten) l[i] [(0, some (.cells yc yg))] (by rw [List.length_append]; omega)
   refine pa [.b true, .v (.str l[i]), .f (.tup [.int .i64 l[i].length, .nili]) (fun _ => wrH v (u + i + 1) (.ptr 0 v 0) (bs ++ (l.take i).flatten ++ l[i]) [(0, some (.cells yc yg))])] rfl ?_ ?_
   ·(repeat' with_reducible apply AllP_cons) <;> first | exact aC | skip
   refine S_round ⟨i + 1, .ptr 0 v 0⟩ (by show l.length - (i + 1) < l.length - i; omega) ⟨hlt, .inr rfl, fun _ => rfl⟩ (.cons rfl (.cons rfl (.cons rfl (.cons (by show AV.int .i64 (IntKind.i64.wrap (((i : Nat) : Int) + 1)) = .int .i64 ((i + 1 : Nat) : Int); exact ai64 rfl (by omega)) (.nil _))))) ?_
   show wrH v (u + i + 1) (.ptr 0 v 0) (bs ++ (l.take i).flatten ++ l[i]) [(0, some (.cells yc yg))] = wrH v (u + (i + 1)) (.ptr 0 v 0) (bs ++ (l.take (i + 1)).flatten) [(0, some (.cells yc yg))]
   rw [h1, List.append_assoc]; rfl
  ·obtain rfl : i = l.length := by omega
   have hpos : 0 < l.length := List.length_pos_iff.2 hne
   obtain rfl := hp hpos
   rw [List.take_length]
   refine pa [.b false] rfl ?_ ?_
   ·(repeat' with_reducible apply AllP_cons) <;> first | exact aC | skip
   exact S_nil ⟨_, _, rfl, trivial, _, rfl, hR⟩
theorem apart_ok (x : Ex) : Calc cx 121 [exA x] (.bool (apart x)) :=
 pure_intro (fun a w => Tryz.call121 a w) Tryz.func121 rfl Tryz.ntmps121 rfl .bool fun B => by
  obtain ⟨k, n, t, ks, ns⟩ := x
  show S cx _ B _ (retQ cx _ fun o σ' => ∃ v, o = .ret v ∧ Frz true σ' v (.bool (k == 12 || k == 13 || k == 14))) _ _
  by_cases h1 : k = 12
  ·have e1 : (((k : Nat) : Int) == 12) = true := by rw [h1]; rfl
   refine pa [.b true, .b true] rfl ?_ ?_
   ·(repeat' with_reducible apply AllP_cons) <;> first | exact aC | skip
   refine S_retc .bool rfl trivial ?_
   rw [h1]; rfl
  have e1 : (((k : Nat) : Int) == 12) = false := beq_false_of_ne (by omega)
  by_cases h2 : k = 13
  ·have e2 : (((k : Nat) : Int) == 13) = true := by rw [h2]; rfl
   refine pa [.b false, .b true] rfl ?_ ?_
   ·(repeat' with_reducible apply AllP_cons) <;> first | exact aC | skip
   refine S_retc .bool rfl trivial ?_
   rw [h2]; rfl
  have e2 : (((k : Nat) : Int) == 13) = false := beq_false_of_ne (by omega)
  refine pa [.b false, .b false] rfl ?_ ?_
  ·(repeat' with_reducible apply AllP_cons) <;> first | exact aC | skip
  refine S_retc .bool rfl trivial ?_
  show AV.bool (((k : Nat) : Int) == ((14 : Nat) : Int)) = _
  rw [show (((k : Nat) : Int) == ((14 : Nat) : Int)) = (k == 14) by rw [Bool.eq_iff_iff, beq_iff_eq, beq_iff_eq]; omega, beq_false_of_ne h1, beq_false_of_ne h2]; rfl
def Wr (f : FuncId) (x : Ex) (p : Pcs) : Prop := ∀ (v u : Nat) (a : AV) (bs : List UInt8), (a = .nilp ∨ a = .ptr 0 v 0) → bs.length + p.flatten.length ≤ 70000000000000 →
 CallOk cx f [.ptr 0 v 0, exA x] (wrH v u a bs []) (fun o s => o = .ret (.tup []) ∧ s = wrH v (u + p.length) (.ptr 0 v 0) (bs ++ p.flatten) [])
theorem Wr.tail {f : FuncId} {x : Ex} {p : Pcs} (h : Wr f x p) (v u : Nat) (a : AV) (bs : List UInt8) (τ : Heap) (ha : a = .nilp ∨ a = .ptr 0 v 0) (hl : bs.length + p.flatten.length ≤ 70000000000000) :
  CallOk cx f [.ptr 0 v 0, exA x] (wrH v u a bs τ) (fun o s => o = .ret (.tup []) ∧ s = wrH v (u + p.length) (.ptr 0 v 0) (bs ++ p.flatten) τ) :=
 (h v u a bs ha hl).pre1 2 τ rfl rfl (.cons (.ptr rfl) (.free (by intro y hy; simp at hy; subst hy; exact exA_free x))) (wr_rn v u a ha bs) (wr_rn v (u + p.length) (.ptr 0 v 0) (.inr rfl) (bs ++ p.flatten)) (.free (.tup (by simp)))
theorem wfin {v u : Nat} {bs : List UInt8} {τ : Heap} : TR 2 (fun o s => o = .ret (.tup []) ∧ s = wrH v u (.ptr 0 v 0) bs []) (.ret (.tup [])) (wrH v u (.ptr 0 v 0) bs τ) :=
 ⟨2, Nat.le_refl _, wr_low _ _ _ (.inr rfl) _ _, .tup [], .low (.tup (by simp)), rfl, rfl⟩
end Go.Proofs.YtonjhfeabphaaaaGreatDoor
end
section
set_option linter.unusedVariables false
set_option linter.unusedSimpArgs false
set_option maxRecDepth 20000
set_option maxHeartbeats 4000000
namespace Go.Proofs.YtonjhfeabphaaaaGreatDoor
open Go Go.Ab
theorem apart_ok' (k n : Nat) (t : List UInt8) (ks : List Ex) (ns : List (List UInt8)) {b : Bool} (hb : apart (.mk k n t ks ns) = b) : Calc cx 121 [.agg [.int .i64 (k : Nat), .int .i64 (n : Nat), .str t, .sl true false 5 (exL ks), .sl true false 1 (texts ns)]] (.bool b) := by
 subst hb; exact apart_ok (.mk k n t ks ns)
theorem exT_free {st : Bool} (k n : Nat) (t : List UInt8) (ks : List Ex) (ns : List (List UInt8)) : Free st (.agg [.int .i64 (k : Nat), .int .i64 (n : Nat), .str t, .sl true false 5 (exL ks), .sl true false 1 (texts ns)]) := exA_free (st := st) (.mk k n t ks ns)
def exBx (k n : Nat) (t : List UInt8) (ks : List Ex) (ns : List (List UInt8)) : Nat × Option Box := (0, some (.cells [.int .i64 (k : Nat), .int .i64 (n : Nat), .str t, .sl true false 5 (exL ks), .sl true false 1 (texts ns)] ⟨false, some 54⟩))
theorem wput1 (v u : Nat) (a : AV) (ha : a = .nilp ∨ a = .ptr 0 v 0) (bs s : List UInt8) (τ : Heap) (hl : bs.length + s.length ≤ 70000000000000) :
  CallOk cx 42 [.ptr 0 v 0, .sl true true 1 [.str s]] (wrH v u a bs τ) (fun o h => o = .ret (.tup []) ∧ h = wrH v (u + 1) (.ptr 0 v 0) (bs ++ s) τ) := by
 have h := wput_ok v u a ha bs true true [s] τ (by simp) (by exact fl) (by simp)
 rw [show [s].flatten = s by simp] at h
 exact h
theorem inner_ok (x : Ex) (p : Pcs) (h : Wr 73 x p) : Wr 104 x (brk (apart x) p) := by
 intro v u a bs ha hl
 exact callOk_trunc (callOk_introD (fun a w => Tryz.call104 a w) Tryz.func104 rfl Tryz.ntmps104 rfl fun B hB => by
  obtain ⟨k, n, t, ks, ns⟩ := x
  obtain ⟨b, hb⟩ : ∃ b, apart (.mk k n t ks ns) = b := ⟨_, rfl⟩
  have hap := apart_ok' k n t ks ns hb
  rw [hb] at hl ⊢
  cases b with
  | false =>
   have ht := h.tail v u a bs [exBx k n t ks ns] ha hl
   refine pa [.v (.bool false), .b false, .f (.tup []) (fun _ => wrH v (u + p.length) (.ptr 0 v 0) (bs ++ p.flatten) [exBx k n t ks ns])] rfl ?_ ?_
   ·(repeat' with_reducible apply AllP_cons) <;> first | exact aC | skip
    ·exact ⟨_, hap, .cons (.refl (exT_free k n t ks ns)) (.nil _)⟩
   exact S_nil ⟨_, rfl, _, _, rfl, trivial, wfin⟩
  | true =>
   have e1 : (brk true p).length = p.length + 2 := by show ([[40]] ++ p ++ [[41]]).length = _; exact fl
   have e2 : (brk true p).flatten = [40] ++ p.flatten ++ [41] := by simp [brk]
   rw [e2] at hl
   rw [e1, e2]
   have hp1 := wput1 v u a ha bs [40] [exBx k n t ks ns] (by exact fl)
   have ht := h.tail v (u + 1) (.ptr 0 v 0) (bs ++ [40]) [exBx k n t ks ns] (.inr rfl) (by exact fl)
   refine pa [.v (.bool true), .b true, .f (.tup []) (fun _ => wrH v (u + 1) (.ptr 0 v 0) (bs ++ [40]) [exBx k n t ks ns])] rfl ?_ ?_
   ·(repeat' with_reducible apply AllP_cons) <;> first | exact aC | skip
    ·exact ⟨_, hap, .cons (.refl (exT_free k n t ks ns)) (.nil _)⟩
   refine pa [] rfl ?_ ?_
   ·(repeat' with_reducible apply AllP_cons) <;> first | exact aC | skip
   refine S_defer rfl rfl rfl rfl hB ?_
   refine pa [.f (.tup []) (fun _ => wrH v (u + 1 + p.length) (.ptr 0 v 0) (bs ++ [40] ++ p.flatten) [exBx k n t ks ns])] rfl ?_ ?_
   ·(repeat' with_reducible apply AllP_cons) <;> first | exact aC | skip
   refine S_nil ⟨_, rfl, dput v (u + 1 + p.length) (.ptr 0 v 0) (.inr rfl) (bs ++ [40] ++ p.flatten) true true [[41]] _ _ (by decide) (by exact fl) (by simp) ⟨_, _, rfl, trivial, ?_⟩⟩
   have : wrH v (u + 1 + p.length + 1) (.ptr 0 v 0) (bs ++ [40] ++ p.flatten ++ [41]) [exBx k n t ks ns] = wrH v (u + (p.length + 2)) (.ptr 0 v 0) (bs ++ ([40] ++ p.flatten ++ [41])) [exBx k n t ks ns] := by
    rw [show u + 1 + p.length + 1 = u + (p.length + 2) by omega]; simp only [List.append_assoc]
   exact this ▸ wfin)
def Clo (g : FuncId) (caps : List AV) (v : Nat) (τ : Heap) (i : Nat) (p : Pcs) : Prop := ∀ (u : Nat) (bs : List UInt8), bs.length + p.flatten.length ≤ 70000000000000 →
 CallOk cx g ([] ++ [.int .i64 (i : Nat)] ++ caps) (wrH v u (.ptr 0 v 0) bs τ) (fun o s => o = .ret (.tup []) ∧ s = wrH v (u + p.length) (.ptr 0 v 0) (bs ++ p.flatten) τ)
theorem eachA_le (sep : List UInt8) (l : List Pcs) (i : Nat) (h : i ≤ l.length) : (eachA sep (l.take i)).flatten.length ≤ (eachA sep l).flatten.length := by
 induction hk : l.length - i generalizing i with
 | zero =>
  rw [List.take_of_length_le (by omega)]; exact Nat.le_refl _
 | succ n ih =>
  have := ih (i + 1) (by omega) (by omega)
  rw [eachA_take _ _ _ (by omega), List.flatten_append, List.length_append] at this
  omega
theorem each_ok (g : FuncId) (caps : List AV) (v u : Nat) (bs sep : List UInt8) (v1 v2 v3 : Nat) (c1 c2 c3 : List AV) (g1 g2 g3 : Tag) (l : List Pcs) (hn : l.length ≤ 1000000000)
  (hC : ∀ i (h : i < l.length), Clo g caps v [(v1, some (.cells c1 g1)), (v2, some (.cells c2 g2)), (v3, some (.cells c3 g3))] i l[i]) (hl : bs.length + (eachA sep l).flatten.length ≤ 70000000000000) :
  CallOk cx 101 [.ptr 0 v 0, .int .i64 (l.length : Nat), .str sep, .func (.func g) [] caps] (wrH v u (.ptr 0 v 0) bs [(v1, some (.cells c1 g1)), (v2, some (.cells c2 g2)), (v3, some (.cells c3 g3))])
   (fun o s => o = .ret (.tup []) ∧ s = wrH v (u + (eachA sep l).length) (.ptr 0 v 0) (bs ++ (eachA sep l).flatten) [(v1, some (.cells c1 g1)), (v2, some (.cells c2 g2)), (v3, some (.cells c3 g3))]) :=
 callOk_intro (fun a w => Tryz.call101 a w) Tryz.func101 rfl Tryz.ntmps101 rfl fun B => by
  refine pa [] rfl ?_ ?_
  ·(repeat' with_reducible apply AllP_cons) <;> first | exact aC | skip
  refine S_while (α := Nat) (fun i => [(0, .ptr 0 v 0), (2, .str sep), (3, .func (.func g) [] caps), (9, .int .i64 (l.length : Nat)), (10, .int .i64 (i : Nat))]) (fun i => wrH v (u + (eachA sep (l.take i)).length) (.ptr 0 v 0) (bs ++ (eachA sep (l.take i)).flatten) [(v1, some (.cells c1 g1)), (v2, some (.cells c2 g2)), (v3, some (.cells c3 g3))])
   (fun i => i ≤ l.length) (fun i => l.length - i) 0 (Nat.zero_le _) (.cons rfl (.cons rfl (.cons rfl (.cons rfl (.cons rfl (.nil _)))))) (by show wrH v u _ bs _ = wrH v (u + 0) _ (bs ++ []) _; simp) ?_
  intro i hi
  have hi : i ≤ l.length := hi
  by_cases hlt : i < l.length
  ·have hle := eachA_le sep l (i + 1) hlt
   have he := eachA_take sep l i hlt
   have hC := hC i hlt
   rw [he, List.flatten_append, List.flatten_append, List.length_append, List.length_append] at hle
   by_cases h0 : 0 < i
   ·rw [if_pos h0] at he hle
    simp only [List.flatten_cons, List.flatten_nil, List.append_nil] at hle
    have hp1 := wput1 v (u + (eachA sep (l.take i)).length) (.ptr 0 v 0) (.inr rfl) (bs ++ (eachA sep (l.take i)).flatten) sep [(v1, some (.cells c1 g1)), (v2, some (.cells c2 g2)), (v3, some (.cells c3 g3))] (by exact fl)
    have hc := hC (u + (eachA sep (l.take i)).length + 1) (bs ++ (eachA sep (l.take i)).flatten ++ sep) (by exact fl)
    refine pa [.b true, .b true, .f (.tup []) (fun _ => wrH v (u + (eachA sep (l.take i)).length + 1) (.ptr 0 v 0) (bs ++ (eachA sep (l.take i)).flatten ++ sep) [(v1, some (.cells c1 g1)), (v2, some (.cells c2 g2)), (v3, some (.cells c3 g3))]), .f (.tup []) (fun _ => wrH v (u + (eachA sep (l.take i)).length + 1 + l[i].length) (.ptr 0 v 0) (bs ++ (eachA sep (l.take i)).flatten ++ sep ++ l[i].flatten) [(v1, some (.cells c1 g1)), (v2, some (.cells c2 g2)), (v3, some (.cells c3 g3))])] rfl ?_ ?_
    ·(repeat' with_reducible apply AllP_cons) <;> first | exact aC | skip
    refine S_round (i + 1) (by show l.length - (i + 1) < l.length - i; omega) hlt (.cons rfl (.cons rfl (.cons rfl (.cons rfl (.cons (by show AV.int .i64 (IntKind.i64.wrap (((i : Nat) : Int) + 1)) = .int .i64 ((i + 1 : Nat) : Int); exact ai64 rfl (by omega)) (.nil _)))))) ?_
    rw [he]
    simp only [List.length_append, List.flatten_append, List.flatten_cons, List.flatten_nil, List.append_nil, List.length_cons, List.length_nil, List.append_assoc]
    rw [show u + ((eachA sep (l.take i)).length + (0 + 1 + l[i].length)) = u + (eachA sep (l.take i)).length + 1 + l[i].length by omega]
    rfl
   ·obtain rfl : i = 0 := by omega
    rw [if_neg h0] at he hle
    have hc := hC (u + (eachA sep (l.take 0)).length) (bs ++ (eachA sep (l.take 0)).flatten) (by exact fl)
    refine pa [.b true, .b false, .f (.tup []) (fun _ => wrH v (u + (eachA sep (l.take 0)).length + l[0].length) (.ptr 0 v 0) (bs ++ (eachA sep (l.take 0)).flatten ++ l[0].flatten) [(v1, some (.cells c1 g1)), (v2, some (.cells c2 g2)), (v3, some (.cells c3 g3))])] rfl ?_ ?_
    ·(repeat' with_reducible apply AllP_cons) <;> first | exact aC | skip
    refine S_round (0 + 1) (by show l.length - (0 + 1) < l.length - 0; omega) hlt (.cons rfl (.cons rfl (.cons rfl (.cons rfl (.cons (by show AV.int .i64 (IntKind.i64.wrap (((0 : Nat) : Int) + 1)) = .int .i64 ((0 + 1 : Nat) : Int); exact ai64 rfl (by omega)) (.nil _)))))) ?_
    rw [he]
    simp only [List.length_append, List.flatten_append, List.flatten_nil, List.append_nil, List.nil_append, List.length_nil, List.append_assoc, Nat.add_assoc]
    rfl
  ·obtain rfl : i = l.length := by omega
   rw [List.take_length]
   refine pa [.b false] rfl ?_ ?_
   ·(repeat' with_reducible apply AllP_cons) <;> first | exact aC | skip
   exact S_nil ⟨_, _, rfl, trivial, rfl, rfl⟩
end Go.Proofs.YtonjhfeabphaaaaGreatDoor
end
section
set_option linter.unusedVariables false
set_option linter.unusedSimpArgs false
set_option maxRecDepth 20000
set_option maxHeartbeats 4000000
namespace Go.Proofs.YtonjhfeabphaaaaGreatDoor
open Go Go.Ab
def qBx (v : Nat) : Nat × Option Box := (0, some (.cells [.ptr 0 v 0] ⟨false, none⟩))
def kBx (ks : List Ex) : Nat × Option Box := (0, some (.cells [.sl true false 5 (exL ks)] ⟨false, none⟩))
def tH (v k n : Nat) (t : List UInt8) (ks : List Ex) (ns : List (List UInt8)) : Heap := [qBx v, exBx k n t ks ns, kBx ks]
theorem wfinE {v u u' : Nat} {bs bs' : List UInt8} {τ : Heap} (hu : u = u') (hb : bs = bs') : TR 2 (fun o s => o = .ret (.tup []) ∧ s = wrH v u' (.ptr 0 v 0) bs' []) (.ret (.tup [])) (wrH v u (.ptr 0 v 0) bs τ) := by
 subst hu; subst hb; exact wfin
theorem exL_get {ks : List Ex} {i : Nat} (h : i < ks.length) {y : Ex} (hy : ks[i] = y) : (exL ks)[((i : Nat) : Int).toNat]? = some (exA y) := by
 subst hy
 rw [exL_map, List.getElem?_map, Int.toNat_natCast, List.getElem?_eq_getElem h]; rfl
theorem clo1 (v k n : Nat) (t : List UInt8) (ks : List Ex) (ns : List (List UInt8)) (i : Nat) (h : i < ks.length) (p : Pcs) (hp : Wr 73 ks[i] p) :
  Clo 102 [.ptr 2 0 0, .ptr 4 0 0] v (tH v k n t ks ns) i p := by
 intro u bs hl
 obtain ⟨y, hy⟩ : ∃ y, ks[i] = y := ⟨_, rfl⟩
 have he := exL_get h hy
 rw [hy] at hp
 obtain ⟨yk, yn, yt, ys, ym⟩ := y
 have hw := hp.tail v u (.ptr 0 v 0) bs (tH v k n t ks ns) (.inr rfl) hl
 exact callOk_intro (fun a w => Tryz.call102 a w) Tryz.func102 rfl Tryz.ntmps102 rfl fun B => by
  refine pa [.v (exA (.mk yk yn yt ys ym)), .f (.tup []) (fun _ => wrH v (u + p.length) (.ptr 0 v 0) (bs ++ p.flatten) (tH v k n t ks ns))] rfl ?_ ?_
  ·(repeat' with_reducible apply AllP_cons) <;> first | exact aC | skip
  exact S_nil ⟨_, _, rfl, trivial, rfl, rfl⟩
theorem clo2 (v k n : Nat) (t : List UInt8) (ks : List Ex) (ns : List (List UInt8)) (i : Nat) (h : i < ks.length) (p : Pcs) (hp : Wr 73 ks[i] p) (hn : ks.length ≤ 1000000) :
  Clo 103 [.ptr 2 0 0, .ptr 4 0 0] v (tH v k n t ks ns) i ((if 0 < i then [sepD i] else []) ++ p) := by
 intro u bs hl
 obtain ⟨y, hy⟩ : ∃ y, ks[i] = y := ⟨_, rfl⟩
 have he := exL_get h hy
 rw [hy] at hp
 obtain ⟨yk, yn, yt, ys, ym⟩ := y
 have hmd : ((i : Nat) : Int).tmod 2 = ((i % 2 : Nat) : Int) := by rw [Int.tmod_eq_emod_of_nonneg (by omega)]; rfl
 by_cases h0 : 0 < i
 ·rw [if_pos h0] at hl ⊢
  have hl' : bs.length + (sepD i).length + p.flatten.length ≤ 70000000000000 := by exact fl
  have h1 := wput1 v u (.ptr 0 v 0) (.inr rfl) bs (sepD i) (tH v k n t ks ns) (by omega)
  have hw := hp.tail v (u + 1) (.ptr 0 v 0) (bs ++ sepD i) (tH v k n t ks ns) (.inr rfl) (by exact fl)
  exact callOk_intro (fun a w => Tryz.call103 a w) Tryz.func103 rfl Tryz.ntmps103 rfl fun B => by
   refine pa [.b true, .v (.str (sepD i)), .f (.tup []) (fun _ => wrH v (u + 1) (.ptr 0 v 0) (bs ++ sepD i) (tH v k n t ks ns)), .v (exA (.mk yk yn yt ys ym)), .f (.tup []) (fun _ => wrH v (u + 1 + p.length) (.ptr 0 v 0) (bs ++ sepD i ++ p.flatten) (tH v k n t ks ns))] rfl ?_ ?_
   ·(repeat' with_reducible apply AllP_cons) <;> first | exact aC | skip
    ·rw [hmd, Int.toNat_natCast]
     unfold sepD
     rcases Nat.mod_two_eq_zero_or_one i with h | h <;> rw [h] <;> rfl
   refine S_nil ⟨_, _, rfl, trivial, rfl, ?_⟩
   show wrH _ _ _ _ _ = wrH _ _ _ _ _
   simp only [List.length_append, List.length_cons, List.length_nil, List.flatten_append, List.flatten_cons, List.flatten_nil, List.append_nil, List.append_assoc]
   rw [show u + (0 + 1 + p.length) = u + 1 + p.length by omega]
   rfl
 ·rw [if_neg h0] at hl ⊢
  have hw := hp.tail v u (.ptr 0 v 0) bs (tH v k n t ks ns) (.inr rfl) hl
  exact callOk_intro (fun a w => Tryz.call103 a w) Tryz.func103 rfl Tryz.ntmps103 rfl fun B => by
   refine pa [.b false, .v (exA (.mk yk yn yt ys ym)), .f (.tup []) (fun _ => wrH v (u + p.length) (.ptr 0 v 0) (bs ++ p.flatten) (tH v k n t ks ns))] rfl ?_ ?_
   ·(repeat' with_reducible apply AllP_cons) <;> first | exact aC | skip
   exact S_nil ⟨_, _, rfl, trivial, rfl, rfl⟩
theorem clo3 (v k n : Nat) (t : List UInt8) (ks : List Ex) (ns : List (List UInt8)) (i : Nat) (h : i + 1 < ks.length) (p : Pcs) (hp : Wr 73 ks[i + 1] p) (hn : ks.length ≤ 1000000) (hm : ns.length + 1 ≤ ks.length) :
  Clo 105 [.ptr 4 0 0, .ptr 3 0 0, .ptr 2 0 0] v (tH v k n t ks ns) i ((if ks.length - 1 - ns.length ≤ i then [ns.getD (i - (ks.length - 1 - ns.length)) [], [61]] else []) ++ p) := by
 intro u bs hl
 obtain ⟨y, hy⟩ : ∃ y, ks[i + 1] = y := ⟨_, rfl⟩
 have he := exL_get h hy
 rw [hy] at hp
 obtain ⟨yk, yn, yt, ys, ym⟩ := y
 have hln : (exL ks).length = ks.length := by rw [exL_map]; simp
 have htn := texts_len ns
 have hwr : IntKind.i64.wrap (((i : Nat) : Int) - IntKind.i64.wrap (IntKind.i64.wrap (((exL ks).length : Nat) - 1) - ((texts ns).length : Nat))) = (i : Int) - ((ks.length : Int) - 1 - (ns.length : Int)) := by
  rw [hln, htn, IntWalk.i64_in ((ks.length : Int) - 1) ⟨by omega, by omega⟩, IntWalk.i64_in ((ks.length : Int) - 1 - (ns.length : Int)) ⟨by omega, by omega⟩, IntWalk.i64_in _ ⟨by omega, by omega⟩]
 have hw1 : IntKind.i64.wrap (((i : Nat) : Int) + 1) = ((i + 1 : Nat) : Int) := by rw [IntWalk.i64_in _ ⟨by omega, by omega⟩]; rfl
 by_cases h0 : ks.length - 1 - ns.length ≤ i
 ·rw [if_pos h0] at hl ⊢
  obtain ⟨j, hj⟩ : ∃ j, j = i - (ks.length - 1 - ns.length) := ⟨_, rfl⟩
  rw [← hj] at hl ⊢
  have hjl : j < ns.length := by omega
  have hjs : ns.getD j [] = ns[j] := by simp [List.getD, hjl]
  rw [hjs] at hl ⊢
  have hel : (texts ns)[((j : Nat) : Int).toNat]? = some (.str ns[j]) := texts_get hjl
  have h1 := wput_ok v u (.ptr 0 v 0) (.inr rfl) bs true true [ns[j], [61]] (tH v k n t ks ns) (by simp) (by exact fl) (by simp)
  rw [show [ns[j], [61]].flatten = ns[j] ++ [61] by simp] at h1
  have hw := hp.tail v (u + 2) (.ptr 0 v 0) (bs ++ (ns[j] ++ [61])) (tH v k n t ks ns) (.inr rfl) (by exact fl)
  exact callOk_intro (fun a w => Tryz.call105 a w) Tryz.func105 rfl Tryz.ntmps105 rfl fun B => by
   refine pa [.b true, .v (.str ns[j]), .f (.tup []) (fun _ => wrH v (u + 2) (.ptr 0 v 0) (bs ++ (ns[j] ++ [61])) (tH v k n t ks ns)), .v (exA (.mk yk yn yt ys ym)), .f (.tup []) (fun _ => wrH v (u + 2 + p.length) (.ptr 0 v 0) (bs ++ (ns[j] ++ [61]) ++ p.flatten) (tH v k n t ks ns))] rfl ?_ ?_
   ·(repeat' with_reducible apply AllP_cons) <;> first | exact aC | skip
    ·rw [hwr, show (i : Int) - ((ks.length : Int) - 1 - (ns.length : Int)) = ((j : Nat) : Int) by omega]; exact hel
    ·rw [hw1]; exact he
   refine S_nil ⟨_, _, rfl, trivial, rfl, ?_⟩
   show wrH _ _ _ _ _ = wrH _ _ _ _ _
   simp only [List.length_append, List.length_cons, List.length_nil, List.flatten_append, List.flatten_cons, List.flatten_nil, List.append_nil, List.append_assoc]
   rw [show u + (0 + 1 + 1 + p.length) = u + 2 + p.length by omega]
   rfl
 ·rw [if_neg h0] at hl ⊢
  have hw := hp.tail v u (.ptr 0 v 0) bs (tH v k n t ks ns) (.inr rfl) hl
  exact callOk_intro (fun a w => Tryz.call105 a w) Tryz.func105 rfl Tryz.ntmps105 rfl fun B => by
   refine pa [.b false, .v (exA (.mk yk yn yt ys ym)), .f (.tup []) (fun _ => wrH v (u + p.length) (.ptr 0 v 0) (bs ++ p.flatten) (tH v k n t ks ns))] rfl ?_ ?_
   ·(repeat' with_reducible apply AllP_cons) <;> first | exact aC | skip
    ·rw [hw1]; exact he
   exact S_nil ⟨_, _, rfl, trivial, rfl, rfl⟩
end Go.Proofs.YtonjhfeabphaaaaGreatDoor
end
section
set_option linter.unusedVariables false
set_option linter.unusedSimpArgs false
set_option maxRecDepth 20000
set_option maxHeartbeats 4000000
namespace Go.Proofs.YtonjhfeabphaaaaGreatDoor
open Go Go.Ab
abbrev WX := 73
theorem wex1 (n : Nat) (t : List UInt8) (ks : List Ex) (ns : List (List UInt8)) : Wr WX (.mk 1 n t ks ns) [wNone] := by
 intro v u a bs ha hl
 exact callOk_introT (fun a w => Tryz.call73 a w) Tryz.func73 rfl Tryz.ntmps73 rfl fun B => by
  have h1 := wput1 v u a ha bs wNone (tH v 1 n t ks ns) (by exact fl)
  refine pa [.b true, .b true, .v (.str wNone), .f (.tup []) (fun _ => wrH v (u + 1) (.ptr 0 v 0) (bs ++ wNone) (tH v 1 n t ks ns))] rfl ?_ ?_
  ·(repeat' with_reducible apply AllP_cons) <;> first | exact aC | skip
  exact S_nil ⟨_, _, rfl, trivial, wfinE rfl (by simp)⟩
theorem wex2 (n : Nat) (t : List UInt8) (ks : List Ex) (ns : List (List UInt8)) : Wr WX (.mk 2 n t ks ns) [wTrue] := by
 intro v u a bs ha hl
 exact callOk_introT (fun a w => Tryz.call73 a w) Tryz.func73 rfl Tryz.ntmps73 rfl fun B => by
  have h1 := wput1 v u a ha bs wTrue (tH v 2 n t ks ns) (by exact fl)
  refine pa [.b false, .b true, .b true, .v (.str wTrue), .f (.tup []) (fun _ => wrH v (u + 1) (.ptr 0 v 0) (bs ++ wTrue) (tH v 2 n t ks ns))] rfl ?_ ?_
  ·(repeat' with_reducible apply AllP_cons) <;> first | exact aC | skip
  exact S_nil ⟨_, _, rfl, trivial, wfinE rfl (by simp)⟩
theorem wex3 (n : Nat) (t : List UInt8) (ks : List Ex) (ns : List (List UInt8)) : Wr WX (.mk 3 n t ks ns) [wFalse] := by
 intro v u a bs ha hl
 exact callOk_introT (fun a w => Tryz.call73 a w) Tryz.func73 rfl Tryz.ntmps73 rfl fun B => by
  have h1 := wput1 v u a ha bs wFalse (tH v 3 n t ks ns) (by exact fl)
  refine pa [.b false, .b false, .b true, .v (.str wFalse), .f (.tup []) (fun _ => wrH v (u + 1) (.ptr 0 v 0) (bs ++ wFalse) (tH v 3 n t ks ns))] rfl ?_ ?_
  ·(repeat' with_reducible apply AllP_cons) <;> first | exact aC | skip
  exact S_nil ⟨_, _, rfl, trivial, wfinE rfl (by simp)⟩
theorem wex4 (n : Nat) (hn : n ≤ 9007199254740991) (t : List UInt8) (ks : List Ex) (ns : List (List UInt8)) : Wr WX (.mk 4 n t ks ns) [Lib.itoa n] := by
 intro v u a bs ha hl
 exact callOk_introT (fun a w => Tryz.call73 a w) Tryz.func73 rfl Tryz.ntmps73 rfl fun B => by
  have h0 := Itoa_ok (n : Nat) (by omega) (by omega)
  have h1 := wput1 v u a ha bs (Lib.itoa n) (tH v 4 n t ks ns) (by exact fl)
  refine pa [.b false, .b false, .b false, .b true, .v (.str (Lib.itoa n)), .f (.tup []) (fun _ => wrH v (u + 1) (.ptr 0 v 0) (bs ++ Lib.itoa n) (tH v 4 n t ks ns))] rfl ?_ ?_
  ·(repeat' with_reducible apply AllP_cons) <;> first | exact aC | skip
   exact ⟨_, h0, .cons (.refl .int) (.nil _)⟩
  exact S_nil ⟨_, _, rfl, trivial, wfinE rfl (by simp)⟩
theorem quoT_ge (t : List UInt8) : t.length + 2 ≤ (quoT t).length := by
 have h : ∀ t : List UInt8, t.length ≤ (t.flatMap quoC).length := fun t => by
  induction t with
  | nil => exact Nat.le_refl _
  | cons c r ih =>
   have : 1 ≤ (quoC c).length := by unfold quoC; (repeat' split) <;> simp
   rw [List.flatMap_cons, List.length_append, List.length_cons]; omega
 have := h t
 unfold quoT; exact fl
theorem wex5 (n : Nat) (t : List UInt8) (ks : List Ex) (ns : List (List UInt8)) : Wr WX (.mk 5 n t ks ns) [quoT t] := by
 intro v u a bs ha hl
 have hge := quoT_ge t
 exact callOk_introT (fun a w => Tryz.call73 a w) Tryz.func73 rfl Tryz.ntmps73 rfl fun B => by
  have h0 := Quote_ok t (by exact fl)
  have h1 := wput1 v u a ha bs (quoT t) (tH v 5 n t ks ns) (by exact fl)
  refine pa [.b false, .b false, .b false, .b false, .b true, .v (.str (quoT t)), .f (.tup []) (fun _ => wrH v (u + 1) (.ptr 0 v 0) (bs ++ quoT t) (tH v 5 n t ks ns))] rfl ?_ ?_
  ·(repeat' with_reducible apply AllP_cons) <;> first | exact aC | skip
   exact ⟨_, h0, .cons (.refl .str) (.nil _)⟩
  exact S_nil ⟨_, _, rfl, trivial, wfinE rfl (by simp)⟩
theorem wex6 (n : Nat) (t : List UInt8) (ks : List Ex) (ns : List (List UInt8)) : Wr WX (.mk 6 n t ks ns) [t] := by
 intro v u a bs ha hl
 exact callOk_introT (fun a w => Tryz.call73 a w) Tryz.func73 rfl Tryz.ntmps73 rfl fun B => by
  have h1 := wput1 v u a ha bs t (tH v 6 n t ks ns) (by exact fl)
  refine pa [.b false, .b false, .b false, .b false, .b false, .b true, .f (.tup []) (fun _ => wrH v (u + 1) (.ptr 0 v 0) (bs ++ t) (tH v 6 n t ks ns))] rfl ?_ ?_
  ·(repeat' with_reducible apply AllP_cons) <;> first | exact aC | skip
  exact S_nil ⟨_, _, rfl, trivial, wfinE rfl (by simp)⟩
theorem wex7 (n : Nat) (t : List UInt8) (ks : List Ex) (ns : List (List UInt8)) (hks : ∀ x ∈ ks, Wr WX x (exW x)) (hz : ks.length ≤ 1000000) : Wr WX (.mk 7 n t ks ns) ([[91]] ++ eachA [44, 32] ((exWs ks).map (·.2)) ++ [[93]]) := by
 intro v u a bs ha hl
 obtain ⟨l, hL⟩ : ∃ l, l = (exWs ks).map (·.2) := ⟨_, rfl⟩
 rw [← hL] at hl ⊢
 have hll : l.length = ks.length := by rw [hL, exWs_map]; simp
 have hlk : (exL ks).length = l.length := by rw [exL_map, hll]; simp
 have hli : ∀ i (h : i < l.length), l[i] = exW ks[i] := fun i h => by subst hL; simp [exWs_map]
 exact callOk_introT (fun a w => Tryz.call73 a w) Tryz.func73 rfl Tryz.ntmps73 rfl fun B => by
  have h1 := wput1 v u a ha bs [91] (tH v 7 n t ks ns) (by exact fl)
  have h2 := each_ok 102 [.ptr 2 0 0, .ptr 4 0 0] v (u + 1) (bs ++ [91]) [44, 32] 0 0 0 _ _ _ _ _ _ l (by omega) (fun i h => by
   rw [hli i h]; exact clo1 v 7 n t ks ns i (by omega) _ (hks _ (List.getElem_mem _))) (by exact fl)
  rw [← hlk] at h2
  have h3 := wput1 v (u + 1 + (eachA [44, 32] l).length) (.ptr 0 v 0) (.inr rfl) (bs ++ [91] ++ (eachA [44, 32] l).flatten) [93] (tH v 7 n t ks ns) (by exact fl)
  refine pa [.b false, .b false, .b false, .b false, .b false, .b false, .b true, .f (.tup []) (fun _ => wrH v (u + 1) (.ptr 0 v 0) (bs ++ [91]) (tH v 7 n t ks ns)), .f (.tup []) (fun _ => wrH v (u + 1 + (eachA [44, 32] l).length) (.ptr 0 v 0) (bs ++ [91] ++ (eachA [44, 32] l).flatten) (tH v 7 n t ks ns)), .f (.tup []) (fun _ => wrH v (u + 1 + (eachA [44, 32] l).length + 1) (.ptr 0 v 0) (bs ++ [91] ++ (eachA [44, 32] l).flatten ++ [93]) (tH v 7 n t ks ns))] rfl ?_ ?_
  ·(repeat' with_reducible apply AllP_cons) <;> first | exact aC | skip
  exact S_nil ⟨_, _, rfl, trivial, wfinE (by exact fl) (by simp)⟩
theorem wex8 (n : Nat) (t : List UInt8) (ks : List Ex) (ns : List (List UInt8)) (hks : ∀ x ∈ ks, Wr WX x (exW x)) (hz : ks.length ≤ 1000000) : Wr WX (.mk 8 n t ks ns) ([[123]] ++ eachA [] (dictA (exWs ks)) ++ [[125]]) := by
 intro v u a bs ha hl
 obtain ⟨l, hL⟩ : ∃ l, l = dictA (exWs ks) := ⟨_, rfl⟩
 rw [← hL] at hl ⊢
 have hll : l.length = ks.length := by rw [hL, exWs_map]; simp [dictA]
 have hlk : (exL ks).length = l.length := by rw [exL_map, hll]; simp
 have hli : ∀ i (h : i < l.length), l[i] = (if 0 < i then [sepD i] else []) ++ exW ks[i] := fun i h => by subst hL; simp [exWs_map, dictA]
 exact callOk_introT (fun a w => Tryz.call73 a w) Tryz.func73 rfl Tryz.ntmps73 rfl fun B => by
  have h1 := wput1 v u a ha bs [123] (tH v 8 n t ks ns) (by exact fl)
  have h2 := each_ok 103 [.ptr 2 0 0, .ptr 4 0 0] v (u + 1) (bs ++ [123]) [] 0 0 0 _ _ _ _ _ _ l (by omega) (fun i h => by
   rw [hli i h]; exact clo2 v 8 n t ks ns i (by omega) _ (hks _ (List.getElem_mem _)) hz) (by exact fl)
  rw [← hlk] at h2
  have h3 := wput1 v (u + 1 + (eachA [] l).length) (.ptr 0 v 0) (.inr rfl) (bs ++ [123] ++ (eachA [] l).flatten) [125] (tH v 8 n t ks ns) (by exact fl)
  refine pa [.b false, .b false, .b false, .b false, .b false, .b false, .b false, .b true, .f (.tup []) (fun _ => wrH v (u + 1) (.ptr 0 v 0) (bs ++ [123]) (tH v 8 n t ks ns)), .f (.tup []) (fun _ => wrH v (u + 1 + (eachA [] l).length) (.ptr 0 v 0) (bs ++ [123] ++ (eachA [] l).flatten) (tH v 8 n t ks ns)), .f (.tup []) (fun _ => wrH v (u + 1 + (eachA [] l).length + 1) (.ptr 0 v 0) (bs ++ [123] ++ (eachA [] l).flatten ++ [125]) (tH v 8 n t ks ns))] rfl ?_ ?_
  ·(repeat' with_reducible apply AllP_cons) <;> first | exact aC | skip
  exact S_nil ⟨_, _, rfl, trivial, wfinE (by exact fl) (by simp)⟩
theorem wex9a (n : Nat) (t : List UInt8) (x y : Ex) (ns : List (List UInt8)) (p q : Pcs) (hx : Wr WX x p) (hy : Wr WX y q) : Wr WX (.mk 9 n t [x, y] ns) ([[91]] ++ p ++ [[32, 102, 111, 114, 32], t, [32, 105, 110, 32]] ++ q ++ [[93]]) := by
 intro v u a bs ha hl
 obtain ⟨xk, xn, xt, xs, xm⟩ := x
 obtain ⟨yk, yn, yt, ys, ym⟩ := y
 exact callOk_introT (fun a w => Tryz.call73 a w) Tryz.func73 rfl Tryz.ntmps73 rfl fun B => by
  obtain ⟨X, hX⟩ : ∃ X, X = Ex.mk xk xn xt xs xm := ⟨_, rfl⟩
  have h1 := wput1 v u a ha bs [91] (tH v 9 n t [.mk xk xn xt xs xm, .mk yk yn yt ys ym] ns) (by exact fl)
  have h2 := hx.tail v (u + 1) (.ptr 0 v 0) (bs ++ [91]) (tH v 9 n t [.mk xk xn xt xs xm, .mk yk yn yt ys ym] ns) (.inr rfl) (by exact fl)
  have h3 := wput_ok v (u + 1 + p.length) (.ptr 0 v 0) (.inr rfl) (bs ++ [91] ++ p.flatten) true true [[32, 102, 111, 114, 32], t, [32, 105, 110, 32]] (tH v 9 n t [.mk xk xn xt xs xm, .mk yk yn yt ys ym] ns) (by simp) (by exact fl) (by simp)
  have h4 := hy.tail v (u + 1 + p.length + 3) (.ptr 0 v 0) (bs ++ [91] ++ p.flatten ++ [[32, 102, 111, 114, 32], t, [32, 105, 110, 32]].flatten) (tH v 9 n t [.mk xk xn xt xs xm, .mk yk yn yt ys ym] ns) (.inr rfl) (by exact fl)
  have h5 := wput1 v (u + 1 + p.length + 3 + q.length) (.ptr 0 v 0) (.inr rfl) (bs ++ [91] ++ p.flatten ++ [[32, 102, 111, 114, 32], t, [32, 105, 110, 32]].flatten ++ q.flatten) [93] (tH v 9 n t [.mk xk xn xt xs xm, .mk yk yn yt ys ym] ns) (by exact fl)
  refine pa [.b false, .b false, .b false, .b false, .b false, .b false, .b false, .b false, .b true, .f (.tup []) (fun _ => wrH v (u + 1) (.ptr 0 v 0) (bs ++ [91]) (tH v 9 n t [.mk xk xn xt xs xm, .mk yk yn yt ys ym] ns)),
   .v (exA (.mk xk xn xt xs xm)), .f (.tup []) (fun _ => wrH v (u + 1 + p.length) (.ptr 0 v 0) (bs ++ [91] ++ p.flatten) (tH v 9 n t [.mk xk xn xt xs xm, .mk yk yn yt ys ym] ns)),
   .f (.tup []) (fun _ => wrH v (u + 1 + p.length + 3) (.ptr 0 v 0) (bs ++ [91] ++ p.flatten ++ [[32, 102, 111, 114, 32], t, [32, 105, 110, 32]].flatten) (tH v 9 n t [.mk xk xn xt xs xm, .mk yk yn yt ys ym] ns)),
   .v (exA (.mk yk yn yt ys ym)), .f (.tup []) (fun _ => wrH v (u + 1 + p.length + 3 + q.length) (.ptr 0 v 0) (bs ++ [91] ++ p.flatten ++ [[32, 102, 111, 114, 32], t, [32, 105, 110, 32]].flatten ++ q.flatten) (tH v 9 n t [.mk xk xn xt xs xm, .mk yk yn yt ys ym] ns)),
   .b false, .f (.tup []) (fun _ => wrH v (u + 1 + p.length + 3 + q.length + 1) (.ptr 0 v 0) (bs ++ [91] ++ p.flatten ++ [[32, 102, 111, 114, 32], t, [32, 105, 110, 32]].flatten ++ q.flatten ++ [93]) (tH v 9 n t [.mk xk xn xt xs xm, .mk yk yn yt ys ym] ns))] rfl ?_ ?_
  ·(repeat' with_reducible apply AllP_cons) <;> first | exact aC | skip
  exact S_nil ⟨_, _, rfl, trivial, wfinE (by exact fl) (by simp)⟩
theorem wex9b (n : Nat) (t : List UInt8) (x y z : Ex) (ns : List (List UInt8)) (p q r : Pcs) (hx : Wr WX x p) (hy : Wr WX y q) (hz : Wr WX z r) : Wr WX (.mk 9 n t [x, y, z] ns) ([[91]] ++ p ++ [[32, 102, 111, 114, 32], t, [32, 105, 110, 32]] ++ q ++ ([[32, 105, 102, 32]] ++ r) ++ [[93]]) := by
 intro v u a bs ha hl
 obtain ⟨xk, xn, xt, xs, xm⟩ := x
 obtain ⟨yk, yn, yt, ys, ym⟩ := y
 obtain ⟨zk, zn, zt, zs, zm⟩ := z
 obtain ⟨τ, hτ⟩ : ∃ τ, τ = tH v 9 n t [.mk xk xn xt xs xm, .mk yk yn yt ys ym, .mk zk zn zt zs zm] ns := ⟨_, rfl⟩
 have h1 := wput1 v u a ha bs [91] τ (by exact fl)
 have h2 := hx.tail v (u + 1) (.ptr 0 v 0) (bs ++ [91]) τ (.inr rfl) (by exact fl)
 have h3 := wput_ok v (u + 1 + p.length) (.ptr 0 v 0) (.inr rfl) (bs ++ [91] ++ p.flatten) true true [[32, 102, 111, 114, 32], t, [32, 105, 110, 32]] τ (by simp) (by exact fl) (by simp)
 have h4 := hy.tail v (u + 1 + p.length + 3) (.ptr 0 v 0) (bs ++ [91] ++ p.flatten ++ [[32, 102, 111, 114, 32], t, [32, 105, 110, 32]].flatten) τ (.inr rfl) (by exact fl)
 have h5 := wput1 v (u + 1 + p.length + 3 + q.length) (.ptr 0 v 0) (.inr rfl) (bs ++ [91] ++ p.flatten ++ [[32, 102, 111, 114, 32], t, [32, 105, 110, 32]].flatten ++ q.flatten) [32, 105, 102, 32] τ (by exact fl)
 have h6 := hz.tail v (u + 1 + p.length + 3 + q.length + 1) (.ptr 0 v 0) (bs ++ [91] ++ p.flatten ++ [[32, 102, 111, 114, 32], t, [32, 105, 110, 32]].flatten ++ q.flatten ++ [32, 105, 102, 32]) τ (.inr rfl) (by exact fl)
 have h7 := wput1 v (u + 1 + p.length + 3 + q.length + 1 + r.length) (.ptr 0 v 0) (.inr rfl) (bs ++ [91] ++ p.flatten ++ [[32, 102, 111, 114, 32], t, [32, 105, 110, 32]].flatten ++ q.flatten ++ [32, 105, 102, 32] ++ r.flatten) [93] τ (by exact fl)
 subst hτ
 exact callOk_introT (fun a w => Tryz.call73 a w) Tryz.func73 rfl Tryz.ntmps73 rfl fun B => by
  refine pa [.b false, .b false, .b false, .b false, .b false, .b false, .b false, .b false, .b true, .f (.tup []) (fun _ => wrH v (u + 1) (.ptr 0 v 0) (bs ++ [91]) (tH v 9 n t [.mk xk xn xt xs xm, .mk yk yn yt ys ym, .mk zk zn zt zs zm] ns)),
   .v (exA (.mk xk xn xt xs xm)), .f (.tup []) (fun _ => wrH v (u + 1 + p.length) (.ptr 0 v 0) (bs ++ [91] ++ p.flatten) (tH v 9 n t [.mk xk xn xt xs xm, .mk yk yn yt ys ym, .mk zk zn zt zs zm] ns)),
   .f (.tup []) (fun _ => wrH v (u + 1 + p.length + 3) (.ptr 0 v 0) (bs ++ [91] ++ p.flatten ++ [[32, 102, 111, 114, 32], t, [32, 105, 110, 32]].flatten) (tH v 9 n t [.mk xk xn xt xs xm, .mk yk yn yt ys ym, .mk zk zn zt zs zm] ns)),
   .v (exA (.mk yk yn yt ys ym)), .f (.tup []) (fun _ => wrH v (u + 1 + p.length + 3 + q.length) (.ptr 0 v 0) (bs ++ [91] ++ p.flatten ++ [[32, 102, 111, 114, 32], t, [32, 105, 110, 32]].flatten ++ q.flatten) (tH v 9 n t [.mk xk xn xt xs xm, .mk yk yn yt ys ym, .mk zk zn zt zs zm] ns)),
   .b true, .f (.tup []) (fun _ => wrH v (u + 1 + p.length + 3 + q.length + 1) (.ptr 0 v 0) (bs ++ [91] ++ p.flatten ++ [[32, 102, 111, 114, 32], t, [32, 105, 110, 32]].flatten ++ q.flatten ++ [32, 105, 102, 32]) (tH v 9 n t [.mk xk xn xt xs xm, .mk yk yn yt ys ym, .mk zk zn zt zs zm] ns)),
   .v (exA (.mk zk zn zt zs zm)), .f (.tup []) (fun _ => wrH v (u + 1 + p.length + 3 + q.length + 1 + r.length) (.ptr 0 v 0) (bs ++ [91] ++ p.flatten ++ [[32, 102, 111, 114, 32], t, [32, 105, 110, 32]].flatten ++ q.flatten ++ [32, 105, 102, 32] ++ r.flatten) (tH v 9 n t [.mk xk xn xt xs xm, .mk yk yn yt ys ym, .mk zk zn zt zs zm] ns)),
   .f (.tup []) (fun _ => wrH v (u + 1 + p.length + 3 + q.length + 1 + r.length + 1) (.ptr 0 v 0) (bs ++ [91] ++ p.flatten ++ [[32, 102, 111, 114, 32], t, [32, 105, 110, 32]].flatten ++ q.flatten ++ [32, 105, 102, 32] ++ r.flatten ++ [93]) (tH v 9 n t [.mk xk xn xt xs xm, .mk yk yn yt ys ym, .mk zk zn zt zs zm] ns))] rfl ?_ ?_
  ·(repeat' with_reducible apply AllP_cons) <;> first | exact aC | skip
  exact S_nil ⟨_, _, rfl, trivial, wfinE (by exact fl) (by simp)⟩
end Go.Proofs.YtonjhfeabphaaaaGreatDoor
end
section
set_option linter.unusedVariables false
set_option linter.unusedSimpArgs false
set_option maxRecDepth 20000
namespace Go.Proofs.YtonjhfeabphaaaaGreatDoor
open Go Go.Ab
def okTx (t : List UInt8) : Prop := ∀ c ∈ t, 32 ≤ c.toNat ∨ c = 9 ∨ c = 10
def ops13 : List (List UInt8) := [wOr, wAnd, [61, 61], [33, 61], [60], [60, 61], wIn, [43], [45], [42], [47, 47], [37]]
def shp (k n : Nat) (t : List UInt8) (m : Nat) (ns : List (List UInt8)) : Prop := match k with
 | 1 => n = 0 ∧ t = [] ∧ m = 0 ∧ ns = []
 | 2 => n = 0 ∧ t = [] ∧ m = 0 ∧ ns = []
 | 3 => n = 0 ∧ t = [] ∧ m = 0 ∧ ns = []
 | 4 => n ≤ 9007199254740991 ∧ t = [] ∧ m = 0 ∧ ns = []
 | 5 => n = 0 ∧ okTx t ∧ m = 0 ∧ ns = []
 | 6 => n = 0 ∧ isNm t = true ∧ m = 0 ∧ ns = []
 | 7 => n = 0 ∧ t = [] ∧ ns = []
 | 8 => n = 0 ∧ t = [] ∧ m % 2 = 0 ∧ ns = []
 | 9 => n = 0 ∧ isNm t = true ∧ (m = 2 ∨ m = 3) ∧ ns = []
 | 10 => n = 0 ∧ t = [] ∧ ns.length + 1 ≤ m ∧ (∀ s ∈ ns, isNm s = true) ∧ ns.Nodup
 | 11 => n = 0 ∧ t = [] ∧ m = 2 ∧ ns = []
 | 12 => n = 0 ∧ t = [] ∧ m = 1 ∧ ns = []
 | 13 => n = 0 ∧ t = [] ∧ m = 1 ∧ ns = []
 | 14 => n = 0 ∧ t ∈ ops13 ∧ m = 2 ∧ ns = []
 | _ => False
inductive Wx (M : Nat) : Ex → Prop
 | mk {k n : Nat} {t : List UInt8} {ks : List Ex} {ns : List (List UInt8)} (h1 : ks.length ≤ M) (h2 : ns.length ≤ M) (h3 : ∀ x ∈ ks, Wx M x) (h4 : shp k n t ks.length ns) : Wx M (.mk k n t ks ns)
structure TokW (t : Tok) : Prop where
 name : t.kind = 1 → isNm t.text = true
 num : t.num ≤ 9007199254740991
 text : t.kind = 3 → okTx t.text
theorem esc_ok {c e : UInt8} (h : esc c = some e) : 32 ≤ e.toNat ∨ e = 9 ∨ e = 10 := by
 unfold esc at h
 split at h
 ·cases h; right; right; rfl
 ·split at h
  ·cases h; right; left; rfl
  ·split at h
   ·cases h; left; decide
   ·split at h
    ·cases h; left; decide
    ·cases h
theorem quoteS_ok : ∀ (n : Nat) (s : List UInt8), s.length ≤ n → ∀ {i : Nat} {b b' : List UInt8} {j : Nat}, okTx b → quoteS s i b = .inr (b', j) → okTx b'
 | 0, s, hn, i, b, b', j, hb, h => by
  have : s = [] := List.length_eq_zero_iff.1 (by omega)
  subst this; simp [quoteS] at h
 | n + 1, [], hn, i, b, b', j, hb, h => by simp [quoteS] at h
 | n + 1, c :: r, hn, i, b, b', j, hb, h => by
  have snoc : ∀ {d : UInt8}, (32 ≤ d.toNat ∨ d = 9 ∨ d = 10) → okTx (b ++ [d]) := fun hd x hx => by
   rcases List.mem_append.1 hx with hx | hx
   ·exact hb x hx
   ·rw [List.mem_singleton] at hx; rw [hx]; exact hd
  simp only [List.length_cons] at hn
  rw [quoteS.eq_def] at h
  simp only at h
  split at h
  ·cases h
  ·rename_i h32
   split at h
   ·cases h; exact hb
   ·split at h
    ·exact quoteS_ok n r (by omega) (snoc (.inl (by omega))) h
    ·split at h
     ·cases h
     ·rename_i d r
      simp only [List.length_cons] at hn
      split at h
      ·cases h
      ·rename_i e he
       exact quoteS_ok n r (by omega) (snoc (esc_ok he)) h
theorem cut_let {s : List UInt8} {i : Nat} (hi : i < s.length) (h1 : isLet (s.getD i 0) = true) : (cutT s i (stopAt (fun c => isLet c || isDg c) s i)) ≠ [] ∧ isLet ((cutT s i (stopAt (fun c => isLet c || isDg c) s i)).getD 0 0) = true ∧ ∀ c ∈ cutT s i (stopAt (fun c => isLet c || isDg c) s i), (isLet c || isDg c) = true := by
 have e : cutT s i (stopAt (fun c => isLet c || isDg c) s i) = (s.drop i).takeWhile (fun c => isLet c || isDg c) := by
  unfold cutT stopAt
  rw [List.drop_take, Nat.add_sub_cancel_left]
  exact (List.prefix_iff_eq_take.1 (List.takeWhile_prefix _)).symm
 rw [e, List.drop_eq_getElem_cons hi]
 have hgd : s.getD i 0 = s[i] := by simp [List.getD, hi]
 rw [hgd] at h1
 rw [List.takeWhile_cons, if_pos (by rw [h1]; rfl)]
 refine ⟨by simp, h1, fun c hc => ?_⟩
 rcases List.mem_cons.1 hc with hc | hc
 ·rw [hc, h1]; rfl
 ·exact mem_tw hc
theorem splitS_w (s : List UInt8) : ∀ t ∈ (splitS s).1, TokW t := by
 refine splitS_all (fun i o t j o' hi h => ?_) (fun _ => ⟨nofun, Nat.zero_le _, nofun⟩) (fun _ => ⟨nofun, Nat.zero_le _, nofun⟩) (fun _ => ⟨nofun, Nat.zero_le _, nofun⟩)
 have hg := oneS_good hi h
 refine ⟨fun hk => ?_, hg.num, fun hk => ?_⟩
 ·obtain ⟨i', hi', h1, h2, h3⟩ := hg.name hk
  have := cut_let hi' h1
  rw [← h2] at this
  exact (isNm_iff _).2 ⟨this.1, this.2.1, this.2.2, h3⟩
 ·unfold oneS at h
  split at h
  ·cases h
   exfalso; revert hk; show (if _ then 5 else 1) = 3 → False; split <;> omega
  ·split at h
   ·split at h
    ·cases h
    ·cases h; cases hk
   ·split at h
    ·split at h
     ·cases h
     ·rename_i hq
      cases h
      exact quoteS_ok _ _ (Nat.le_refl _) (by intro c hc; cases hc) hq
    ·split at h
     ·cases h
     ·have fin : ∀ {x : Flt ⊕ (Tok × Nat × Nat)} {g : List UInt8} {jj oo : Nat}, x = .inr (⟨4, g, 0, i⟩, jj, oo) → x = .inr (t, j, o') → False := fun h1 h2 => by
       rw [h1] at h2; cases h2; cases hk
      split at h
      ·split at h
       ·cases h
       ·exact (fin rfl h).elim
      ·split at h
       ·split at h
        ·cases h
        ·exact (fin rfl h).elim
       ·exact (fin rfl h).elim
def Qx {α : Type} (l : List Tok) (P : α → Prop) (x : Pr α) : Prop := ∀ y u, x = .ok y u → P y ∧ u <:+ l
section
variable {α β : Type} {l : List Tok} {P : α → Prop} {P' : β → Prop}
theorem Qx.out : Qx l P (.out : Pr α) := nofun
theorem Qx.bad {e : Nat} {u : List Tok} : Qx l P (.bad e u : Pr α) := nofun
theorem Qx.ok {u : List Tok} {x : α} (h : P x) (hu : u <:+ l) : Qx l P (.ok x u) := by intro _ _ h'; cases h'; exact ⟨h, hu⟩
theorem Qx.bind {x : Pr α} {f : α → List Tok → Pr β} (h : Qx l P x) (hf : ∀ y u, P y → u <:+ l → Qx l P' (f y u)) : Qx l P' (x.bind f) := by
 cases x with
 | out => exact .out
 | bad e v => exact .bad
 | ok y v => exact hf y v (h y v rfl).1 (h y v rfl).2
theorem Qx.ite {x y : Pr α} {c : Prop} [Decidable c] (h : c → Qx l P x) (h' : ¬ c → Qx l P y) : Qx l P (if c then x else y) := by
 by_cases hc : c
 ·rw [if_pos hc]; exact h hc
 ·rw [if_neg hc]; exact h' hc
end
theorem mustS_q {l r : List Tok} (s : List UInt8) (h : r <:+ l) : Qx l (fun _ => True) (mustS s r) := fun y u hx => ⟨trivial, (mustS_s s r y u hx).trans h⟩
theorem takeS_q {l r : List Tok} (hl : ∀ t ∈ l, TokW t) (k : Nat) (h : r <:+ l) : Qx l (fun t => TokW t ∧ t.kind = k) (takeS k r) := fun y u hx => by
 refine ⟨?_, (takeS_s k r y u hx).trans h⟩
 unfold takeS at hx
 split at hx
 ·cases hx
 ·rename_i t v
  split at hx
  ·cases hx
   exact ⟨hl _ (h.subset (List.mem_cons_self ..)), by assumption⟩
  ·cases hx
structure AllQ (M : Nat) (l : List Tok) (F : Nat) : Prop where
 expr : ∀ n r, r <:+ l → Qx l (Wx M) (exprS F n r)
 lev : ∀ k n r, r <:+ l → Qx l (Wx M) (levS F k n r)
 loop : ∀ k n x r, Wx M x → r <:+ l → Qx l (Wx M) (loopS F k n x r)
 post : ∀ n x r, Wx M x → r <:+ l → Qx l (Wx M) (postS F n x r)
 call : ∀ n ks ns r, (∀ x ∈ ks, Wx M x) → ns.length + 1 ≤ ks.length → ks.length + F ≤ M → (∀ s ∈ ns, isNm s = true) → ns.Nodup → r <:+ l → Qx l (Wx M) (callS F n ks ns r)
 atom : ∀ n r, r <:+ l → Qx l (Wx M) (atomS F n r)
 list : ∀ n r, r <:+ l → Qx l (Wx M) (listS F n r)
 item : ∀ n ks r, (∀ x ∈ ks, Wx M x) → ks.length + F ≤ M → r <:+ l → Qx l (Wx M) (itemS F n ks r)
 dict : ∀ n ks r, (∀ x ∈ ks, Wx M x) → ks.length % 2 = 0 → ks.length + 2 * F ≤ M → r <:+ l → Qx l (Wx M) (dictS F n ks r)
theorem isOf_ops {k : Nat} {r : List Tok} (h : isOf (binS k) r = true) : hdT r ∈ ops13 := by
 unfold isOf at h
 simp only [Bool.and_eq_true] at h
 have := List.contains_iff_mem.1 h.2
 have key : ∀ k, ∀ s ∈ binS k, s ∈ ops13 := by
  intro k
  match k with
  | 0 => decide
  | 1 => decide
  | 2 => decide
  | 3 => decide
  | 4 => decide
  | k + 5 => intro s hs; cases hs
 exact key k _ this
theorem wx_snoc {M : Nat} {ks : List Ex} {y : Ex} (h : ∀ x ∈ ks, Wx M x) (hy : Wx M y) : ∀ x ∈ ks ++ [y], Wx M x := fun x hx => by
 rcases List.mem_append.1 hx with hx | hx
 ·exact h x hx
 ·rw [List.mem_singleton] at hx; rw [hx]; exact hy
theorem wx_one {M : Nat} {y : Ex} (hy : Wx M y) : ∀ x ∈ [y], Wx M x := fun x hx => by
 rw [List.mem_singleton] at hx; rw [hx]; exact hy
theorem wx_two {M : Nat} {x y : Ex} (hx : Wx M x) (hy : Wx M y) : ∀ z ∈ [x, y], Wx M z := fun z hz => by
 rcases List.mem_cons.1 hz with h | h
 ·rw [h]; exact hx
 ·exact wx_one hy z h
theorem wx_three {M : Nat} {x y z : Ex} (hx : Wx M x) (hy : Wx M y) (hz : Wx M z) : ∀ w ∈ [x, y, z], Wx M w := fun w hw => by
 rcases List.mem_cons.1 hw with h | h
 ·rw [h]; exact hx
 ·exact wx_two hy hz w h
theorem wx_nil {M : Nat} : ∀ x ∈ ([] : List Ex), Wx M x := nofun
theorem name_tok {l r : List Tok} (hl : ∀ t ∈ l, TokW t) (h : r <:+ l) (hn : nameS r = true) : isNm (hdT r) = true := by
 unfold nameS at hn
 simp only [Bool.and_eq_true, beq_iff_eq] at hn
 cases r with
 | nil => cases hn.1.1
 | cons t u => exact (hl t (h.subset (List.mem_cons_self ..))).name hn.1.1
theorem allQ (M : Nat) (l : List Tok) (hl : ∀ t ∈ l, TokW t) (F : Nat) : 2 * F + 10 ≤ M → AllQ M l F := by
 induction F with
 | zero => intro _; exact ⟨fun _ _ _ => .out, fun _ _ _ _ => .out, fun _ _ _ _ _ _ => .out, fun _ _ _ _ _ => .out, fun _ _ _ _ _ _ _ _ _ _ => .out, fun _ _ _ => .out, fun _ _ _ => .out, fun _ _ _ _ _ _ => .out, fun _ _ _ _ _ _ _ => .out⟩
 | succ F ih =>
  intro hM
  have ih := ih (by omega)
  have bin : ∀ {k n : Nat} {r : List Tok}, r <:+ l → Qx l (Wx M) ((levS F (k + 1) n r).bind fun x r => loopS F k n x r) := fun {k n r} hr => (ih.lev (k + 1) n r hr).bind fun y u hy hu => ih.loop k n y u hy hu
  refine ⟨?_, ?_, ?_, ?_, ?_, ?_, ?_, ?_, ?_⟩
  ·intro n r hr
   rw [exprS]
   exact .ite (fun _ => .bad) (fun _ => ih.lev 0 _ r hr)
  ·intro k n r hr
   unfold levS
   split
   ·exact .ite (fun _ => .ite (fun _ => .bad) (fun _ => (ih.lev 2 _ r.tail ((suf_tl r).trans hr)).bind fun y u hy hu => .ok (.mk (by simp; omega) (by simp) (wx_one hy) ⟨rfl, rfl, rfl, rfl⟩) hu))
     (fun _ => (ih.lev 3 n r hr).bind fun y u hy hu => .ite (fun ho => (ih.lev 3 n u.tail ((suf_tl u).trans hu)).bind fun z v hz hv => .ok (.mk (by simp; omega) (by simp) (wx_two hy hz) ⟨rfl, isOf_ops ho, rfl, rfl⟩) hv) (fun _ => .ok hy hu))
   ·exact .ite (fun _ => .ite (fun _ => .bad) (fun _ => (ih.lev 5 _ r.tail ((suf_tl r).trans hr)).bind fun y u hy hu => .ok (.mk (by simp; omega) (by simp) (wx_one hy) ⟨rfl, rfl, rfl, rfl⟩) hu))
     (fun _ => (ih.atom n r hr).bind fun y u hy hu => ih.post n y u hy hu)
   ·exact bin hr
  ·intro k n x r hx hr
   rw [loopS]
   exact .ite (fun ho => (ih.lev (k + 1) n r.tail ((suf_tl r).trans hr)).bind fun y u hy hu => ih.loop k n _ u (.mk (by simp; omega) (by simp) (wx_two hx hy) ⟨rfl, isOf_ops ho, rfl, rfl⟩) hu) (fun _ => .ok hx hr)
  ·intro n x r hx hr
   rw [postS]
   exact .ite (fun _ => (ih.call n _ _ r.tail (wx_one hx) (by simp) (by simp; omega) (by nofun) (by simp) ((suf_tl r).trans hr)).bind fun y u hy hu => ih.post n _ u hy hu)
    (fun _ => .ite (fun _ => (ih.expr n r.tail ((suf_tl r).trans hr)).bind fun y u hy hu => (mustS_q _ hu).bind fun _ v _ hv => ih.post n _ v (.mk (by simp; omega) (by simp) (wx_two hx hy) ⟨rfl, rfl, rfl, rfl⟩) hv) (fun _ => .ok hx hr))
  ·intro n ks ns r hks hlen hF hns hnd hr
   rw [callS]
   have hm : Qx l (fun _ => True) (if ks.length > 1 then mustS [44] r else .ok () r) := .ite (fun _ => mustS_q _ hr) (fun _ => .ok trivial hr)
   refine .ite (fun _ => .ok (.mk (by omega) (by omega) hks ⟨rfl, rfl, hlen, hns, hnd⟩) ((suf_tl r).trans hr)) (fun _ => hm.bind fun _ u _ hu => .ite (fun hn => .ite (fun _ => .bad) (fun hc => ?_)) (fun _ => .ite (fun _ => .bad) (fun h0 => ?_)))
   ·have hnm := name_tok hl hu hn
    refine (ih.expr n u.tail.tail ((suf_tl2 u).trans hu)).bind fun y v hy hv => ih.call n _ _ v (wx_snoc hks hy) (by simp; omega) (by simp; omega) (fun s hs => ?_) ?_ hv
    ·rcases List.mem_append.1 hs with hs | hs
     ·exact hns s hs
     ·rw [List.mem_singleton] at hs; rw [hs]; exact hnm
    ·refine List.nodup_append.2 ⟨hnd, by simp, fun a ha b hb => ?_⟩
     rw [List.mem_singleton] at hb
     rw [hb]
     rintro rfl
     exact hc (List.contains_iff_mem.2 ha)
   ·exact (ih.expr n u hu).bind fun y v hy hv => ih.call n _ _ v (wx_snoc hks hy) (by simp; omega) (by simp; omega) hns hnd hv
  ·intro n r hr
   cases r with
   | nil => exact .bad
   | cons t u =>
    have hu : u <:+ l := (List.suffix_cons t u).trans hr
    have ht := hl t (hr.subset (List.mem_cons_self ..))
    exact .ite (fun h => .ok (.mk (by simp) (by simp) wx_nil ⟨rfl, ht.name h, rfl, rfl⟩) hu) (fun _ => .ite (fun _ => .ok (.mk (by simp) (by simp) wx_nil ⟨ht.num, rfl, rfl, rfl⟩) hu) (fun _ => .ite (fun h => .ok (.mk (by simp) (by simp) wx_nil ⟨rfl, ht.text h, rfl, rfl⟩) hu)
     (fun _ => .ite (fun _ => .ok (.mk (by simp) (by simp) wx_nil ⟨rfl, rfl, rfl, rfl⟩) hu) (fun _ => .ite (fun _ => .ok (.mk (by simp) (by simp) wx_nil ⟨rfl, rfl, rfl, rfl⟩) hu) (fun _ => .ite (fun _ => .ok (.mk (by simp) (by simp) wx_nil ⟨rfl, rfl, rfl, rfl⟩) hu)
     (fun _ => .ite (fun _ => (ih.expr n u hu).bind fun y v hy hv => (mustS_q _ hv).bind fun _ w _ hw => .ok hy hw)
     (fun _ => .ite (fun _ => ih.list n u hu) (fun _ => .ite (fun _ => ih.dict n _ u wx_nil rfl (by simp; omega) hu) (fun _ => .bad)))))))))
  ·intro n r hr
   rw [listS]
   refine .ite (fun _ => .ok (.mk (by simp) (by simp) wx_nil ⟨rfl, rfl, rfl⟩) ((suf_tl r).trans hr)) (fun _ => (ih.expr n r hr).bind fun y u hy hu => .ite (fun _ => ?_) (fun _ => ih.item n _ u (wx_one hy) (by simp; omega) hu))
   refine (takeS_q hl 1 ((suf_tl u).trans hu)).bind fun t v ht hv => (mustS_q _ hv).bind fun _ w _ hw => (ih.expr n w hw).bind fun z x hz hx => .ite (fun _ => (ih.expr n x.tail ((suf_tl x).trans hx)).bind fun q p hq hp => (mustS_q _ hp).bind fun _ o _ ho => ?_) (fun _ => (mustS_q _ hx).bind fun _ o _ ho => ?_)
   ·exact .ok (.mk (by simp; omega) (by simp) (wx_three hy hz hq) ⟨rfl, ht.1.name ht.2, .inr rfl, rfl⟩) ho
   ·exact .ok (.mk (by simp; omega) (by simp) (wx_two hy hz) ⟨rfl, ht.1.name ht.2, .inl rfl, rfl⟩) ho
  ·intro n ks r hks hF hr
   rw [itemS]
   exact .ite (fun _ => .ok (.mk (by omega) (by simp) hks ⟨rfl, rfl, rfl⟩) ((suf_tl r).trans hr)) (fun _ => (mustS_q _ hr).bind fun _ u _ hu => (ih.expr n u hu).bind fun y v hy hv => ih.item n _ v (wx_snoc hks hy) (by simp; omega) hv)
  ·intro n ks r hks he hF hr
   rw [dictS]
   have hm : Qx l (fun _ => True) (if ks.length > 0 then mustS [44] r else .ok () r) := .ite (fun _ => mustS_q _ hr) (fun _ => .ok trivial hr)
   exact .ite (fun _ => .ok (.mk (by omega) (by simp) hks ⟨rfl, rfl, he, rfl⟩) ((suf_tl r).trans hr)) (fun _ => hm.bind fun _ u _ hu => (ih.expr n u hu).bind fun y v hy hv => (mustS_q _ hv).bind fun _ w _ hw => (ih.expr n w hw).bind fun z x hz hx => ih.dict n _ x (wx_snoc (wx_snoc hks hy) hz) (by simp; omega) (by simp; omega) hx)
def shs (M k : Nat) (t : List UInt8) (ns : List (List UInt8)) (x : Ex) (b e : List St) : Prop := match k with
 | 1 => t = [] ∧ ns = [] ∧ x = .zero ∧ b = [] ∧ e = []
 | 2 => t = [] ∧ ns = [] ∧ Wx M x ∧ b = [] ∧ e = []
 | 3 => isNm t = true ∧ ns = [] ∧ Wx M x ∧ b = [] ∧ e = []
 | 4 => okTx t ∧ (ns ≠ [] ∧ ∀ s ∈ ns, isNm s = true) ∧ x = .zero ∧ b = [] ∧ e = []
 | 5 => t = [] ∧ ns = [] ∧ Wx M x ∧ b = [] ∧ e = []
 | 6 => isNm t = true ∧ ((∀ s ∈ ns, isNm s = true) ∧ ns.Nodup) ∧ x = .zero ∧ e = []
 | 7 => t = [] ∧ ns = [] ∧ Wx M x
 | 8 => isNm t = true ∧ ns = [] ∧ Wx M x ∧ e = []
 | _ => False
inductive Ws (M : Nat) : St → Prop
 | mk {k : Nat} {t : List UInt8} {ns : List (List UInt8)} {x : Ex} {b e : List St} (h1 : ns.length ≤ M) (h2 : b.length ≤ M) (h3 : e.length ≤ M) (h4 : ∀ s ∈ b, Ws M s) (h5 : ∀ s ∈ e, Ws M s) (h6 : shs M k t ns x b e) : Ws M (.mk k t ns x b e)
theorem paramS_q {M : Nat} {l : List Tok} (hl : ∀ t ∈ l, TokW t) : ∀ (F : Nat) (ns : List (List UInt8)) (r : List Tok), r <:+ l → ns.length + F ≤ M → (∀ s ∈ ns, isNm s = true) → ns.Nodup → Qx l (fun ns => ns.length ≤ M ∧ (∀ s ∈ ns, isNm s = true) ∧ ns.Nodup) (paramS F ns r)
 | 0, _, _, _, _, _, _ => .out
 | F + 1, ns, r, hr, hF, hns, hnd => by
  rw [paramS]
  refine .ite (fun _ => .bad) (fun hc => ?_)
  intro y u hx
  cases ht : takeS 1 r with
  | out => rw [ht] at hx; cases hx
  | bad k v => rw [ht] at hx; cases hx
  | ok t v =>
   rw [ht] at hx
   obtain ⟨⟨hw, hk⟩, hv⟩ := takeS_q hl 1 hr t v ht
   have htx : hdK r = 1 ∧ hdT r = t.text := by
    unfold takeS at ht
    split at ht
    ·cases ht
    ·split at ht
     ·cases ht; exact ⟨hk, rfl⟩
     ·cases ht
   rw [htx.1, htx.2] at hc
   have hc : t.text ∉ ns := fun h => hc (by rw [List.contains_iff_mem.2 h]; rfl)
   have h1 : ∀ s ∈ ns ++ [t.text], isNm s = true := fun s hs => by
    rcases List.mem_append.1 hs with hs | hs
    ·exact hns s hs
    ·rw [List.mem_singleton] at hs; rw [hs]; exact hw.name hk
   have h2 : (ns ++ [t.text]).Nodup := by
    refine List.nodup_append.2 ⟨hnd, by simp, fun a ha b hb => ?_⟩
    rw [List.mem_singleton] at hb
    rw [hb]
    rintro rfl
    exact hc ha
   have hx : (if isS [44] v then paramS F (ns ++ [t.text]) v.tail else .ok (ns ++ [t.text]) v) = .ok y u := hx
   split at hx
   ·exact paramS_q hl F _ _ ((suf_tl v).trans hv) (by simp; omega) h1 h2 y u hx
   ·cases hx; exact ⟨⟨by simp; omega, h1, h2⟩, hv⟩
theorem namesS_q {M : Nat} {l : List Tok} (hl : ∀ t ∈ l, TokW t) : ∀ (F : Nat) (ns : List (List UInt8)) (r : List Tok), r <:+ l → ns.length + F ≤ M → (∀ s ∈ ns, isNm s = true) → Qx l (fun ns => ns.length ≤ M ∧ ns ≠ [] ∧ ∀ s ∈ ns, isNm s = true) (namesS F ns r)
 | 0, _, _, _, _, _ => .out
 | F + 1, ns, r, hr, hF, hns => by
  rw [namesS]
  refine .ite (fun _ => .bad) (fun hc => ?_)
  intro y u hx
  cases ht : takeS 3 r with
  | out => rw [ht] at hx; cases hx
  | bad k v => rw [ht] at hx; cases hx
  | ok t v =>
   rw [ht] at hx
   obtain ⟨⟨hw, hk⟩, hv⟩ := takeS_q hl 3 hr t v ht
   have htx : hdK r = 3 ∧ hdT r = t.text := by
    unfold takeS at ht
    split at ht
    ·cases ht
    ·split at ht
     ·cases ht; exact ⟨hk, rfl⟩
     ·cases ht
   rw [htx.1, htx.2] at hc
   have hnm : isNm t.text = true := by
    cases h : isNm t.text with
    | true => rfl
    | false => rw [h] at hc; exact absurd rfl hc
   have h1 : ∀ s ∈ ns ++ [t.text], isNm s = true := fun s hs => by
    rcases List.mem_append.1 hs with hs | hs
    ·exact hns s hs
    ·rw [List.mem_singleton] at hs; rw [hs]; exact hnm
   have hx : (if isS [44] v then namesS F (ns ++ [t.text]) v.tail else .ok (ns ++ [t.text]) v) = .ok y u := hx
   split at hx
   ·exact namesS_q hl F _ _ ((suf_tl v).trans hv) (by simp; omega) h1 y u hx
   ·cases hx; exact ⟨⟨by simp; omega, by simp, h1⟩, hv⟩
theorem smallS_q {M : Nat} {l : List Tok} (hl : ∀ t ∈ l, TokW t) (F b d : Nat) (r : List Tok) (hF : 2 * F + 10 ≤ M) (hr : r <:+ l) : Qx l (Ws M) (smallS F b d r) := by
 have hA := allQ M l hl F hF
 have nilB : ∀ s ∈ ([] : List St), Ws M s := nofun
 unfold smallS loadS
 refine .ite (fun _ => .ok (.mk (by simp) (by simp) (by simp) nilB nilB ⟨rfl, rfl, rfl, rfl, rfl⟩) ((suf_tl r).trans hr)) (fun _ => .ite (fun _ => .ite (fun _ => .bad) (fun _ => .ite (fun _ => ?_) (fun _ => ?_))) (fun _ => .ite (fun _ => .ite (fun _ => .bad) (fun _ => ?_)) (fun _ => .ite (fun hn => ?_) (fun _ => ?_))))
 ·exact (hA.expr 0 r.tail ((suf_tl r).trans hr)).bind fun x u hx hu => .ok (.mk (by simp) (by simp) (by simp) nilB nilB ⟨rfl, rfl, hx, rfl, rfl⟩) hu
 ·exact .ok (.mk (by simp) (by simp) (by simp) nilB nilB ⟨rfl, rfl, .mk (by simp) (by simp) wx_nil ⟨rfl, rfl, rfl, rfl⟩, rfl, rfl⟩) ((suf_tl r).trans hr)
 ·exact (mustS_q _ ((suf_tl r).trans hr)).bind fun _ u _ hu => (takeS_q hl 3 hu).bind fun t v ht hv => (mustS_q _ hv).bind fun _ w _ hw => (namesS_q (M := M) hl F [] w hw (by simp; omega) (by nofun)).bind fun ns x hns hx => (mustS_q _ hx).bind fun _ y _ hy => .ok (.mk hns.1 (by simp) (by simp) nilB nilB ⟨ht.1.text ht.2, ⟨hns.2.1, hns.2.2⟩, rfl, rfl, rfl⟩) hy
 ·exact (hA.expr 0 r.tail.tail ((suf_tl2 r).trans hr)).bind fun x u hx hu => .ok (.mk (by simp) (by simp) (by simp) nilB nilB ⟨name_tok hl hr hn, rfl, hx, rfl, rfl⟩) hu
 ·exact (hA.expr 0 r hr).bind fun x u hx hu => .ok (.mk (by simp) (by simp) (by simp) nilB nilB ⟨rfl, rfl, hx, rfl, rfl⟩) hu
structure AllQS (M : Nat) (l : List Tok) (F : Nat) : Prop where
 stmts : ∀ top b d ls r, (∀ s ∈ ls, Ws M s) → ls.length + F ≤ M → r <:+ l → Qx l (fun ls => ls.length ≤ M ∧ ∀ s ∈ ls, Ws M s) (stmtsS F top b d ls r)
 block : ∀ b d r, r <:+ l → Qx l (fun ls => ls.length ≤ M ∧ ∀ s ∈ ls, Ws M s) (blockS F b d r)
 stmt : ∀ b d r, r <:+ l → Qx l (Ws M) (stmtS F b d r)
theorem allQS (M : Nat) (l : List Tok) (hl : ∀ t ∈ l, TokW t) (F : Nat) : 2 * F + 10 ≤ M → AllQS M l F := by
 induction F with
 | zero => intro _; exact ⟨fun _ _ _ _ _ _ _ _ => .out, fun _ _ _ _ => .out, fun _ _ _ _ => .out⟩
 | succ F ih =>
  intro hM
  have ih := ih (by omega)
  have hA := allQ M l hl F (by omega)
  have nilB : ∀ s ∈ ([] : List St), Ws M s := nofun
  refine ⟨?_, ?_, ?_⟩
  ·intro top b d ls r hls hF hr
   rw [stmtsS]
   refine .ite (fun _ => .ok ⟨by omega, hls⟩ hr) (fun _ => (ih.stmt b d r hr).bind fun s u hs hu => ih.stmts top b d _ u (fun x hx => ?_) (by simp; omega) hu)
   rcases List.mem_append.1 hx with hx | hx
   ·exact hls x hx
   ·rw [List.mem_singleton] at hx; rw [hx]; exact hs
  ·intro b d r hr
   rw [blockS]
   exact (mustS_q _ hr).bind fun _ u _ hu => (takeS_q hl _ hu).bind fun _ v _ hv => (takeS_q hl _ hv).bind fun _ w _ hw => (ih.stmts false _ _ _ w nilB (by simp; omega) hw).bind fun ls x hls hx => (takeS_q hl _ hx).bind fun _ y _ hy => .ok hls hy
  ·intro b d r hr
   rw [stmtS]
   refine .ite (fun _ => .ite (fun _ => .bad) (fun _ => (takeS_q hl 1 ((suf_tl r).trans hr)).bind fun t u ht hu => (mustS_q _ hu).bind fun _ v _ hv => ?_)) (fun _ => .ite (fun _ => ?_) (fun _ => .ite (fun _ => ?_) (fun _ => ?_)))
   ·have hm : Qx l (fun ns => ns.length ≤ M ∧ (∀ s ∈ ns, isNm s = true) ∧ ns.Nodup) (if hdK v = 1 then paramS F [] v else .ok [] v) := .ite (fun _ => paramS_q (M := M) hl F [] v hv (by simp; omega) (by nofun) (by simp)) (fun _ => .ok ⟨by simp, by nofun, by simp⟩ hv)
    exact hm.bind fun ns w hns hw => (mustS_q _ hw).bind fun _ x _ hx => (ih.block _ _ x hx).bind fun ls y hls hy => .ok (.mk hns.1 hls.1 (by simp) hls.2 nilB ⟨ht.1.name ht.2, ⟨hns.2.1, hns.2.2⟩, rfl, rfl⟩) hy
   ·refine (hA.expr 0 _ ((suf_tl r).trans hr)).bind fun x u hx hu => (ih.block _ _ u hu).bind fun ls v hls hv => .ite (fun _ => (ih.block _ _ v.tail ((suf_tl v).trans hv)).bind fun ms w hms hw => ?_) (fun _ => ?_)
    ·exact .ok (.mk (by simp) hls.1 hms.1 hls.2 hms.2 ⟨rfl, rfl, hx⟩) hw
    ·exact .ok (.mk (by simp) hls.1 (by simp) hls.2 nilB ⟨rfl, rfl, hx⟩) hv
   ·exact (takeS_q hl 1 ((suf_tl r).trans hr)).bind fun t u ht hu => (mustS_q _ hu).bind fun _ v _ hv => (hA.expr 0 v hv).bind fun x w hx hw => (ih.block _ _ w hw).bind fun ls y hls hy => .ok (.mk (by simp) hls.1 (by simp) hls.2 nilB ⟨ht.1.name ht.2, rfl, hx, rfl⟩) hy
   ·exact (smallS_q hl F b d r (by omega) hr).bind fun s u hs hu => (takeS_q hl _ hu).bind fun _ v _ hv => .ok hs hv
theorem parseS_w (s : List UInt8) : (parseS s).1.length ≤ 800000 ∧ ∀ x ∈ (parseS s).1, Ws 800000 x := by
 have hl := splitS_w s
 have hz := splitS_size s
 unfold parseS
 generalize splitS s = y at hl hz ⊢
 obtain ⟨l, f⟩ := y
 have hz : l.length ≤ 24040 := hz
 have h := (allQS 800000 l hl (fuelS l) (by unfold fuelS; omega)).stmts true 0 0 [] l nofun (by unfold fuelS; simp; omega) (List.suffix_refl _)
 simp only
 split
 ·exact ⟨Nat.zero_le _, nofun⟩
 ·split
  ·rename_i hx; exact (h _ _ hx).1
  ·exact ⟨Nat.zero_le _, nofun⟩
  ·exact ⟨Nat.zero_le _, nofun⟩
end Go.Proofs.YtonjhfeabphaaaaGreatDoor
end
section
set_option linter.unusedVariables false
set_option linter.unusedSimpArgs false
set_option maxRecDepth 20000
set_option maxHeartbeats 4000000
namespace Go.Proofs.YtonjhfeabphaaaaGreatDoor
open Go Go.Ab
theorem wex10 (n : Nat) (t : List UInt8) (x : Ex) (r : List Ex) (ns : List (List UInt8)) (p : Pcs) (hx : Wr WX x p) (hks : ∀ x ∈ r, Wr WX x (exW x)) (hz : r.length < 1000000) (hm : ns.length ≤ r.length) :
  Wr WX (.mk 10 n t (x :: r) ns) (brk (apart x) p ++ [[40]] ++ eachA [44, 32] (callPs ns (exWs r)) ++ [[41]]) := by
 intro v u a bs ha hl
 obtain ⟨q, hq⟩ : ∃ q, q = brk (apart x) p := ⟨_, rfl⟩
 have hx := inner_ok x p hx
 rw [← hq] at hl hx ⊢
 clear hq
 obtain ⟨l, hL⟩ : ∃ l, l = callPs ns (exWs r) := ⟨_, rfl⟩
 rw [← hL] at hl ⊢
 have hll : l.length = r.length := by rw [hL, exWs_map]; simp [callPs]
 have hlk : (exL (x :: r)).length = l.length + 1 := by rw [exL_map, hll]; simp
 have hli : ∀ i (h : i < l.length), l[i] = (if (x :: r).length - 1 - ns.length ≤ i then [ns.getD (i - ((x :: r).length - 1 - ns.length)) [], [61]] else []) ++ exW r[i] := fun i h => by subst hL; simp [exWs_map, callPs]
 obtain ⟨xk, xn, xt, xs, xm⟩ := x
 have h1 := hx.tail v u a bs (tH v 10 n t (.mk xk xn xt xs xm :: r) ns) ha (by exact fl)
 have h2 := wput1 v (u + q.length) (.ptr 0 v 0) (.inr rfl) (bs ++ q.flatten) [40] (tH v 10 n t (.mk xk xn xt xs xm :: r) ns) (by exact fl)
 have h3 := each_ok 105 [.ptr 4 0 0, .ptr 3 0 0, .ptr 2 0 0] v (u + q.length + 1) (bs ++ q.flatten ++ [40]) [44, 32] 0 0 0 _ _ _ _ _ _ l (by omega) (fun i h => by
   rw [hli i h]; exact clo3 v 10 n t (.mk xk xn xt xs xm :: r) ns i (by simp only [List.length_cons]; omega) _ (hks _ (List.getElem_mem (l := r) (by omega))) (by simp only [List.length_cons]; omega) (by simp only [List.length_cons]; omega)) (by exact fl)
 have hc : ((l.length : Nat) : Int) = IntKind.i64.wrap (((exL (.mk xk xn xt xs xm :: r)).length : Nat) - 1) := by rw [IntWalk.i64_in _ ⟨by omega, by omega⟩]; omega
 rw [hc] at h3
 have h4 := wput1 v (u + q.length + 1 + (eachA [44, 32] l).length) (.ptr 0 v 0) (.inr rfl) (bs ++ q.flatten ++ [40] ++ (eachA [44, 32] l).flatten) [41] (tH v 10 n t (.mk xk xn xt xs xm :: r) ns) (by exact fl)
 exact callOk_introT (fun a w => Tryz.call73 a w) Tryz.func73 rfl Tryz.ntmps73 rfl fun B => by
  refine pa [.b false, .b false, .b false, .b false, .b false, .b false, .b false, .b false, .b false, .b true, .v (exA (.mk xk xn xt xs xm)), .f (.tup []) (fun _ => wrH v (u + q.length) (.ptr 0 v 0) (bs ++ q.flatten) (tH v 10 n t (.mk xk xn xt xs xm :: r) ns)),
   .f (.tup []) (fun _ => wrH v (u + q.length + 1) (.ptr 0 v 0) (bs ++ q.flatten ++ [40]) (tH v 10 n t (.mk xk xn xt xs xm :: r) ns)),
   .f (.tup []) (fun _ => wrH v (u + q.length + 1 + (eachA [44, 32] l).length) (.ptr 0 v 0) (bs ++ q.flatten ++ [40] ++ (eachA [44, 32] l).flatten) (tH v 10 n t (.mk xk xn xt xs xm :: r) ns)),
   .f (.tup []) (fun _ => wrH v (u + q.length + 1 + (eachA [44, 32] l).length + 1) (.ptr 0 v 0) (bs ++ q.flatten ++ [40] ++ (eachA [44, 32] l).flatten ++ [41]) (tH v 10 n t (.mk xk xn xt xs xm :: r) ns))] rfl ?_ ?_
  ·(repeat' with_reducible apply AllP_cons) <;> first | exact aC | skip
  exact S_nil ⟨_, _, rfl, trivial, wfinE (by exact fl) (by simp)⟩
theorem wex11 (n : Nat) (t : List UInt8) (x y : Ex) (ns : List (List UInt8)) (p r : Pcs) (hx : Wr WX x p) (hy : Wr WX y r) : Wr WX (.mk 11 n t [x, y] ns) (brk (apart x) p ++ [[91]] ++ r ++ [[93]]) := by
 intro v u a bs ha hl
 obtain ⟨q, hq⟩ : ∃ q, q = brk (apart x) p := ⟨_, rfl⟩
 have hx := inner_ok x p hx
 rw [← hq] at hl hx ⊢
 clear hq
 obtain ⟨xk, xn, xt, xs, xm⟩ := x
 obtain ⟨yk, yn, yt, ys, ym⟩ := y
 have h1 := hx.tail v u a bs (tH v 11 n t [.mk xk xn xt xs xm, .mk yk yn yt ys ym] ns) ha (by exact fl)
 have h2 := wput1 v (u + q.length) (.ptr 0 v 0) (.inr rfl) (bs ++ q.flatten) [91] (tH v 11 n t [.mk xk xn xt xs xm, .mk yk yn yt ys ym] ns) (by exact fl)
 have h3 := hy.tail v (u + q.length + 1) (.ptr 0 v 0) (bs ++ q.flatten ++ [91]) (tH v 11 n t [.mk xk xn xt xs xm, .mk yk yn yt ys ym] ns) (.inr rfl) (by exact fl)
 have h4 := wput1 v (u + q.length + 1 + r.length) (.ptr 0 v 0) (.inr rfl) (bs ++ q.flatten ++ [91] ++ r.flatten) [93] (tH v 11 n t [.mk xk xn xt xs xm, .mk yk yn yt ys ym] ns) (by exact fl)
 exact callOk_introT (fun a w => Tryz.call73 a w) Tryz.func73 rfl Tryz.ntmps73 rfl fun B => by
  refine pa [.b false, .b false, .b false, .b false, .b false, .b false, .b false, .b false, .b false, .b false, .b true, .v (exA (.mk xk xn xt xs xm)), .f (.tup []) (fun _ => wrH v (u + q.length) (.ptr 0 v 0) (bs ++ q.flatten) (tH v 11 n t [.mk xk xn xt xs xm, .mk yk yn yt ys ym] ns)),
   .f (.tup []) (fun _ => wrH v (u + q.length + 1) (.ptr 0 v 0) (bs ++ q.flatten ++ [91]) (tH v 11 n t [.mk xk xn xt xs xm, .mk yk yn yt ys ym] ns)),
   .v (exA (.mk yk yn yt ys ym)), .f (.tup []) (fun _ => wrH v (u + q.length + 1 + r.length) (.ptr 0 v 0) (bs ++ q.flatten ++ [91] ++ r.flatten) (tH v 11 n t [.mk xk xn xt xs xm, .mk yk yn yt ys ym] ns)),
   .f (.tup []) (fun _ => wrH v (u + q.length + 1 + r.length + 1) (.ptr 0 v 0) (bs ++ q.flatten ++ [91] ++ r.flatten ++ [93]) (tH v 11 n t [.mk xk xn xt xs xm, .mk yk yn yt ys ym] ns))] rfl ?_ ?_
  ·(repeat' with_reducible apply AllP_cons) <;> first | exact aC | skip
  exact S_nil ⟨_, _, rfl, trivial, wfinE (by exact fl) (by simp)⟩
theorem wex12 (n : Nat) (t : List UInt8) (x : Ex) (ns : List (List UInt8)) (p : Pcs) (hx : Wr WX x p) : Wr WX (.mk 12 n t [x] ns) ([[110, 111, 116, 32]] ++ brk (apart x) p) := by
 intro v u a bs ha hl
 obtain ⟨q, hq⟩ : ∃ q, q = brk (apart x) p := ⟨_, rfl⟩
 have hx := inner_ok x p hx
 rw [← hq] at hl hx ⊢
 clear hq
 obtain ⟨xk, xn, xt, xs, xm⟩ := x
 have h1 := wput1 v u a ha bs [110, 111, 116, 32] (tH v 12 n t [.mk xk xn xt xs xm] ns) (by exact fl)
 have h2 := hx.tail v (u + 1) (.ptr 0 v 0) (bs ++ [110, 111, 116, 32]) (tH v 12 n t [.mk xk xn xt xs xm] ns) (.inr rfl) (by exact fl)
 exact callOk_introT (fun a w => Tryz.call73 a w) Tryz.func73 rfl Tryz.ntmps73 rfl fun B => by
  refine pa [.b false, .b false, .b false, .b false, .b false, .b false, .b false, .b false, .b false, .b false, .b false, .b true, .f (.tup []) (fun _ => wrH v (u + 1) (.ptr 0 v 0) (bs ++ [110, 111, 116, 32]) (tH v 12 n t [.mk xk xn xt xs xm] ns)),
   .v (exA (.mk xk xn xt xs xm)), .f (.tup []) (fun _ => wrH v (u + 1 + q.length) (.ptr 0 v 0) (bs ++ [110, 111, 116, 32] ++ q.flatten) (tH v 12 n t [.mk xk xn xt xs xm] ns))] rfl ?_ ?_
  ·(repeat' with_reducible apply AllP_cons) <;> first | exact aC | skip
  exact S_nil ⟨_, _, rfl, trivial, wfinE (by exact fl) (by simp)⟩
theorem wex13 (n : Nat) (t : List UInt8) (x : Ex) (ns : List (List UInt8)) (p : Pcs) (hx : Wr WX x p) : Wr WX (.mk 13 n t [x] ns) ([[45]] ++ brk (apart x) p) := by
 intro v u a bs ha hl
 obtain ⟨q, hq⟩ : ∃ q, q = brk (apart x) p := ⟨_, rfl⟩
 have hx := inner_ok x p hx
 rw [← hq] at hl hx ⊢
 clear hq
 obtain ⟨xk, xn, xt, xs, xm⟩ := x
 have h1 := wput1 v u a ha bs [45] (tH v 13 n t [.mk xk xn xt xs xm] ns) (by exact fl)
 have h2 := hx.tail v (u + 1) (.ptr 0 v 0) (bs ++ [45]) (tH v 13 n t [.mk xk xn xt xs xm] ns) (.inr rfl) (by exact fl)
 exact callOk_introT (fun a w => Tryz.call73 a w) Tryz.func73 rfl Tryz.ntmps73 rfl fun B => by
  refine pa [.b false, .b false, .b false, .b false, .b false, .b false, .b false, .b false, .b false, .b false, .b false, .b false, .b true, .f (.tup []) (fun _ => wrH v (u + 1) (.ptr 0 v 0) (bs ++ [45]) (tH v 13 n t [.mk xk xn xt xs xm] ns)),
   .v (exA (.mk xk xn xt xs xm)), .f (.tup []) (fun _ => wrH v (u + 1 + q.length) (.ptr 0 v 0) (bs ++ [45] ++ q.flatten) (tH v 13 n t [.mk xk xn xt xs xm] ns))] rfl ?_ ?_
  ·(repeat' with_reducible apply AllP_cons) <;> first | exact aC | skip
  exact S_nil ⟨_, _, rfl, trivial, wfinE (by exact fl) (by simp)⟩
theorem wex14 (n : Nat) (t : List UInt8) (x y : Ex) (ns : List (List UInt8)) (p p' : Pcs) (hx : Wr WX x p) (hy : Wr WX y p') : Wr WX (.mk 14 n t [x, y] ns) (brk (apart x) p ++ [[32], t, [32]] ++ brk (apart y) p') := by
 intro v u a bs ha hl
 obtain ⟨q, hq⟩ : ∃ q, q = brk (apart x) p := ⟨_, rfl⟩
 obtain ⟨r, hr⟩ : ∃ r, r = brk (apart y) p' := ⟨_, rfl⟩
 have hx := inner_ok x p hx
 have hy := inner_ok y p' hy
 rw [← hq] at hl hx ⊢
 rw [← hr] at hl hy ⊢
 clear hq hr
 obtain ⟨xk, xn, xt, xs, xm⟩ := x
 obtain ⟨yk, yn, yt, ys, ym⟩ := y
 have h1 := hx.tail v u a bs (tH v 14 n t [.mk xk xn xt xs xm, .mk yk yn yt ys ym] ns) ha (by exact fl)
 have h2 := wput_ok v (u + q.length) (.ptr 0 v 0) (.inr rfl) (bs ++ q.flatten) true true [[32], t, [32]] (tH v 14 n t [.mk xk xn xt xs xm, .mk yk yn yt ys ym] ns) (by simp) (by exact fl) (by simp)
 have h3 := hy.tail v (u + q.length + 3) (.ptr 0 v 0) (bs ++ q.flatten ++ [[32], t, [32]].flatten) (tH v 14 n t [.mk xk xn xt xs xm, .mk yk yn yt ys ym] ns) (.inr rfl) (by exact fl)
 exact callOk_introT (fun a w => Tryz.call73 a w) Tryz.func73 rfl Tryz.ntmps73 rfl fun B => by
  refine pa [.b false, .b false, .b false, .b false, .b false, .b false, .b false, .b false, .b false, .b false, .b false, .b false, .b false, .b true, .v (exA (.mk xk xn xt xs xm)), .f (.tup []) (fun _ => wrH v (u + q.length) (.ptr 0 v 0) (bs ++ q.flatten) (tH v 14 n t [.mk xk xn xt xs xm, .mk yk yn yt ys ym] ns)),
   .f (.tup []) (fun _ => wrH v (u + q.length + 3) (.ptr 0 v 0) (bs ++ q.flatten ++ [[32], t, [32]].flatten) (tH v 14 n t [.mk xk xn xt xs xm, .mk yk yn yt ys ym] ns)),
   .v (exA (.mk yk yn yt ys ym)), .f (.tup []) (fun _ => wrH v (u + q.length + 3 + r.length) (.ptr 0 v 0) (bs ++ q.flatten ++ [[32], t, [32]].flatten ++ r.flatten) (tH v 14 n t [.mk xk xn xt xs xm, .mk yk yn yt ys ym] ns))] rfl ?_ ?_
  ·(repeat' with_reducible apply AllP_cons) <;> first | exact aC | skip
  exact S_nil ⟨_, _, rfl, trivial, wfinE (by exact fl) (by simp)⟩
theorem len2 {α : Type} {l : List α} (h : l.length = 2) : ∃ x y, l = [x, y] := by
 match l, h with
 | [x, y], _ => exact ⟨x, y, rfl⟩
theorem len3 {α : Type} {l : List α} (h : l.length = 3) : ∃ x y z, l = [x, y, z] := by
 match l, h with
 | [x, y, z], _ => exact ⟨x, y, z, rfl⟩
theorem wex {x : Ex} (h : Wx 800000 x) : Wr WX x (exW x) := by
 induction h with
 | @mk k n t ks ns h1 h2 h3 h4 ih =>
  rw [exW]
  match k, h4 with
  | 1, _ => exact wex1 n t ks ns
  | 2, _ => exact wex2 n t ks ns
  | 3, _ => exact wex3 n t ks ns
  | 4, h4 => exact wex4 n h4.1 t ks ns
  | 5, _ => exact wex5 n t ks ns
  | 6, _ => exact wex6 n t ks ns
  | 7, _ => exact wex7 _ _ _ _ ih (by omega)
  | 8, _ => exact wex8 _ _ _ _ ih (by omega)
  | 9, h4 =>
   rcases h4.2.2.1 with hk | hk
   ·obtain ⟨x, y, rfl⟩ : ∃ x y, ks = [x, y] := len2 hk
    have := wex9a n t x y ns _ _ (ih x (by simp)) (ih y (by simp))
    simpa [exB', exWs, plW] using this
   ·obtain ⟨x, y, z, rfl⟩ : ∃ x y z, ks = [x, y, z] := len3 hk
    have := wex9b n t x y z ns _ _ _ (ih x (by simp)) (ih y (by simp)) (ih z (by simp))
    simpa [exB', exWs, plW] using this
  | 10, h4 =>
   match ks, ih, h1, h4 with
   | x :: r, ih, h1, h4 =>
    have h5 : ns.length + 1 ≤ r.length + 1 := h4.2.2.1
    have h1 : r.length + 1 ≤ 800000 := h1
    have := wex10 n t x r ns _ (ih x (by simp)) (fun y hy => ih y (by simp [hy])) (by omega) (by omega)
    simpa [exB', exWs, inW] using this
   | [], ih, h1, h4 => exact absurd h4.2.2.1 (by simp)
  | 11, h4 =>
   obtain ⟨x, y, rfl⟩ : ∃ x y, ks = [x, y] := len2 h4.2.2.1
   have := wex11 n t x y ns _ _ (ih x (by simp)) (ih y (by simp))
   simpa [exB', exWs, plW, inW] using this
  | 12, h4 =>
   obtain ⟨x, rfl⟩ : ∃ x, ks = [x] := List.length_eq_one_iff.1 h4.2.2.1
   have := wex12 n t x ns _ (ih x (by simp))
   simpa [exB', exWs, plW, inW] using this
  | 13, h4 =>
   obtain ⟨x, rfl⟩ : ∃ x, ks = [x] := List.length_eq_one_iff.1 h4.2.2.1
   have := wex13 n t x ns _ (ih x (by simp))
   simpa [exB', exWs, plW, inW] using this
  | 14, h4 =>
   obtain ⟨x, y, rfl⟩ : ∃ x y, ks = [x, y] := len2 h4.2.2.1
   have := wex14 n t x y ns _ _ (ih x (by simp)) (ih y (by simp))
   simpa [exB', exWs, plW, inW] using this
  | 0, h4 => exact h4.elim
  | k + 15, h4 => exact h4.elim
end Go.Proofs.YtonjhfeabphaaaaGreatDoor
end
section
set_option linter.unusedVariables false
set_option linter.unusedSimpArgs false
set_option maxRecDepth 20000
set_option maxHeartbeats 4000000
namespace Go.Proofs.YtonjhfeabphaaaaGreatDoor
open Go Go.Ab
def Wt (f : FuncId) (x : St) (i : List UInt8) (p : Pcs) : Prop := ∀ (v u : Nat) (a : AV) (bs : List UInt8), (a = .nilp ∨ a = .ptr 0 v 0) → i.length ≤ bs.length → bs.length + p.flatten.length ≤ 70000000000000 →
 CallOk cx f [.ptr 0 v 0, stA x, .str i] (wrH v u a bs []) (fun o s => o = .ret (.tup []) ∧ s = wrH v (u + p.length) (.ptr 0 v 0) (bs ++ p.flatten) [])
theorem Wt.tail {f : FuncId} {x : St} {i : List UInt8} {p : Pcs} (h : Wt f x i p) (v u : Nat) (a : AV) (bs : List UInt8) (τ : Heap) (ha : a = .nilp ∨ a = .ptr 0 v 0) (hi : i.length ≤ bs.length) (hl : bs.length + p.flatten.length ≤ 70000000000000) :
  CallOk cx f [.ptr 0 v 0, stA x, .str i] (wrH v u a bs τ) (fun o s => o = .ret (.tup []) ∧ s = wrH v (u + p.length) (.ptr 0 v 0) (bs ++ p.flatten) τ) :=
 (h v u a bs ha hi hl).pre1 2 τ rfl rfl (.cons (.ptr rfl) (.free (by intro y hy; simp at hy; rcases hy with rfl | rfl; exact stA_free x; exact .str))) (wr_rn v u a ha bs) (wr_rn v (u + p.length) (.ptr 0 v 0) (.inr rfl) (bs ++ p.flatten)) (.free (.tup (by simp)))
def Wl (f : FuncId) (l : List St) (i : List UInt8) (p : Pcs) : Prop := ∀ (v u : Nat) (a : AV) (bs : List UInt8), (a = .nilp ∨ a = .ptr 0 v 0) → bs.length + p.flatten.length ≤ 70000000000000 →
 CallOk cx f [.ptr 0 v 0, .sl true false 10 (stL l), .str i] (wrH v u a bs []) (fun o s => o = .ret (.tup []) ∧ s = wrH v (u + p.length) (if l.length = 0 then a else .ptr 0 v 0) (bs ++ p.flatten) [])
theorem Wl.tail {f : FuncId} {l : List St} {i : List UInt8} {p : Pcs} (h : Wl f l i p) (v u : Nat) (bs : List UInt8) (τ : Heap) (hl : bs.length + p.flatten.length ≤ 70000000000000) :
  CallOk cx f [.ptr 0 v 0, .sl true false 10 (stL l), .str i] (wrH v u (.ptr 0 v 0) bs τ) (fun o s => o = .ret (.tup []) ∧ s = wrH v (u + p.length) (.ptr 0 v 0) (bs ++ p.flatten) τ) := by
 have h := h v u (.ptr 0 v 0) bs (.inr rfl) hl
 rw [ite_self] at h
 exact h.pre1 2 τ rfl rfl (.cons (.ptr rfl) (.free (by intro y hy; simp at hy; rcases hy with rfl | rfl; exact stsA_free l; exact .str))) (wr_rn v u _ (.inr rfl) bs) (wr_rn v (u + p.length) (.ptr 0 v 0) (.inr rfl) (bs ++ p.flatten)) (.free (.tup (by simp)))
theorem wfinA {v u : Nat} {a : AV} {bs : List UInt8} {τ : Heap} (ha : a = .nilp ∨ a = .ptr 0 v 0) : TR 2 (fun o s => o = .ret (.tup []) ∧ s = wrH v u a bs []) (.ret (.tup [])) (wrH v u a bs τ) :=
 ⟨2, Nat.le_refl _, wr_low _ _ _ ha _ _, .tup [], .low (.tup (by simp)), rfl, rfl⟩
theorem stL_get {l : List St} {i : Nat} (h : i < l.length) {y : St} (hy : l[i] = y) : (stL l)[((i : Nat) : Int).toNat]? = some (stA y) := by
 subst hy
 rw [stL_map, List.getElem?_map, Int.toNat_natCast, List.getElem?_eq_getElem h]; rfl
theorem stWs_snoc (i : List UInt8) (l : List St) (s : St) : stWs (l ++ [s]) i = stWs l i ++ ([i] ++ stW s i) := by
 induction l with
 | nil => simp [stWs]
 | cons x r ih => rw [List.cons_append, stWs, ih, stWs]; simp
theorem stWs_take (i : List UInt8) (l : List St) (j : Nat) (h : j < l.length) : stWs (l.take (j + 1)) i = stWs (l.take j) i ++ ([i] ++ stW l[j] i) := by
 rw [List.take_succ_eq_append_getElem h, stWs_snoc]
theorem stWs_le (i : List UInt8) (l : List St) (j : Nat) (h : j ≤ l.length) : (stWs (l.take j) i).flatten.length ≤ (stWs l i).flatten.length := by
 induction hk : l.length - j generalizing j with
 | zero => rw [List.take_of_length_le (by omega)]; exact Nat.le_refl _
 | succ n ih =>
  have := ih (j + 1) (by omega) (by omega)
  rw [stWs_take _ _ _ (by omega), List.flatten_append, List.length_append] at this
  omega
abbrev WS := 43
structure StmSt where
 i : Nat
 w : Nat
 a : AV
theorem wstmts (l : List St) (i : List UInt8) (h : ∀ s ∈ l, Wt WS s i (stW s i)) (hz : l.length ≤ 1000000) : Wl 32 l i (stWs l i) := by
 intro v u a bs ha hl
 have hll : (stL l).length = l.length := stL_len l
 exact callOk_introT (fun a w => Tryz.call32 a w) Tryz.func32 rfl Tryz.ntmps32 rfl fun B => by
  refine pa [] rfl ?_ ?_
  ·(repeat' with_reducible apply AllP_cons) <;> first | exact aC | skip
  refine S_dead ?_ ⟨_, _, .inl rfl⟩
  refine S_while (α := StmSt) (fun q => [(0, .ptr 0 v 0), (2, .str i), (8, .sl true false 10 (stL l)), (9, .int .i64 (l.length : Nat)), (10, .int .i64 (q.i : Nat))]) (fun q => wrH v (u + (stWs (l.take q.i) i).length) q.a (bs ++ (stWs (l.take q.i) i).flatten) [(q.w, none)])
   (fun q => q.i ≤ l.length ∧ (q.a = .nilp ∨ q.a = .ptr 0 v 0) ∧ (0 < q.i → q.a = .ptr 0 v 0) ∧ (q.i = 0 → q.a = a)) (fun q => l.length - q.i) ⟨0, 0, a⟩ ⟨Nat.zero_le _, ha, fun h => absurd h (Nat.lt_irrefl 0), fun _ => rfl⟩ (.cons rfl (.cons rfl (.cons rfl (.cons (by show AV.int .i64 (((stL l).length : Nat) : Int) = _; rw [hll]) (.cons rfl (.nil _)))))) (by show wrH v u a bs _ = wrH v (u + 0) a (bs ++ []) _; simp) ?_
  rintro ⟨j, w, a1⟩ ⟨hj, ha1, hp, hp0⟩
  have hj : j ≤ l.length := hj
  have ha1 : a1 = .nilp ∨ a1 = .ptr 0 v 0 := ha1
  have hp : 0 < j → a1 = .ptr 0 v 0 := hp
  have hp0 : j = 0 → a1 = a := hp0
  show S cx _ B _ _ [(0, .ptr 0 v 0), (2, .str i), (8, .sl true false 10 (stL l)), (9, .int .i64 (l.length : Nat)), (10, .int .i64 (j : Nat))] (wrH v (u + (stWs (l.take j) i).length) a1 (bs ++ (stWs (l.take j) i).flatten) [(w, none)])
  by_cases hlt : j < l.length
  ·have hle := stWs_le i l (j + 1) hlt
   have he := stWs_take i l j hlt
   have hs := h _ (List.getElem_mem hlt)
   rw [he, List.flatten_append, List.flatten_append, List.length_append, List.length_append] at hle
   obtain ⟨y, hy⟩ : ∃ y, l[j] = y := ⟨_, rfl⟩
   have hel := stL_get hlt hy
   rw [hy] at he hle hs
   obtain ⟨p, hpp⟩ : ∃ p, p = stW y i := ⟨_, rfl⟩
   rw [← hpp] at he hle hs
   clear hpp
   obtain ⟨yk, yt, yns, yx, yb, ye⟩ := y
   obtain ⟨xk, xn, xt, xs, xm⟩ := yx
   have h1 := wput1 v (u + (stWs (l.take j) i).length) a1 ha1 (bs ++ (stWs (l.take j) i).flatten) i [(w + 1, some (.cells (stA (.mk yk yt yns (.mk xk xn xt xs xm) yb ye)).cells ⟨false, some 56⟩))] (by exact fl)
   have h2 := hs.tail v (u + (stWs (l.take j) i).length + 1) (.ptr 0 v 0) (bs ++ (stWs (l.take j) i).flatten ++ i) [(w + 1, some (.cells (stA (.mk yk yt yns (.mk xk xn xt xs xm) yb ye)).cells ⟨false, some 56⟩))] (.inr rfl) (by exact fl) (by exact fl)
   refine pa [.b true, .v (stA (.mk yk yt yns (.mk xk xn xt xs xm) yb ye)), .f (.tup []) (fun _ => wrH v (u + (stWs (l.take j) i).length + 1) (.ptr 0 v 0) (bs ++ (stWs (l.take j) i).flatten ++ i) [(w + 1, some (.cells (stA (.mk yk yt yns (.mk xk xn xt xs xm) yb ye)).cells ⟨false, some 56⟩))]),
    .f (.tup []) (fun _ => wrH v (u + (stWs (l.take j) i).length + 1 + p.length) (.ptr 0 v 0) (bs ++ (stWs (l.take j) i).flatten ++ i ++ p.flatten) [(w + 1, some (.cells (stA (.mk yk yt yns (.mk xk xn xt xs xm) yb ye)).cells ⟨false, some 56⟩))]), .s] rfl ?_ ?_
   ·(repeat' with_reducible apply AllP_cons) <;> first | exact aC | skip
   refine S_drop (id := 2) rfl ?_ ⟨.skip, _, .inr ⟨_, _, _, rfl⟩⟩
   refine pa [] rfl ?_ ?_
   ·(repeat' with_reducible apply AllP_cons) <;> first | exact aC | skip
   refine S_round ⟨j + 1, w + 1, .ptr 0 v 0⟩ (by show l.length - (j + 1) < l.length - j; omega) ⟨hlt, .inr rfl, fun _ => rfl, fun h => absurd h (Nat.succ_ne_zero j)⟩ (.cons rfl (.cons rfl (.cons rfl (.cons rfl (.cons (by show AV.int .i64 (IntKind.i64.wrap (((j : Nat) : Int) + 1)) = .int .i64 ((j + 1 : Nat) : Int); exact ai64 rfl (by omega)) (.nil _)))))) ?_
   show wrH v (u + (stWs (l.take j) i).length + 1 + p.length) (.ptr 0 v 0) (bs ++ (stWs (l.take j) i).flatten ++ i ++ p.flatten) [(w + 1, none)] = wrH v (u + (stWs (l.take (j + 1)) i).length) (.ptr 0 v 0) (bs ++ (stWs (l.take (j + 1)) i).flatten) [(w + 1, none)]
   rw [he]
   simp only [List.length_append, List.flatten_append, List.flatten_cons, List.flatten_nil, List.append_nil, List.length_cons, List.length_nil, List.append_assoc]
   rw [show u + ((stWs (l.take j) i).length + (0 + 1 + p.length)) = u + (stWs (l.take j) i).length + 1 + p.length by omega]
  ·obtain rfl : j = l.length := by omega
   have : a1 = if l.length = 0 then a else .ptr 0 v 0 := by
    by_cases h0 : l.length = 0
    ·rw [if_pos h0]; exact hp0 h0
    ·rw [if_neg h0]; exact hp (by omega)
   rw [List.take_length, ← this]
   refine pa [.b false] rfl ?_ ?_
   ·(repeat' with_reducible apply AllP_cons) <;> first | exact aC | skip
   exact S_nil ⟨_, _, rfl, trivial, wfinA ha1⟩
theorem wbody (l : List St) (i : List UInt8) (h : ∀ s ∈ l, Wt WS s (i ++ tab4) (stW s (i ++ tab4))) (hz : l.length ≤ 1000000) (v u : Nat) (bs : List UInt8) (τ : Heap) (hi : i.length ≤ bs.length) (hl : bs.length + ([[58, 10]] ++ stWs l (i ++ tab4)).flatten.length ≤ 70000000000000) :
  CallOk cx 75 [.ptr 0 v 0, .sl true false 10 (stL l), .str i] (wrH v u (.ptr 0 v 0) bs τ) (fun o s => o = .ret (.tup []) ∧ s = wrH v (u + ([[58, 10]] ++ stWs l (i ++ tab4)).length) (.ptr 0 v 0) (bs ++ ([[58, 10]] ++ stWs l (i ++ tab4)).flatten) τ) := by
 have hw := (wstmts l (i ++ tab4) h hz).tail v (u + 1) (bs ++ [58, 10]) [] (by exact fl)
 have h1 := wput1 v u (.ptr 0 v 0) (.inr rfl) bs [58, 10] [] (by exact fl)
 have key : CallOk cx 75 [.ptr 0 v 0, .sl true false 10 (stL l), .str i] (wrH v u (.ptr 0 v 0) bs []) (fun o s => o = .ret (.tup []) ∧ s = wrH v (u + ([[58, 10]] ++ stWs l (i ++ tab4)).length) (.ptr 0 v 0) (bs ++ ([[58, 10]] ++ stWs l (i ++ tab4)).flatten) []) := callOk_intro (fun a w => Tryz.call75 a w) Tryz.func75 rfl Tryz.ntmps75 rfl fun B => by
  refine pa [.f (.tup []) (fun _ => wrH v (u + 1) (.ptr 0 v 0) (bs ++ [58, 10]) []), .f (.tup []) (fun _ => wrH v (u + 1 + (stWs l (i ++ tab4)).length) (.ptr 0 v 0) (bs ++ [58, 10] ++ (stWs l (i ++ tab4)).flatten) [])] rfl ?_ ?_
  ·(repeat' with_reducible apply AllP_cons) <;> first | exact aC | skip
  refine S_nil ⟨_, _, rfl, trivial, rfl, ?_⟩
  show wrH _ _ _ _ _ = wrH _ _ _ _ _
  simp only [List.length_append, List.flatten_append, List.flatten_cons, List.flatten_nil, List.append_nil, List.length_cons, List.length_nil, List.append_assoc]
  rw [show u + (0 + 1 + (stWs l (i ++ tab4)).length) = u + 1 + (stWs l (i ++ tab4)).length by omega]
 exact key.pre1 2 τ rfl rfl (.cons (.ptr rfl) (.free (by intro y hy; simp at hy; rcases hy with rfl | rfl; exact stsA_free l; exact .str))) (wr_rn v u _ (.inr rfl) bs) (wr_rn v _ (.ptr 0 v 0) (.inr rfl) _) (.free (.tup (by simp)))
end Go.Proofs.YtonjhfeabphaaaaGreatDoor
end
section
set_option linter.unusedVariables false
set_option linter.unusedSimpArgs false
set_option maxRecDepth 20000
set_option maxHeartbeats 4000000
namespace Go.Proofs.YtonjhfeabphaaaaGreatDoor
open Go Go.Ab
def wsBx (k : Nat) (t : List UInt8) (ns : List (List UInt8)) (xk xn : Nat) (xt : List UInt8) (xs : List Ex) (xm : List (List UInt8)) (b e : List St) : Nat × Option Box :=
 (0, some (.cells [.int .i64 (k : Nat), .str t, .sl true false 1 (texts ns), .int .i64 (xk : Nat), .int .i64 (xn : Nat), .str xt, .sl true false 5 (exL xs), .sl true false 1 (texts xm), .sl true false 10 (stL b), .sl true false 10 (stL e)] ⟨false, some 56⟩))
theorem wst1 (t : List UInt8) (ns : List (List UInt8)) (x : Ex) (b e : List St) (i : List UInt8) : Wt WS (.mk 1 t ns x b e) i ([[112, 97, 115, 115, 10]]) := by
 intro v u a bs ha hi hl
 obtain ⟨xk, xn, xt, xs, xm⟩ := x
 have h1 := wput1 v (u) a ha (bs) [112, 97, 115, 115, 10] [wsBx 1 t ns xk xn xt xs xm b e] (by exact fl)
 exact callOk_introT (fun a w => Tryz.call43 a w) Tryz.func43 rfl Tryz.ntmps43 rfl fun B => by
  refine pa [.b true, .f (.tup []) (fun _ => wrH v (u + 1) (.ptr 0 v 0) (bs ++ [112, 97, 115, 115, 10]) [wsBx 1 t ns xk xn xt xs xm b e])] rfl ?_ ?_
  ·(repeat' with_reducible apply AllP_cons) <;> first | exact aC | skip
  exact S_nil ⟨_, _, rfl, trivial, wfinE (by exact fl) (by simp [nl])⟩
theorem wst2 (t : List UInt8) (ns : List (List UInt8)) (x : Ex) (b e : List St) (i : List UInt8) (p : Pcs) (hx : Wr WX x p) : Wt WS (.mk 2 t ns x b e) i ([[114, 101, 116, 117, 114, 110, 32]] ++ p ++ [[10]]) := by
 intro v u a bs ha hi hl
 obtain ⟨xk, xn, xt, xs, xm⟩ := x
 have h1 := wput1 v (u) a ha (bs) [114, 101, 116, 117, 114, 110, 32] [wsBx 2 t ns xk xn xt xs xm b e] (by exact fl)
 have h2 := hx.tail v (u + 1) (.ptr 0 v 0) (bs ++ [114, 101, 116, 117, 114, 110, 32]) [wsBx 2 t ns xk xn xt xs xm b e] (.inr rfl) (by exact fl)
 have h3 := wput1 v (u + 1 + p.length) (.ptr 0 v 0) (.inr rfl) (bs ++ [114, 101, 116, 117, 114, 110, 32] ++ p.flatten) [10] [wsBx 2 t ns xk xn xt xs xm b e] (by exact fl)
 exact callOk_introT (fun a w => Tryz.call43 a w) Tryz.func43 rfl Tryz.ntmps43 rfl fun B => by
  refine pa [.b false, .b true, .f (.tup []) (fun _ => wrH v (u + 1) (.ptr 0 v 0) (bs ++ [114, 101, 116, 117, 114, 110, 32]) [wsBx 2 t ns xk xn xt xs xm b e]),
   .f (.tup []) (fun _ => wrH v (u + 1 + p.length) (.ptr 0 v 0) (bs ++ [114, 101, 116, 117, 114, 110, 32] ++ p.flatten) [wsBx 2 t ns xk xn xt xs xm b e]),
   .f (.tup []) (fun _ => wrH v (u + 1 + p.length + 1) (.ptr 0 v 0) (bs ++ [114, 101, 116, 117, 114, 110, 32] ++ p.flatten ++ [10]) [wsBx 2 t ns xk xn xt xs xm b e])] rfl ?_ ?_
  ·(repeat' with_reducible apply AllP_cons) <;> first | exact aC | skip
  exact S_nil ⟨_, _, rfl, trivial, wfinE (by exact fl) (by simp [nl])⟩
theorem wst3 (t : List UInt8) (ns : List (List UInt8)) (x : Ex) (b e : List St) (i : List UInt8) (p : Pcs) (hx : Wr WX x p) : Wt WS (.mk 3 t ns x b e) i ([t, [32, 61, 32]] ++ p ++ [[10]]) := by
 intro v u a bs ha hi hl
 obtain ⟨xk, xn, xt, xs, xm⟩ := x
 have h1 := wput_ok v (u) a ha (bs) true true [t, [32, 61, 32]] [wsBx 3 t ns xk xn xt xs xm b e] (by simp) (by exact fl) (by simp)
 have h2 := hx.tail v (u + 2) (.ptr 0 v 0) (bs ++ [t, [32, 61, 32]].flatten) [wsBx 3 t ns xk xn xt xs xm b e] (.inr rfl) (by exact fl)
 have h3 := wput1 v (u + 2 + p.length) (.ptr 0 v 0) (.inr rfl) (bs ++ [t, [32, 61, 32]].flatten ++ p.flatten) [10] [wsBx 3 t ns xk xn xt xs xm b e] (by exact fl)
 exact callOk_introT (fun a w => Tryz.call43 a w) Tryz.func43 rfl Tryz.ntmps43 rfl fun B => by
  refine pa [.b false, .b false, .b true, .f (.tup []) (fun _ => wrH v (u + 2) (.ptr 0 v 0) (bs ++ [t, [32, 61, 32]].flatten) [wsBx 3 t ns xk xn xt xs xm b e]),
   .f (.tup []) (fun _ => wrH v (u + 2 + p.length) (.ptr 0 v 0) (bs ++ [t, [32, 61, 32]].flatten ++ p.flatten) [wsBx 3 t ns xk xn xt xs xm b e]),
   .f (.tup []) (fun _ => wrH v (u + 2 + p.length + 1) (.ptr 0 v 0) (bs ++ [t, [32, 61, 32]].flatten ++ p.flatten ++ [10]) [wsBx 3 t ns xk xn xt xs xm b e])] rfl ?_ ?_
  ·(repeat' with_reducible apply AllP_cons) <;> first | exact aC | skip
  exact S_nil ⟨_, _, rfl, trivial, wfinE (by exact fl) (by simp [nl])⟩
theorem wst5 (t : List UInt8) (ns : List (List UInt8)) (x : Ex) (b e : List St) (i : List UInt8) (p : Pcs) (hx : Wr WX x p) : Wt WS (.mk 5 t ns x b e) i (p ++ [[10]]) := by
 intro v u a bs ha hi hl
 obtain ⟨xk, xn, xt, xs, xm⟩ := x
 have h2 := hx.tail v (u) a (bs) [wsBx 5 t ns xk xn xt xs xm b e] ha (by exact fl)
 have h3 := wput1 v (u + p.length) (.ptr 0 v 0) (.inr rfl) (bs ++ p.flatten) [10] [wsBx 5 t ns xk xn xt xs xm b e] (by exact fl)
 exact callOk_introT (fun a w => Tryz.call43 a w) Tryz.func43 rfl Tryz.ntmps43 rfl fun B => by
  refine pa [.b false, .b false, .b false, .b false, .b true, .f (.tup []) (fun _ => wrH v (u + p.length) (.ptr 0 v 0) (bs ++ p.flatten) [wsBx 5 t ns xk xn xt xs xm b e]),
   .f (.tup []) (fun _ => wrH v (u + p.length + 1) (.ptr 0 v 0) (bs ++ p.flatten ++ [10]) [wsBx 5 t ns xk xn xt xs xm b e])] rfl ?_ ?_
  ·(repeat' with_reducible apply AllP_cons) <;> first | exact aC | skip
  exact S_nil ⟨_, _, rfl, trivial, wfinE (by exact fl) (by simp [nl])⟩
theorem wst6 (t : List UInt8) (ns : List (List UInt8)) (x : Ex) (b e : List St) (i : List UInt8) (hJ : Calc cx 74 [.sl true false 1 (texts ns), .str [44, 32]] (.str (joinT ns))) (hb : ∀ s ∈ b, Wt WS s (i ++ tab4) (stW s (i ++ tab4))) (hz : b.length ≤ 1000000) : Wt WS (.mk 6 t ns x b e) i ([[100, 101, 102, 32], t, [40], joinT ns, [41]] ++ ([[58, 10]] ++ stWs b (i ++ tab4))) := by
 intro v u a bs ha hi hl
 obtain ⟨xk, xn, xt, xs, xm⟩ := x
 have h1 := wput_ok v (u) a ha (bs) true true [[100, 101, 102, 32], t, [40], joinT ns, [41]] [wsBx 6 t ns xk xn xt xs xm b e] (by simp) (by exact fl) (by simp)
 have h2 := wbody b i hb (by omega) v (u + 5) (bs ++ [[100, 101, 102, 32], t, [40], joinT ns, [41]].flatten) [wsBx 6 t ns xk xn xt xs xm b e] (by exact fl) (by exact fl)
 exact callOk_introT (fun a w => Tryz.call43 a w) Tryz.func43 rfl Tryz.ntmps43 rfl fun B => by
  refine pa [.b false, .b false, .b false, .b false, .b false, .b true, .v (.str (joinT ns)), .f (.tup []) (fun _ => wrH v (u + 5) (.ptr 0 v 0) (bs ++ [[100, 101, 102, 32], t, [40], joinT ns, [41]].flatten) [wsBx 6 t ns xk xn xt xs xm b e]),
   .f (.tup []) (fun _ => wrH v (u + 5 + ([[58, 10]] ++ stWs b (i ++ tab4)).length) (.ptr 0 v 0) (bs ++ [[100, 101, 102, 32], t, [40], joinT ns, [41]].flatten ++ ([[58, 10]] ++ stWs b (i ++ tab4)).flatten) [wsBx 6 t ns xk xn xt xs xm b e])] rfl ?_ ?_
  ·(repeat' with_reducible apply AllP_cons) <;> first | exact aC | skip
   ·exact ⟨_, hJ, .cons (.refl (.sl (fun h => by cases h) (textsF ns))) (.cons (.refl .str) (.nil _))⟩
  exact S_nil ⟨_, _, rfl, trivial, wfinE (by exact fl) (by simp)⟩
theorem wst7a (t : List UInt8) (ns : List (List UInt8)) (x : Ex) (b e : List St) (i : List UInt8) (p : Pcs) (hx : Wr WX x p) (he : e = []) (hb : ∀ s ∈ b, Wt WS s (i ++ tab4) (stW s (i ++ tab4))) (hz : b.length ≤ 1000000) : Wt WS (.mk 7 t ns x b e) i ([[105, 102, 32]] ++ p ++ ([[58, 10]] ++ stWs b (i ++ tab4)) ++ []) := by
 intro v u a bs ha hi hl
 obtain ⟨xk, xn, xt, xs, xm⟩ := x
 have h1 := wput1 v (u) a ha (bs) [105, 102, 32] [wsBx 7 t ns xk xn xt xs xm b e] (by exact fl)
 have h2 := hx.tail v (u + 1) (.ptr 0 v 0) (bs ++ [105, 102, 32]) [wsBx 7 t ns xk xn xt xs xm b e] (.inr rfl) (by exact fl)
 have h3 := wbody b i hb (by omega) v (u + 1 + p.length) (bs ++ [105, 102, 32] ++ p.flatten) [wsBx 7 t ns xk xn xt xs xm b e] (by exact fl) (by exact fl)
 subst he
 exact callOk_introT (fun a w => Tryz.call43 a w) Tryz.func43 rfl Tryz.ntmps43 rfl fun B => by
  refine pa [.b false, .b false, .b false, .b false, .b false, .b false, .b true, .f (.tup []) (fun _ => wrH v (u + 1) (.ptr 0 v 0) (bs ++ [105, 102, 32]) [wsBx 7 t ns xk xn xt xs xm b []]),
   .f (.tup []) (fun _ => wrH v (u + 1 + p.length) (.ptr 0 v 0) (bs ++ [105, 102, 32] ++ p.flatten) [wsBx 7 t ns xk xn xt xs xm b []]),
   .f (.tup []) (fun _ => wrH v (u + 1 + p.length + ([[58, 10]] ++ stWs b (i ++ tab4)).length) (.ptr 0 v 0) (bs ++ [105, 102, 32] ++ p.flatten ++ ([[58, 10]] ++ stWs b (i ++ tab4)).flatten) [wsBx 7 t ns xk xn xt xs xm b []]),
   .b false] rfl ?_ ?_
  ·(repeat' with_reducible apply AllP_cons) <;> first | exact aC | skip
  exact S_nil ⟨_, _, rfl, trivial, wfinE (by exact fl) (by simp [nl])⟩
theorem wst7b (t : List UInt8) (ns : List (List UInt8)) (x : Ex) (b e : List St) (i : List UInt8) (p : Pcs) (hx : Wr WX x p) (he : 0 < e.length) (hb : ∀ s ∈ b, Wt WS s (i ++ tab4) (stW s (i ++ tab4))) (hz : b.length ≤ 1000000) (hc : ∀ s ∈ e, Wt WS s (i ++ tab4) (stW s (i ++ tab4))) (hy : e.length ≤ 1000000) : Wt WS (.mk 7 t ns x b e) i ([[105, 102, 32]] ++ p ++ ([[58, 10]] ++ stWs b (i ++ tab4)) ++ ([i, wElse] ++ ([[58, 10]] ++ stWs e (i ++ tab4)))) := by
 intro v u a bs ha hi hl
 obtain ⟨xk, xn, xt, xs, xm⟩ := x
 have h1 := wput1 v (u) a ha (bs) [105, 102, 32] [wsBx 7 t ns xk xn xt xs xm b e] (by exact fl)
 have h2 := hx.tail v (u + 1) (.ptr 0 v 0) (bs ++ [105, 102, 32]) [wsBx 7 t ns xk xn xt xs xm b e] (.inr rfl) (by exact fl)
 have h3 := wbody b i hb (by omega) v (u + 1 + p.length) (bs ++ [105, 102, 32] ++ p.flatten) [wsBx 7 t ns xk xn xt xs xm b e] (by exact fl) (by exact fl)
 have h4 := wput_ok v (u + 1 + p.length + ([[58, 10]] ++ stWs b (i ++ tab4)).length) (.ptr 0 v 0) (.inr rfl) (bs ++ [105, 102, 32] ++ p.flatten ++ ([[58, 10]] ++ stWs b (i ++ tab4)).flatten) true true [i, wElse] [wsBx 7 t ns xk xn xt xs xm b e] (by simp) (by exact fl) (by simp)
 have h5 := wbody e i hc (by omega) v (u + 1 + p.length + ([[58, 10]] ++ stWs b (i ++ tab4)).length + 2) (bs ++ [105, 102, 32] ++ p.flatten ++ ([[58, 10]] ++ stWs b (i ++ tab4)).flatten ++ [i, wElse].flatten) [wsBx 7 t ns xk xn xt xs xm b e] (by exact fl) (by exact fl)
 have hse : (stL e).length = e.length := stL_len e
 have hq : decide ((((stL e).length : Nat) : Int) > 0) = true := decide_eq_true (by omega)
 exact callOk_introT (fun a w => Tryz.call43 a w) Tryz.func43 rfl Tryz.ntmps43 rfl fun B => by
  refine pa [.b false, .b false, .b false, .b false, .b false, .b false, .b true, .f (.tup []) (fun _ => wrH v (u + 1) (.ptr 0 v 0) (bs ++ [105, 102, 32]) [wsBx 7 t ns xk xn xt xs xm b e]),
   .f (.tup []) (fun _ => wrH v (u + 1 + p.length) (.ptr 0 v 0) (bs ++ [105, 102, 32] ++ p.flatten) [wsBx 7 t ns xk xn xt xs xm b e]),
   .f (.tup []) (fun _ => wrH v (u + 1 + p.length + ([[58, 10]] ++ stWs b (i ++ tab4)).length) (.ptr 0 v 0) (bs ++ [105, 102, 32] ++ p.flatten ++ ([[58, 10]] ++ stWs b (i ++ tab4)).flatten) [wsBx 7 t ns xk xn xt xs xm b e]),
   .b true,
   .f (.tup []) (fun _ => wrH v (u + 1 + p.length + ([[58, 10]] ++ stWs b (i ++ tab4)).length + 2) (.ptr 0 v 0) (bs ++ [105, 102, 32] ++ p.flatten ++ ([[58, 10]] ++ stWs b (i ++ tab4)).flatten ++ [i, wElse].flatten) [wsBx 7 t ns xk xn xt xs xm b e]),
   .f (.tup []) (fun _ => wrH v (u + 1 + p.length + ([[58, 10]] ++ stWs b (i ++ tab4)).length + 2 + ([[58, 10]] ++ stWs e (i ++ tab4)).length) (.ptr 0 v 0) (bs ++ [105, 102, 32] ++ p.flatten ++ ([[58, 10]] ++ stWs b (i ++ tab4)).flatten ++ [i, wElse].flatten ++ ([[58, 10]] ++ stWs e (i ++ tab4)).flatten) [wsBx 7 t ns xk xn xt xs xm b e])] rfl ?_ ?_
  ·(repeat' with_reducible apply AllP_cons) <;> first | exact aC | skip
  exact S_nil ⟨_, _, rfl, trivial, wfinE (by exact fl) (by simp [nl])⟩
theorem wst8 (t : List UInt8) (ns : List (List UInt8)) (x : Ex) (b e : List St) (i : List UInt8) (p : Pcs) (hx : Wr WX x p) (hb : ∀ s ∈ b, Wt WS s (i ++ tab4) (stW s (i ++ tab4))) (hz : b.length ≤ 1000000) : Wt WS (.mk 8 t ns x b e) i ([[102, 111, 114, 32], t, [32, 105, 110, 32]] ++ p ++ ([[58, 10]] ++ stWs b (i ++ tab4))) := by
 intro v u a bs ha hi hl
 obtain ⟨xk, xn, xt, xs, xm⟩ := x
 have h1 := wput_ok v (u) a ha (bs) true true [[102, 111, 114, 32], t, [32, 105, 110, 32]] [wsBx 8 t ns xk xn xt xs xm b e] (by simp) (by exact fl) (by simp)
 have h2 := hx.tail v (u + 3) (.ptr 0 v 0) (bs ++ [[102, 111, 114, 32], t, [32, 105, 110, 32]].flatten) [wsBx 8 t ns xk xn xt xs xm b e] (.inr rfl) (by exact fl)
 have h3 := wbody b i hb (by omega) v (u + 3 + p.length) (bs ++ [[102, 111, 114, 32], t, [32, 105, 110, 32]].flatten ++ p.flatten) [wsBx 8 t ns xk xn xt xs xm b e] (by exact fl) (by exact fl)
 exact callOk_introT (fun a w => Tryz.call43 a w) Tryz.func43 rfl Tryz.ntmps43 rfl fun B => by
  refine pa [.b false, .b false, .b false, .b false, .b false, .b false, .b false, .b true, .f (.tup []) (fun _ => wrH v (u + 3) (.ptr 0 v 0) (bs ++ [[102, 111, 114, 32], t, [32, 105, 110, 32]].flatten) [wsBx 8 t ns xk xn xt xs xm b e]),
   .f (.tup []) (fun _ => wrH v (u + 3 + p.length) (.ptr 0 v 0) (bs ++ [[102, 111, 114, 32], t, [32, 105, 110, 32]].flatten ++ p.flatten) [wsBx 8 t ns xk xn xt xs xm b e]),
   .f (.tup []) (fun _ => wrH v (u + 3 + p.length + ([[58, 10]] ++ stWs b (i ++ tab4)).length) (.ptr 0 v 0) (bs ++ [[102, 111, 114, 32], t, [32, 105, 110, 32]].flatten ++ p.flatten ++ ([[58, 10]] ++ stWs b (i ++ tab4)).flatten) [wsBx 8 t ns xk xn xt xs xm b e])] rfl ?_ ?_
  ·(repeat' with_reducible apply AllP_cons) <;> first | exact aC | skip
  exact S_nil ⟨_, _, rfl, trivial, wfinE (by exact fl) (by simp [nl])⟩
end Go.Proofs.YtonjhfeabphaaaaGreatDoor
end
section
set_option linter.unusedVariables false
set_option linter.unusedSimpArgs false
set_option maxRecDepth 20000
set_option maxHeartbeats 4000000
namespace Go.Proofs.YtonjhfeabphaaaaGreatDoor
open Go Go.Ab
def ldP (n : List UInt8) : Pcs := [[44, 32], quoT n]
theorem ld_take (ns : List (List UInt8)) (j : Nat) (h : j < ns.length) : (ns.take (j + 1)).flatMap ldP = (ns.take j).flatMap ldP ++ ldP ns[j] := by
 rw [List.take_succ_eq_append_getElem h, List.flatMap_append]; simp
theorem ld_le (ns : List (List UInt8)) (j : Nat) (h : j ≤ ns.length) : ((ns.take j).flatMap ldP).flatten.length ≤ (ns.flatMap ldP).flatten.length := by
 induction hk : ns.length - j generalizing j with
 | zero => rw [List.take_of_length_le (by omega)]; exact Nat.le_refl _
 | succ n ih =>
  have := ih (j + 1) (by omega) (by omega)
  rw [ld_take _ _ (by omega), List.flatten_append, List.length_append] at this
  omega
theorem wst4 (t : List UInt8) (ns : List (List UInt8)) (x : Ex) (b e : List St) (i : List UInt8) (hn : ns.length ≤ 1000000) : Wt WS (.mk 4 t ns x b e) i ([[108, 111, 97, 100, 40], quoT t] ++ ns.flatMap ldP ++ [[41, 10]]) := by
 intro v u a bs ha hi hl
 obtain ⟨xk, xn, xt, xs, xm⟩ := x
 have htl := texts_len ns
 have hqt := quoT_ge t
 have hl' : bs.length + 5 + (quoT t).length + (ns.flatMap ldP).flatten.length + 2 ≤ 70000000000000 := by
  simp only [List.flatten_append, List.length_append, List.flatten_cons, List.flatten_nil, List.length_cons, List.length_nil] at hl; omega
 have hQ := Quote_ok t (by omega)
 have h1 := wput_ok v u a ha bs true true [[108, 111, 97, 100, 40], quoT t] [wsBx 4 t ns xk xn xt xs xm b e] (by simp) (by simp only [List.flatten_cons, List.flatten_nil, List.length_append, List.length_cons, List.length_nil]; omega) (by simp)
 exact callOk_introT (fun a w => Tryz.call43 a w) Tryz.func43 rfl Tryz.ntmps43 rfl fun B => by
  refine pa [.b false, .b false, .b false, .b true, .v (.str (quoT t)), .f (.tup []) (fun _ => wrH v (u + 2) (.ptr 0 v 0) (bs ++ [[108, 111, 97, 100, 40], quoT t].flatten) [wsBx 4 t ns xk xn xt xs xm b e])] rfl ?_ ?_
  ·(repeat' with_reducible apply AllP_cons) <;> first | exact aC | skip
   ·exact ⟨_, hQ, .cons (.refl .str) (.nil _)⟩
  refine S_while (α := Nat) (fun j => [(0, .ptr 0 v 0), (50, .sl true false 1 (texts ns)), (51, .int .i64 (ns.length : Nat)), (52, .int .i64 (j : Nat))]) (fun j => wrH v (u + 2 + ((ns.take j).flatMap ldP).length) (.ptr 0 v 0) (bs ++ [[108, 111, 97, 100, 40], quoT t].flatten ++ ((ns.take j).flatMap ldP).flatten) [wsBx 4 t ns xk xn xt xs xm b e])
   (fun j => j ≤ ns.length) (fun j => ns.length - j) 0 (Nat.zero_le _) (.cons rfl (.cons rfl (.cons (by show AV.int .i64 (((texts ns).length : Nat) : Int) = _; rw [htl]) (.cons rfl (.nil _))))) (by show wrH _ _ _ (bs ++ [[108, 111, 97, 100, 40], quoT t].flatten) _ = wrH _ _ _ (bs ++ [[108, 111, 97, 100, 40], quoT t].flatten ++ []) _; rw [List.append_nil]; rfl) ?_
  intro j hj
  have hj : j ≤ ns.length := hj
  by_cases hlt : j < ns.length
  ·have hel : (texts ns)[((j : Nat) : Int).toNat]? = some (.str ns[j]) := texts_get hlt
   have h1 := ld_take ns j hlt
   have h2 := ld_le ns (j + 1) hlt
   have hqn := quoT_ge ns[j]
   rw [h1, List.flatten_append, List.length_append] at h2
   have h2 : ((ns.take j).flatMap ldP).flatten.length + (2 + (quoT ns[j]).length) ≤ (ns.flatMap ldP).flatten.length := by
    simp only [ldP, List.flatten_cons, List.flatten_nil, List.length_append, List.length_cons, List.length_nil] at h2 ⊢; omega
   have hQ := Quote_ok ns[j] (by omega)
   have hw := wput_ok v (u + 2 + ((ns.take j).flatMap ldP).length) (.ptr 0 v 0) (.inr rfl) (bs ++ [[108, 111, 97, 100, 40], quoT t].flatten ++ ((ns.take j).flatMap ldP).flatten) true true [[44, 32], quoT ns[j]] [wsBx 4 t ns xk xn xt xs xm b e] (by simp) (by simp only [List.flatten_cons, List.flatten_nil, List.length_append, List.length_cons, List.length_nil]; omega) (by simp)
   refine pa [.b true, .v (.str ns[j]), .v (.str (quoT ns[j])), .f (.tup []) (fun _ => wrH v (u + 2 + ((ns.take j).flatMap ldP).length + 2) (.ptr 0 v 0) (bs ++ [[108, 111, 97, 100, 40], quoT t].flatten ++ ((ns.take j).flatMap ldP).flatten ++ [[44, 32], quoT ns[j]].flatten) [wsBx 4 t ns xk xn xt xs xm b e])] rfl ?_ ?_
   ·(repeat' with_reducible apply AllP_cons) <;> first | exact aC | skip
    ·exact ⟨_, hQ, .cons (.refl .str) (.nil _)⟩
   refine S_round (j + 1) (by show ns.length - (j + 1) < ns.length - j; omega) hlt (.cons rfl (.cons rfl (.cons rfl (.cons (by show AV.int .i64 (IntKind.i64.wrap (((j : Nat) : Int) + 1)) = .int .i64 ((j + 1 : Nat) : Int); exact ai64 rfl (by omega)) (.nil _))))) ?_
   rw [h1]
   show wrH v (u + 2 + ((ns.take j).flatMap ldP).length + 2) _ _ _ = wrH _ _ _ _ _
   rw [List.flatten_append, List.length_append, ← List.append_assoc]
   rfl
  ·obtain rfl : j = ns.length := by omega
   rw [List.take_length]
   have hw := wput1 v (u + 2 + (ns.flatMap ldP).length) (.ptr 0 v 0) (.inr rfl) (bs ++ [[108, 111, 97, 100, 40], quoT t].flatten ++ (ns.flatMap ldP).flatten) [41, 10] [wsBx 4 t ns xk xn xt xs xm b e] (by simp only [List.flatten_cons, List.flatten_nil, List.length_append, List.length_cons, List.length_nil]; omega)
   refine pa [.b false, .f (.tup []) (fun _ => wrH v (u + 2 + (ns.flatMap ldP).length + 1) (.ptr 0 v 0) (bs ++ [[108, 111, 97, 100, 40], quoT t].flatten ++ (ns.flatMap ldP).flatten ++ [41, 10]) [wsBx 4 t ns xk xn xt xs xm b e])] rfl ?_ ?_
   ·(repeat' with_reducible apply AllP_cons) <;> first | exact aC | skip
   exact S_nil ⟨_, _, rfl, trivial, wfinE (by simp only [List.length_append, List.length_cons, List.length_nil]; omega) (by simp)⟩
inductive AllJ (J : List (List UInt8) → Prop) : St → Prop
 | mk {k : Nat} {t : List UInt8} {ns : List (List UInt8)} {x : Ex} {b e : List St} (h1 : k = 6 → J ns) (h2 : ∀ s ∈ b, AllJ J s) (h3 : ∀ s ∈ e, AllJ J s) : AllJ J (.mk k t ns x b e)
theorem wst {J : List (List UInt8) → Prop} (HJ : ∀ ns, J ns → Calc cx 74 [.sl true false 1 (texts ns), .str [44, 32]] (.str (joinT ns))) {s : St} (h : Ws 800000 s) : AllJ J s → ∀ i, Wt WS s i (stW s i) := by
 induction h with
 | @mk k t ns x b e h1 h2 h3 h4 h5 h6 ihb ihe =>
  intro hj i
  cases hj with
  | mk hj1 hj2 hj3 =>
  match k, h6, hj1 with
  | 1, _, _ => exact wst1 t ns x b e i
  | 2, h6, _ => exact wst2 t ns x b e i _ (wex h6.2.2.1)
  | 3, h6, _ => exact wst3 t ns x b e i _ (wex h6.2.2.1)
  | 4, _, _ => exact wst4 t ns x b e i (by omega)
  | 5, h6, _ => exact wst5 t ns x b e i _ (wex h6.2.2.1)
  | 6, h6, hj1 => exact wst6 t ns x b e i (HJ ns (hj1 rfl)) (fun s hs => ihb s hs (hj2 s hs) _) (by omega)
  | 7, h6, _ =>
   by_cases he : e = []
   ·have := wst7a t ns x b e i _ (wex h6.2.2) he (fun s hs => ihb s hs (hj2 s hs) _) (by omega)
    subst he; exact this
   ·have hpos : 0 < e.length := List.length_pos_iff.2 he
    have := wst7b t ns x b e i _ (wex h6.2.2) hpos (fun s hs => ihb s hs (hj2 s hs) _) (by omega) (fun s hs => ihe s hs (hj3 s hs) _) (by omega)
    show Wt WS _ i ([[105, 102, 32]] ++ exW x ++ ([[58, 10]] ++ stWs b (i ++ tab4)) ++ (if e.length > 0 then [i, wElse] ++ ([[58, 10]] ++ stWs e (i ++ tab4)) else []))
    rw [if_pos hpos]; exact this
  | 8, h6, _ => exact wst8 t ns x b e i _ (wex h6.2.2.1) (fun s hs => ihb s hs (hj2 s hs) _) (by omega)
  | 0, h6, _ => exact h6.elim
  | k + 9, h6, _ => exact h6.elim
theorem Join_few (ns : List (List UInt8)) (h : ns.length ≤ 1) : Calc cx 74 [.sl true false 1 (texts ns), .str [44, 32]] (.str (joinT ns)) :=
 pure_intro (fun a w => Tryz.call74 a w) Tryz.func74 rfl Tryz.ntmps74 rfl .str fun B => by
  match ns, h with
  | [], _ =>
   refine pa [.b true] rfl ?_ ?_
   ·(repeat' with_reducible apply AllP_cons) <;> first | exact aC | skip
   exact S_retc .str rfl trivial rfl
  | [s], _ =>
   refine pa [.b false, .b true, .v (.str s)] rfl ?_ ?_
   ·(repeat' with_reducible apply AllP_cons) <;> first | exact aC | skip
   refine S_retc .str rfl trivial ?_
   show AV.str s = .str (s ++ [])
   rw [List.append_nil]
end Go.Proofs.YtonjhfeabphaaaaGreatDoor
end
section
set_option linter.unusedVariables false
set_option linter.unusedSimpArgs false
set_option maxRecDepth 20000
set_option maxHeartbeats 4000000
namespace Go.Proofs.YtonjhfeabphaaaaGreatDoor
open Go Go.Ab
def canonAV (x : List UInt8 × Flt) : AV := .tup [.str x.1, fltA x.2]
theorem canonAV_free (x : List UInt8 × Flt) : Free true (canonAV x) := .tup (by intro y hy; simp at hy; rcases hy with rfl | rfl; exact .str; exact flt_free _)
theorem stmts0_ok (a : AV) (i : List UInt8) (σ : Heap) : CallOk cx 32 [a, .sl true false 10 [], .str i] σ (fun o s => o = .ret (.tup []) ∧ s = σ) :=
 callOk_intro (fun a w => Tryz.call32 a w) Tryz.func32 rfl Tryz.ntmps32 rfl fun B => by
  refine pa [] rfl ?_ ?_
  ·(repeat' with_reducible apply AllP_cons) <;> first | exact aC | skip
  refine S_while (α := Unit) (fun _ => [(9, .int .i64 (0 : Nat)), (10, .int .i64 (0 : Nat))]) (fun _ => σ) (fun _ => True) (fun _ => 0) () trivial (.cons rfl (.cons rfl (.nil _))) rfl ?_
  rintro ⟨⟩ _
  refine pa [.b false] rfl ?_ ?_
  ·(repeat' with_reducible apply AllP_cons) <;> first | exact aC | skip
  exact S_nil ⟨_, _, rfl, trivial, rfl, rfl⟩
theorem stW_ne {s : St} (h : Ws 800000 s) (i : List UInt8) : (stW s i).flatten ≠ [] := by
 cases h with
 | @mk k t ns x b e h1 h2 h3 h4 h5 h6 =>
  match k, h6 with
  | 1, _ => exact fun h => by cases h
  | 2, _ => exact fun h => by cases h
  | 3, _ =>
   intro h
   have h : ([t, [32, 61, 32]] ++ exW x ++ [nl]).flatten = [] := h
   simp at h
  | 4, _ => exact fun h => by cases h
  | 5, _ =>
   intro h
   have h : (exW x ++ [nl]).flatten = [] := h
   simp [nl] at h
  | 6, _ => exact fun h => by cases h
  | 7, _ => exact fun h => by cases h
  | 8, _ => exact fun h => by cases h
  | 0, h6 => exact h6.elim
  | k + 9, h6 => exact h6.elim
theorem srcT_ne {l : List St} (h : ∀ x ∈ l, Ws 800000 x) (hl : l ≠ []) : srcT l ≠ [] := by
 match l, h, hl with
 | s :: r, h, _ =>
  have := stW_ne (h s (List.mem_cons_self ..)) []
  intro hc
  have hc : ([] :: (stW s [] ++ stWs r [])).flatten = [] := hc
  simp only [List.flatten_cons, List.nil_append, List.flatten_append, List.append_eq_nil_iff] at hc
  exact this hc.1
def wrQ (v u : Nat) (a : AV) (bs : List UInt8) : Heap := [(v, some (bBox 69 a (.ms 3 u 0 bs.length 1 false) [])), (u, some (byBox bs))]
theorem wrQ_rn (u : Nat) (bs : List UInt8) (a a' : AV) (ha : a = .nilp ∧ a' = .nilp ∨ a = .ptr 0 0 0 ∧ a' = .ptr 2 0 0) : RnH [2, 3] (wrH 0 u a bs []) (wrQ 0 u a' bs) := by
 have h : Rn [2, 3] a a' := by
  rcases ha with ⟨rfl, rfl⟩ | ⟨rfl, rfl⟩
  ·exact .free .nilp
  ·exact .ptr rfl
 exact .cons (.live (.cells (.cons h (.cons (.ms rfl) (.nil _))))) (.cons (.live (.cells (.free (bytes_fr bs)))) (.nil _))
theorem Canon_ok {J : List (List UInt8) → Prop} (HJ : ∀ ns, J ns → Calc cx 74 [.sl true false 1 (texts ns), .str [44, 32]] (.str (joinT ns))) (s : List UInt8) (hj : ∀ x ∈ (parseS s).1, AllJ J x) (hl : (srcT (parseS s).1).length ≤ 70000000000000) :
  Calc cx 16 [.str s] (canonAV (canonS s)) :=
 pure_intro (fun a w => Tryz.call16 a w) Tryz.func16 rfl Tryz.ntmps16 rfl (canonAV_free _) fun B => by
  have hP := Parse_ok s
  have hw := parseS_w s
  obtain ⟨Y, hY⟩ : ∃ Y, Y = canonS s := ⟨_, rfl⟩
  rw [← hY]
  unfold canonS at hY
  obtain ⟨l, e1, e2, hp⟩ : ∃ l e1 e2, parseS s = (l, (e1, e2)) := ⟨_, _, _, rfl⟩
  rw [hp] at hP hw hj hl hY
  have hw : l.length ≤ 800000 ∧ ∀ x ∈ l, Ws 800000 x := hw
  have hj : ∀ x ∈ l, AllJ J x := hj
  have hl : (srcT l).length ≤ 70000000000000 := hl
  have hY : Y = if e1 ≠ 0 then ([], (e1, e2)) else if 6000 < (srcT l).length ∨ (parseS (srcT l)).2.1 ≠ 0 then ([], (2, 0)) else (srcT l, (0, 0)) := hY
  by_cases h1 : e1 = 0
  ·subst h1
   rw [if_neg (by decide)] at hY
   obtain ⟨tx, ht⟩ : ∃ tx, tx = srcT l := ⟨_, rfl⟩
   rw [← ht] at hl hY
   have hP2 := Parse_ok tx
   obtain ⟨l2, f1, f2, hp2⟩ : ∃ l2 f1 f2, parseS tx = (l2, (f1, f2)) := ⟨_, _, _, rfl⟩
   rw [hp2] at hP2 hY
   have hY : Y = if 6000 < tx.length ∨ f1 ≠ 0 then ([], (2, 0)) else (tx, (0, 0)) := hY
   obtain ⟨l2f, hl2⟩ : ∃ z, z = AV.tup [stsA l2, .agg [.int .i64 (f1 : Nat), .int .i64 (f2 : Nat)]] := ⟨_, rfl⟩
   by_cases hn : l = []
   ·subst hn
    have ht : tx = [] := ht
    subst ht
    refine pa [.v (.tup [.sl true false 10 [], .agg [.int .i64 (0 : Nat), .int .i64 (e2 : Nat)]]), .b false, .k (.tup [])] rfl ?_ ?_
    ·(repeat' with_reducible apply AllP_cons) <;> first | exact aC | skip
     ·exact ⟨_, hP, .cons (.refl .str) (.nil _)⟩
     ·exact stmts0_ok (.ptr 2 0 0) [] _
    refine S_dead ?_ ⟨.skip, _, .inr ⟨_, _, _, rfl⟩⟩
    refine S_callf [2, 3] (string0_ok (T := 69) 0 0 .nilp) rfl (.cons (.ptr rfl) (.nil _)) (Part.mk' (es := [(0, some (bBox 69 .nilp .nils [])), (0, none)]) rfl rfl (.cons (.live (.cells (.cons (.free .nilp) (.cons (.free .nils) (.nil _))))) (.cons .dead (.nil _)))) rfl rfl ?_ (fun v σ1 h => by cases h.1)
    intro y σ1 h
    obtain ⟨h1, rfl⟩ := h
    cases h1
    refine ⟨.str [], [(0, some (bBox 69 .nilp .nils [])), (0, none)], .cons (.live (.cells (.cons (.free .nilp) (.cons (.free .nils) (.nil _))))) (.cons .dead (.nil _)), .free .str, ?_⟩
    obtain ⟨tx, htx⟩ : ∃ tx : List UInt8, tx = [] := ⟨_, rfl⟩
    rw [← htx] at hP2 hY ⊢
    by_cases h6 : 6000 < tx.length
    ·rw [if_pos (.inl h6)] at hY
     subst hY
     have e6 : decide (((tx.length : Nat) : Int) > 6000) = true := decide_eq_true (by omega)
     refine pa [.v (.tup [stsA l2, .agg [.int .i64 (f1 : Nat), .int .i64 (f2 : Nat)]]), .b true, .b true] rfl ?_ ?_
     ·(repeat' with_reducible apply AllP_cons) <;> first | exact aC | skip
      ·exact ⟨_, hP2, .cons (.refl .str) (.nil _)⟩
     subst htx; exact S_retc (canonAV_free ([], (2, 0))) rfl ⟨rfl, trivial⟩ rfl
    ·have e6 : decide (((tx.length : Nat) : Int) > 6000) = false := decide_eq_false (by omega)
     by_cases hf : f1 = 0
     ·rw [if_neg (by rintro (h | h); exact h6 h; exact h hf)] at hY
      subst hY
      subst hf
      refine pa [.v (.tup [stsA l2, .agg [.int .i64 (0 : Nat), .int .i64 (f2 : Nat)]]), .b false, .b false] rfl ?_ ?_
      ·(repeat' with_reducible apply AllP_cons) <;> first | exact aC | skip
       ·exact ⟨_, hP2, .cons (.refl .str) (.nil _)⟩
      exact S_retc (canonAV_free (tx, (0, 0))) rfl ⟨rfl, trivial⟩ rfl
     ·rw [if_pos (.inr hf)] at hY
      subst hY
      have ef : (((f1 : Nat) : Int) != 0) = true := bne_iff_ne.2 (by omega)
      refine pa [.v (.tup [stsA l2, .agg [.int .i64 (f1 : Nat), .int .i64 (f2 : Nat)]]), .b false, .b true] rfl ?_ ?_
      ·(repeat' with_reducible apply AllP_cons) <;> first | exact aC | skip
       ·exact ⟨_, hP2, .cons (.refl .str) (.nil _)⟩
      subst htx; exact S_retc (canonAV_free ([], (2, 0))) rfl ⟨rfl, trivial⟩ rfl
   ·have hst := wstmts l [] (fun s hs => wst HJ (hw.2 s hs) (hj s hs) _) (by omega) 0 0 .nilp [] (.inl rfl) (by rw [← show tx = (stWs l []).flatten from ht]; simpa using hl)
    have hlen0 : l.length ≠ 0 := fun h => hn (List.length_eq_zero_iff.1 h)
    rw [if_neg hlen0, ← show tx = (stWs l []).flatten from ht, List.nil_append] at hst
    obtain ⟨m, hm⟩ : ∃ m, m = 0 + (stWs l []).length := ⟨_, rfl⟩
    rw [← hm] at hst
    have hne : tx ≠ [] := by rw [ht]; exact srcT_ne hw.2 hn
    have hsr := string_ok (T := 69) (rest := []) 0 m (.ptr 0 0 0) tx hne (by omega)
    refine pa [.v (.tup [stsA l, .agg [.int .i64 (0 : Nat), .int .i64 (e2 : Nat)]]), .b false] rfl ?_ ?_
    ·(repeat' with_reducible apply AllP_cons) <;> first | exact aC | skip
     ·exact ⟨_, hP, .cons (.refl .str) (.nil _)⟩
    refine S_ghost (id := 2) (j := 1) 1 ⟨false, some 5⟩ rfl rfl rfl (Nat.ne_of_lt (lble rfl)) ⟨.skip, _, .inr ⟨_, _, _, rfl⟩⟩ ?_
    refine S_callf [2, 3] hst rfl (.cons (.ptr rfl) (.free (by intro y hy; simp at hy; rcases hy with rfl | rfl; exact stsA_free l; exact .str))) (Part.mk' (es := wrQ 0 0 .nilp []) rfl rfl (wrQ_rn 0 [] _ _ (.inl ⟨rfl, rfl⟩))) rfl rfl ?_ (fun v σ1 h => by cases h.1)
    intro y σ1 h
    obtain ⟨h1, rfl⟩ := h
    cases h1
    refine ⟨.tup [], wrQ 0 m (.ptr 2 0 0) tx, wrQ_rn m tx _ _ (.inr ⟨rfl, rfl⟩), .free (.tup (by simp)), ?_⟩
    refine pa [] rfl ?_ ?_
    ·(repeat' with_reducible apply AllP_cons) <;> first | exact aC | skip
    refine S_callf [2, 3] hsr rfl (.cons (.ptr rfl) (.nil _)) (Part.mk' (es := wrQ 0 m (.ptr 2 0 0) tx) rfl rfl (wrQ_rn m tx _ _ (.inr ⟨rfl, rfl⟩))) rfl rfl ?_ (fun v σ1 h => by cases h.1)
    intro y σ1 h
    obtain ⟨h1, rfl⟩ := h
    cases h1
    refine ⟨.str tx, [(0, some (bBox 69 (.ptr 2 0 0) (.ms 3 m 0 tx.length 1 false) [])), (m, none)], .cons (.live (.cells (.cons (.ptr rfl) (.cons (.ms rfl) (.nil _))))) (.cons .dead (.nil _)), .free .str, ?_⟩
    by_cases h6 : 6000 < tx.length
    ·rw [if_pos (.inl h6)] at hY
     subst hY
     have e6 : decide (((tx.length : Nat) : Int) > 6000) = true := decide_eq_true (by omega)
     refine pa [.v (.tup [stsA l2, .agg [.int .i64 (f1 : Nat), .int .i64 (f2 : Nat)]]), .b true, .b true] rfl ?_ ?_
     ·(repeat' with_reducible apply AllP_cons) <;> first | exact aC | skip
      ·exact ⟨_, hP2, .cons (.refl .str) (.nil _)⟩
     exact S_retc (canonAV_free ([], (2, 0))) rfl ⟨rfl, trivial⟩ rfl
    ·have e6 : decide (((tx.length : Nat) : Int) > 6000) = false := decide_eq_false (by omega)
     by_cases hf : f1 = 0
     ·rw [if_neg (by rintro (h | h); exact h6 h; exact h hf)] at hY
      subst hY
      subst hf
      refine pa [.v (.tup [stsA l2, .agg [.int .i64 (0 : Nat), .int .i64 (f2 : Nat)]]), .b false, .b false] rfl ?_ ?_
      ·(repeat' with_reducible apply AllP_cons) <;> first | exact aC | skip
       ·exact ⟨_, hP2, .cons (.refl .str) (.nil _)⟩
      exact S_retc (canonAV_free (tx, (0, 0))) rfl ⟨rfl, trivial⟩ rfl
     ·rw [if_pos (.inr hf)] at hY
      subst hY
      have ef : (((f1 : Nat) : Int) != 0) = true := bne_iff_ne.2 (by omega)
      refine pa [.v (.tup [stsA l2, .agg [.int .i64 (f1 : Nat), .int .i64 (f2 : Nat)]]), .b false, .b true] rfl ?_ ?_
      ·(repeat' with_reducible apply AllP_cons) <;> first | exact aC | skip
       ·exact ⟨_, hP2, .cons (.refl .str) (.nil _)⟩
      exact S_retc (canonAV_free ([], (2, 0))) rfl ⟨rfl, trivial⟩ rfl
  ·have e0 : (((e1 : Nat) : Int) != 0) = true := bne_iff_ne.2 (by omega)
   rw [if_pos h1] at hY
   subst hY
   refine pa [.v (.tup [stsA l, .agg [.int .i64 (e1 : Nat), .int .i64 (e2 : Nat)]]), .b true] rfl ?_ ?_
   ·(repeat' with_reducible apply AllP_cons) <;> first | exact aC | skip
    ·exact ⟨_, hP, .cons (.refl .str) (.nil _)⟩
   exact S_retc (canonAV_free ([], (e1, e2))) rfl ⟨rfl, trivial⟩ rfl
end Go.Proofs.YtonjhfeabphaaaaGreatDoor
end
section
set_option linter.unusedVariables false
set_option linter.unusedSimpArgs false
set_option maxRecDepth 20000
namespace Go.Proofs.YtonjhfeabphaaaaGreatDoor
open Go Go.Ab
theorem SameTexts_ok {st st' fl fl' : Bool} (a b : List (List UInt8)) (hl : a.length ≤ 9223372036854775806) (hb : b.length ≤ 9223372036854775807) : Calc cx 27 [.sl st fl 1 (texts a), .sl st' fl' 1 (texts b)] (.bool (a == b)) :=
 pure_intro (fun a w => Tryz.call27 a w) Tryz.func27 rfl Tryz.ntmps27 rfl .bool fun B => by
  refine ab 1000 rfl trivial ?_
  refine S_bne rfl (fun h => ?_) (fun h => ?_)
  ·refine ab 1000 rfl trivial ?_
   refine S_retc .bool rfl trivial ?_
   have hne : a ≠ b := by
    intro e; subst e; exact h rfl
   rw [show (a == b) = false by simpa using hne]; rfl
  ·have hlen : a.length = b.length := by simp [texts] at h; omega
   refine ab 1000 rfl trivial ?_
   refine S_while (α := Nat) (fun i => [(0, .sl st fl 1 (texts a)), (1, .sl st' fl' 1 (texts b)), (5, .int .i64 i)]) (fun _ => []) (fun i => i ≤ a.length ∧ a.take i = b.take i) (fun i => a.length - i) 0
    ⟨by simp, by simp⟩ (.cons rfl (.cons rfl (.cons rfl (.nil _)))) rfl ?_
   rintro i ⟨hi, hN⟩
   refine ab 1000 rfl trivial ?_
   refine S_dec rfl (fun h => ?_) (fun h => ?_)
   ·have hil : i < a.length := by simp [texts] at h; omega
    have hil' : i < b.length := by omega
    refine ab 1000 rfl trivial ?_
    refine S_draw 9 [] [.str a[i], .str b[i]] rfl rfl rfl rfl ⟨rfl, rfl, rfl, by omega, by simp [texts, List.getElem?_eq_getElem hil], rfl, rfl, rfl, rfl, by omega, by simp [texts, List.getElem?_eq_getElem hil'], rfl, rfl, trivial⟩ ?_
    refine ab 1000 rfl trivial ?_
    refine S_cond rfl (fun h => ?_) (fun h => ?_)
    ·have hne : a[i] ≠ b[i] := by simpa using h
     refine ab 1000 rfl trivial ?_
     refine S_retc .bool rfl trivial ?_
     have hne : a ≠ b := by
      intro e; subst e; exact hne rfl
     rw [show (a == b) = false by simpa using hne]; rfl
    ·have he : a[i] = b[i] := by simpa using h
     refine ab 1000 rfl trivial ?_
     refine S_round (i + 1) (by show a.length - (i + 1) < a.length - i; omega) ⟨hil, ?_⟩ (.cons rfl (.cons rfl (.cons (ai64 rfl (by omega)) (.nil _)))) rfl
     rw [List.take_succ_eq_append_getElem hil, List.take_succ_eq_append_getElem hil', hN, he]
   ·have hil : i = a.length := by simp [texts] at h; omega
    refine ab 1000 rfl trivial ?_
    refine S_retc .bool rfl trivial ?_
    have he : a = b := by
     rw [← List.take_of_length_le (l := a) (i := i) (by omega), ← List.take_of_length_le (l := b) (i := i) (by omega)]; exact hN
    rw [show (a == b) = true by simpa using he]; rfl
end Go.Proofs.YtonjhfeabphaaaaGreatDoor
end
section
set_option linter.unusedVariables false
set_option linter.unusedSimpArgs false
set_option maxRecDepth 20000
set_option maxHeartbeats 4000000
namespace Go.Proofs.YtonjhfeabphaaaaGreatDoor
open Go Go.Ab
theorem SameTextsE_ok {st st' fl fl' : Bool} (a : List (List UInt8)) (hl : a.length ≤ 800000) : Calc cx 27 [.sl st fl 1 (texts a), .sl st' fl' 1 (texts a)] (.bool true) := by
 have := SameTexts_ok (st := st) (st' := st') (fl := fl) (fl' := fl') a a (by omega) (by omega)
 rwa [beq_self_eq_true] at this
def SamK (x : Ex) : Prop := match x with
 | .mk k n t ks ns => ns.length ≤ 800000 ∧ Calc cx 28 [.sl true false 5 (exL ks), .sl true false 5 (exL ks)] (.bool true)
theorem sameL {st st' fl fl' : Bool} (l : List Ex) (h : ∀ x ∈ l, SamK x) (hl : l.length ≤ 800000) : Calc cx 28 [.sl st fl 5 (exL l), .sl st' fl' 5 (exL l)] (.bool true) :=
 pure_intro (fun a w => Tryz.call28 a w) Tryz.func28 rfl Tryz.ntmps28 rfl .bool fun B => by
  have hll : (exL l).length = l.length := by rw [exL_map]; simp
  refine pa [.b false] rfl ?_ ?_
  ·(repeat' with_reducible apply AllP_cons) <;> first | exact aC | skip
   ·exact bne_self_eq_false _
  refine S_while (α := Nat) (fun i => [(0, .sl st fl 5 (exL l)), (1, .sl st' fl' 5 (exL l)), (5, .int .i64 (i : Nat))]) (fun _ => []) (fun i => i ≤ l.length) (fun i => l.length - i) 0
   (Nat.zero_le _) (.cons rfl (.cons rfl (.cons rfl (.nil _)))) rfl ?_
  intro i hi
  have hi : i ≤ l.length := hi
  by_cases hlt : i < l.length
  ·obtain ⟨y, hy⟩ : ∃ y, l[i] = y := ⟨_, rfl⟩
   have he : (exL l)[((i : Nat) : Int).toNat]? = some (exA y) := by
    subst hy
    rw [exL_map, List.getElem?_map, Int.toNat_natCast, List.getElem?_eq_getElem hlt]; rfl
   have hm := h _ (List.getElem_mem hlt)
   rw [hy] at hm
   obtain ⟨k, n, t, ks, ns⟩ := y
   obtain ⟨hn, hk⟩ := hm
   have hn := SameTextsE_ok (st := true) (st' := true) (fl := false) (fl' := false) ns hn
   have e0 : decide (((i : Nat) : Int) < (((exL l).length : Nat) : Int)) = true := decide_eq_true (by omega)
   refine pa [.b true, .v (exA (.mk k n t ks ns)), .v (exA (.mk k n t ks ns)), .b false, .v (exA (.mk k n t ks ns)), .v (exA (.mk k n t ks ns)), .b false, .v (exA (.mk k n t ks ns)), .v (exA (.mk k n t ks ns)), .b false,
    .v (exA (.mk k n t ks ns)), .v (exA (.mk k n t ks ns)), .v (.bool true), .b false, .v (exA (.mk k n t ks ns)), .v (exA (.mk k n t ks ns)), .v (.bool true), .b false] rfl ?_ ?_
   ·(repeat' with_reducible apply AllP_cons) <;> first | exact aC | skip
    ·exact bne_self_eq_false _
    ·exact bne_self_eq_false _
    ·simp
    ·exact ⟨_, hn, .cons (.refl (.sl (fun h => by cases h) (textsF ns))) (.cons (.refl (.sl (fun h => by cases h) (textsF ns))) (.nil _))⟩
    ·exact ⟨_, hk, .cons (.refl (.sl (fun h => by cases h) (exL_free ks))) (.cons (.refl (.sl (fun h => by cases h) (exL_free ks))) (.nil _))⟩
   refine S_round (i + 1) (by show l.length - (i + 1) < l.length - i; omega) hlt (.cons rfl (.cons rfl (.cons (ai64 rfl (by omega)) (.nil _)))) rfl
  ·have e0 : decide (((i : Nat) : Int) < (((exL l).length : Nat) : Int)) = false := decide_eq_false (by omega)
   refine pa [.b false] rfl ?_ ?_
   ·(repeat' with_reducible apply AllP_cons) <;> first | exact aC | skip
   exact S_retc .bool rfl trivial rfl
theorem samK {x : Ex} (h : Wx 800000 x) : SamK x := by
 induction h with
 | mk h1 h2 h3 h4 ih => exact ⟨h2, sameL _ ih h1⟩
def SamS (x : St) : Prop := match x with
 | .mk k t ns x b e => ns.length ≤ 800000 ∧ SamK x ∧ Calc cx 13 [.sl true false 10 (stL b), .sl true false 10 (stL b)] (.bool true) ∧ Calc cx 13 [.sl true false 10 (stL e), .sl true false 10 (stL e)] (.bool true)
theorem sameS {st st' fl fl' : Bool} (l : List St) (h : ∀ x ∈ l, SamS x) (hl : l.length ≤ 800000) : Calc cx 13 [.sl st fl 10 (stL l), .sl st' fl' 10 (stL l)] (.bool true) :=
 pure_intro (fun a w => Tryz.call13 a w) Tryz.func13 rfl Tryz.ntmps13 rfl .bool fun B => by
  have hll : (stL l).length = l.length := stL_len l
  refine pa [.b false] rfl ?_ ?_
  ·(repeat' with_reducible apply AllP_cons) <;> first | exact aC | skip
   ·exact bne_self_eq_false _
  refine S_while (α := Nat) (fun i => [(0, .sl st fl 10 (stL l)), (1, .sl st' fl' 10 (stL l)), (5, .int .i64 (i : Nat))]) (fun _ => []) (fun i => i ≤ l.length) (fun i => l.length - i) 0
   (Nat.zero_le _) (.cons rfl (.cons rfl (.cons rfl (.nil _)))) rfl ?_
  intro i hi
  have hi : i ≤ l.length := hi
  by_cases hlt : i < l.length
  ·obtain ⟨y, hy⟩ : ∃ y, l[i] = y := ⟨_, rfl⟩
   have he : (stL l)[((i : Nat) : Int).toNat]? = some (stA y) := by
    subst hy
    rw [stL_map, List.getElem?_map, Int.toNat_natCast, List.getElem?_eq_getElem hlt]; rfl
   have hm := h _ (List.getElem_mem hlt)
   rw [hy] at hm
   obtain ⟨k, t, ns, x, b, e⟩ := y
   obtain ⟨hn, hx, hb, hq⟩ := hm
   have hn := SameTextsE_ok (st := true) (st' := true) (fl := false) (fl' := false) ns hn
   have hx := sameL (st := true) (st' := true) (fl := true) (fl' := true) [x] (by intro y hy; rw [List.mem_singleton] at hy; rw [hy]; exact hx) (by simp)
   obtain ⟨xk, xn, xt, xs, xm⟩ := x
   have e0 : decide (((i : Nat) : Int) < (((stL l).length : Nat) : Int)) = true := decide_eq_true (by omega)
   refine pa [.b true, .v (stA (.mk k t ns (.mk xk xn xt xs xm) b e)), .v (stA (.mk k t ns (.mk xk xn xt xs xm) b e)), .b false, .v (stA (.mk k t ns (.mk xk xn xt xs xm) b e)), .v (stA (.mk k t ns (.mk xk xn xt xs xm) b e)), .b false, .v (stA (.mk k t ns (.mk xk xn xt xs xm) b e)), .v (stA (.mk k t ns (.mk xk xn xt xs xm) b e)), .v (.bool true), .b false,
    .v (stA (.mk k t ns (.mk xk xn xt xs xm) b e)), .v (stA (.mk k t ns (.mk xk xn xt xs xm) b e)), .v (.bool true), .b false, .v (stA (.mk k t ns (.mk xk xn xt xs xm) b e)), .v (stA (.mk k t ns (.mk xk xn xt xs xm) b e)), .v (.bool true), .b false, .v (stA (.mk k t ns (.mk xk xn xt xs xm) b e)), .v (stA (.mk k t ns (.mk xk xn xt xs xm) b e)), .v (.bool true), .b false] rfl ?_ ?_
   ·(repeat' with_reducible apply AllP_cons) <;> first | exact aC | skip
    ·exact bne_self_eq_false _
    ·simp
    ·exact ⟨_, hn, .cons (.refl (.sl (fun h => by cases h) (textsF ns))) (.cons (.refl (.sl (fun h => by cases h) (textsF ns))) (.nil _))⟩
    ·exact ⟨_, hx, .cons (.refl (.sl (fun h => by cases h) (exL_free [.mk xk xn xt xs xm]))) (.cons (.refl (.sl (fun h => by cases h) (exL_free [.mk xk xn xt xs xm]))) (.nil _))⟩
    ·exact ⟨_, hb, .cons (.refl (.sl (fun h => by cases h) (stL_free b))) (.cons (.refl (.sl (fun h => by cases h) (stL_free b))) (.nil _))⟩
    ·exact ⟨_, hq, .cons (.refl (.sl (fun h => by cases h) (stL_free e))) (.cons (.refl (.sl (fun h => by cases h) (stL_free e))) (.nil _))⟩
   refine S_round (i + 1) (by show l.length - (i + 1) < l.length - i; omega) hlt (.cons rfl (.cons rfl (.cons (ai64 rfl (by omega)) (.nil _)))) rfl
  ·have e0 : decide (((i : Nat) : Int) < (((stL l).length : Nat) : Int)) = false := decide_eq_false (by omega)
   refine pa [.b false] rfl ?_ ?_
   ·(repeat' with_reducible apply AllP_cons) <;> first | exact aC | skip
   exact S_retc .bool rfl trivial rfl
theorem samZ : SamK .zero := ⟨Nat.zero_le _, sameL [] (by nofun) (Nat.zero_le _)⟩
theorem shs_samK {k : Nat} {t : List UInt8} {ns : List (List UInt8)} {x : Ex} {b e : List St} (h6 : shs 800000 k t ns x b e) : SamK x := by
 match k, h6 with
 | 1, h => rw [h.2.2.1]; exact samZ
 | 2, h => exact samK h.2.2.1
 | 3, h => exact samK h.2.2.1
 | 4, h => rw [h.2.2.1]; exact samZ
 | 5, h => exact samK h.2.2.1
 | 6, h => rw [h.2.2.1]; exact samZ
 | 7, h => exact samK h.2.2
 | 8, h => exact samK h.2.2.1
 | 0, h => exact h.elim
 | k + 9, h => exact h.elim
theorem samS {x : St} (h : Ws 800000 x) : SamS x := by
 induction h with
 | mk h1 h2 h3 h4 h5 h6 ihb ihe => exact ⟨h1, shs_samK h6, sameS _ ihb h2, sameS _ ihe h3⟩
theorem SameStmts_same {st st' fl fl' : Bool} (s : List UInt8) : Calc cx 13 [.sl st fl 10 (stL (parseS s).1), .sl st' fl' 10 (stL (parseS s).1)] (.bool true) :=
 have h := parseS_w s
 sameS _ (fun x hx => samS (h.2 x hx)) h.1
end Go.Proofs.YtonjhfeabphaaaaGreatDoor
end
section
set_option linter.unusedVariables false
set_option linter.unusedSimpArgs false
set_option maxRecDepth 20000
namespace Go.Proofs.YtonjhfeabphaaaaGreatDoor
open Go Go.Ab
structure Rd where
 r : List Tok
 f : Flt
def Rd.bad (q : Rd) : Bool := q.f.1 != 0
def Rd.next (q : Rd) : Rd := ⟨q.r.tail, q.f⟩
def failR (e k : Nat) (q : Rd) : Rd := if q.bad then q else ⟨q.r, (k, placeS e q.r)⟩
def lkK (q : Rd) : Nat := if q.bad then 0 else hdK q.r
def lkT (q : Rd) : List UInt8 := if q.bad then [] else hdT q.r
def lkK1 (q : Rd) : Nat := if q.bad then 0 else hdK q.r.tail
def lkT1 (q : Rd) : List UInt8 := if q.bad then [] else hdT q.r.tail
def isR (l : List (List UInt8)) (q : Rd) : Bool := (lkK q == 4 || lkK q == 5) && l.contains (lkT q)
def signR (e : Nat) (s : List UInt8) (q : Rd) : Rd := if isR [s] q then q.next else failR e 1 q
def kindR (e k : Nat) (q : Rd) : List UInt8 × Rd := if lkK q = k then (lkT q, q.next) else ([], failR e 1 q)
def inR (e n : Nat) (q : Rd) : Rd := if n = 30 then failR e 2 q else q
def nameR (q : Rd) : Bool := lkK q == 1 && lkK1 q == 4 && lkT1 q == [61]
def wd (q : Rd) : List UInt8 := if lkK q = 5 then lkT q else []
def atomW (t : List UInt8) : Nat := if t == wFalse then 3 else if t == wTrue then 2 else 1
mutual
def exprR (e : Nat) : Nat → Nat → Rd → Option (Ex × Rd)
 | 0, _, q => if q.bad then some (.zero, q) else none
 | F + 1, n, q => levR e F 0 (n + 1) (inR e n q)
 termination_by structural F _ _ => F
def levR (e : Nat) : Nat → Nat → Nat → Rd → Option (Ex × Rd)
 | 0, _, _, q => if q.bad then some (.zero, q) else none
 | F + 1, k, n, q => if q.bad then some (.zero, q) else match k with
  | 2 => if isR [wNot] q then (levR e F 2 (n + 1) (inR e n q.next)).bind fun x => some (.mk 12 0 [] [x.1] [], x.2)
   else (levR e F 3 n q).bind fun x => if isR (binS 2) x.2 then (levR e F 3 n x.2.next).bind fun y => some (binE (lkT x.2) x.1 y.1, y.2) else some x
  | 5 => if isR [[45]] q then (levR e F 5 (n + 1) (inR e n q.next)).bind fun x => some (.mk 13 0 [] [x.1] [], x.2)
   else postA e F n q
  | k => (levR e F (k + 1) n q).bind fun x => loopR e F k n x.1 x.2
 termination_by structural F _ _ _ => F
def loopR (e : Nat) : Nat → Nat → Nat → Ex → Rd → Option (Ex × Rd)
 | 0, _, _, x, q => if q.bad then some (x, q) else none
 | F + 1, k, n, x, q => if isR (binS k) q then (levR e F (k + 1) n q.next).bind fun y => loopR e F k n (binE (lkT q) x y.1) y.2 else some (x, q)
 termination_by structural F _ _ _ _ => F
def postA (e : Nat) : Nat → Nat → Rd → Option (Ex × Rd)
 | 0, _, _ => none
 | F + 1, n, q => (atomR e F n q).bind fun x => postR e F n x.1 x.2
 termination_by structural F _ _ => F
def postR (e : Nat) : Nat → Nat → Ex → Rd → Option (Ex × Rd)
 | 0, _, x, q => if q.bad then some (x, q) else none
 | F + 1, n, x, q => if q.bad then some (x, q)
  else if isR [[91]] q then (exprR e F n q.next).bind fun y => postR e F n (.mk 11 0 [] [x, y.1] []) (signR e [93] y.2)
  else if isR [[40]] q then (callR e F n [x] [] q.next).bind fun y => postR e F n y.1 y.2
  else some (x, q)
 termination_by structural F _ _ _ => F
def callR (e : Nat) : Nat → Nat → List Ex → List (List UInt8) → Rd → Option (Ex × Rd)
 | 0, _, ks, ns, q => if q.bad then some (.mk 10 0 [] ks ns, q) else none
 | F + 1, n, ks, ns, q => if q.bad then some (.mk 10 0 [] ks ns, q)
  else if isR [[41]] q then some (.mk 10 0 [] ks ns, q.next)
  else callG e F n ks ns (if ks.length > 1 then signR e [44] q else q)
 termination_by structural F _ _ _ _ => F
def callG (e : Nat) : Nat → Nat → List Ex → List (List UInt8) → Rd → Option (Ex × Rd)
 | 0, _, _, _, _ => none
 | F + 1, n, ks, ns, q => if nameR q then (exprR e F n (if ns.contains (lkT q) then failR e 6 q else q).next.next).bind fun y => callR e F n (ks ++ [y.1]) (ns ++ [lkT q]) y.2
  else (exprR e F n (if ns.length > 0 then failR e 1 q else q)).bind fun y => callR e F n (ks ++ [y.1]) ns y.2
 termination_by structural F _ _ _ _ => F
def atomR (e : Nat) : Nat → Nat → Rd → Option (Ex × Rd)
 | 0, _, _ => none
 | F + 1, n, q =>
  if lkK q = 1 then some (.mk 6 0 (lkT q) [] [], q.next)
  else if lkK q = 2 then some (.mk 4 ((q.r.head?.map Tok.num).getD 0) [] [] [], q.next)
  else if lkK q = 3 then some (.mk 5 0 (lkT q) [] [], q.next)
  else if isR [wNone, wTrue, wFalse] q then some (.mk (atomW (lkT q)) 0 [] [] [], q.next)
  else if isR [[40]] q then (exprR e F n q.next).bind fun x => some (x.1, signR e [41] x.2)
  else if isR [[91]] q then listR e F n 7 [] [] q.next
  else if isR [[123]] q then dictR e F n [] q.next
  else some (.zero, failR e 1 q)
 termination_by structural F _ _ => F
def listR (e : Nat) : Nat → Nat → Nat → List UInt8 → List Ex → Rd → Option (Ex × Rd)
 | 0, _, kd, tx, ks, q => if q.bad then some (.mk kd 0 tx ks [], q) else none
 | F + 1, n, kd, tx, ks, q => if q.bad then some (.mk kd 0 tx ks [], q)
  else if isR [[93]] q then some (.mk kd 0 tx ks [], signR e [93] q)
  else if ks.length = 1 ∧ isR [wFor] q = true then eachR e F n ks (kindR e 1 q.next).1 (signR e wIn (kindR e 1 q.next).2)
  else (exprR e F n (if ks.length > 0 then signR e [44] q else q)).bind fun y => listR e F n kd tx (ks ++ [y.1]) y.2
 termination_by structural F _ _ _ _ _ => F
def eachR (e : Nat) : Nat → Nat → List Ex → List UInt8 → Rd → Option (Ex × Rd)
 | 0, _, _, _, _ => none
 | F + 1, n, ks, t, q => (exprR e F n q).bind fun y => if isR [wIf] y.2 then (exprR e F n y.2.next).bind fun z => some (.mk 9 0 t (ks ++ [y.1] ++ [z.1]) [], signR e [93] z.2)
  else some (.mk 9 0 t (ks ++ [y.1]) [], signR e [93] y.2)
 termination_by structural F _ _ _ _ => F
def dictR (e : Nat) : Nat → Nat → List Ex → Rd → Option (Ex × Rd)
 | 0, _, ks, q => if q.bad then some (.mk 8 0 [] ks [], q) else none
 | F + 1, n, ks, q => if q.bad then some (.mk 8 0 [] ks [], q)
  else if isR [[125]] q then some (.mk 8 0 [] ks [], signR e [125] q)
  else (exprR e F n (if ks.length > 0 then signR e [44] q else q)).bind fun y => (exprR e F n (signR e [58] y.2)).bind fun z => dictR e F n (ks ++ [y.1] ++ [z.1]) z.2
 termination_by structural F _ _ _ => F
end
def paramR (e : Nat) : Nat → List (List UInt8) → Rd → Option (List (List UInt8) × Rd)
 | 0, ns, q => if q.bad then some (ns, q) else none
 | F + 1, ns, q => if q.bad then some (ns, q)
  else if ns.length = 0 ∧ lkK q ≠ 1 then some (ns, q)
  else let x := kindR e 1 (if lkK q = 1 ∧ ns.contains (lkT q) = true then failR e 6 q else q)
   if isR [[44]] x.2 then paramR e F (ns ++ [x.1]) x.2.next else some (ns ++ [x.1], x.2)
def namesR (e : Nat) : Nat → List (List UInt8) → Rd → Option (List (List UInt8) × Rd)
 | 0, ns, q => if q.bad then some (ns, q) else none
 | F + 1, ns, q => if q.bad then some (ns, q)
  else let x := kindR e 3 (if lkK q = 3 ∧ isNm (lkT q) = false then failR e 1 q else q)
   if isR [[44]] x.2 then namesR e F (ns ++ [x.1]) x.2.next else some (ns ++ [x.1], x.2)
def loadR (e F b : Nat) (q : Rd) : Option (St × Rd) :=
 let x := kindR e 3 (signR e [40] (signR e wLoad (if b > 0 then failR e 4 q else q)))
 (namesR e F [] (signR e [44] x.2)).bind fun y => some (.mk 4 x.1 y.1 .zero [] [], signR e [41] y.2)
def smallR (e F d : Nat) (b : Nat) (q : Rd) : Option (St × Rd) :=
 if wd q = wPass then some (.mk 1 [] [] .zero [] [], q.next)
 else if wd q = wReturn then
  let p := (if d = 0 then failR e 4 q else q).next
  if lkK p ≠ 6 then (exprR e F 0 p).bind fun x => some (.mk 2 [] [] x.1 [] [], x.2) else some (.mk 2 [] [] (.mk 1 0 [] [] []) [] [], p)
 else if wd q = wLoad then loadR e F b q
 else if nameR q then
  let x := kindR e 1 q
  (exprR e F 0 (signR e [61] x.2)).bind fun y => some (.mk 3 x.1 [] y.1 [] [], y.2)
 else (exprR e F 0 q).bind fun x => some (.mk 5 [] [] x.1 [] [], x.2)
mutual
def stmtsR (e : Nat) : Nat → Nat → Nat → List St → Rd → Option (List St × Rd)
 | 0, _, _, l, q => if lkK q = 0 ∨ lkK q = 8 then some (l, q) else none
 | F + 1, b, d, l, q => if lkK q = 0 ∨ lkK q = 8 then some (l, q) else (stmtR e F b d q).bind fun s => stmtsR e F b d (l ++ [s.1]) s.2
 termination_by structural F _ _ _ _ => F
def blockR (e : Nat) : Nat → Nat → Nat → Rd → Option (List St × Rd)
 | 0, _, _, q => if q.bad then some ([], q) else none
 | F + 1, b, d, q => (stmtsR e F (b + 1) d [] (kindR e 7 (kindR e 6 (signR e [58] q)).2).2).bind fun l => some (l.1, (kindR e 8 l.2).2)
 termination_by structural F _ _ _ => F
def defR (e : Nat) : Nat → Nat → Nat → Rd → Option (St × Rd)
 | 0, _, _, _ => none
 | F + 1, b, d, q =>
  let x := kindR e 1 (signR e wDef (if b > 0 then failR e 4 q else q))
  (paramR e F [] (signR e [40] x.2)).bind fun ns => (blockR e F b (d + 1) (signR e [41] ns.2)).bind fun l => some (.mk 6 x.1 ns.1 .zero l.1 [], l.2)
 termination_by structural F _ _ _ => F
def stmtR (e : Nat) : Nat → Nat → Nat → Rd → Option (St × Rd)
 | 0, _, _, _ => none
 | F + 1, b, d, q =>
  if wd q = wDef then defR e F b d q
  else if wd q = wIf then (exprR e F 0 q.next).bind fun x => (blockR e F b d x.2).bind fun l => if isR [wElse] l.2 then (blockR e F b d l.2.next).bind fun m => some (.mk 7 [] [] x.1 l.1 m.1, m.2) else some (.mk 7 [] [] x.1 l.1 [], l.2)
  else if wd q = wFor then
   let t := kindR e 1 q.next
   (exprR e F 0 (signR e wIn t.2)).bind fun x => (blockR e F b d x.2).bind fun l => some (.mk 8 t.1 [] x.1 l.1 [], l.2)
  else (smallR e F d b q).bind fun s => some (s.1, (kindR e 6 s.2).2)
 termination_by structural F _ _ _ => F
end
def parseR (F : Nat) (s : List UInt8) : Option (List St × Flt) := match splitS s with
 | (l, f) => if f.1 ≠ 0 then some ([], f) else (stmtsR s.length F 0 0 [] ⟨l, (0, 0)⟩).bind fun x =>
  let q := if x.2.r.isEmpty then x.2 else failR s.length 1 x.2
  if q.bad then some ([], q.f) else some (x.1, (0, 0))
end Go.Proofs.YtonjhfeabphaaaaGreatDoor
end
section
set_option linter.unusedVariables false
set_option linter.unusedSimpArgs false
set_option maxRecDepth 20000
namespace Go.Proofs.YtonjhfeabphaaaaGreatDoor
open Go Go.Ab
theorem Rd.bad_of {r : List Tok} {k p : Nat} (h : k ≠ 0) : (⟨r, (k, p)⟩ : Rd).bad = true := bne_iff_ne.2 h
theorem failR_bad {e k : Nat} {q : Rd} (h : q.bad = true) : failR e k q = q := by unfold failR; rw [if_pos h]
theorem lkK_bad {q : Rd} (h : q.bad = true) : lkK q = 0 := by unfold lkK; rw [if_pos h]
theorem isR_bad {l : List (List UInt8)} {q : Rd} (h : q.bad = true) : isR l q = false := by unfold isR; rw [lkK_bad h]; rfl
theorem signR_bad {e : Nat} {s : List UInt8} {q : Rd} (h : q.bad = true) : signR e s q = q := by unfold signR; rw [isR_bad h, failR_bad h]; rfl
theorem kindR_bad {e k : Nat} {q : Rd} (h : q.bad = true) (hk : k ≠ 0) : kindR e k q = ([], q) := by unfold kindR; rw [lkK_bad h, if_neg (by omega), failR_bad h]
theorem inR_bad {e n : Nat} {q : Rd} (h : q.bad = true) : inR e n q = q := by unfold inR; rw [failR_bad h]; split <;> rfl
theorem nameR_bad {q : Rd} (h : q.bad = true) : nameR q = false := by unfold nameR; rw [lkK_bad h]; rfl
theorem levR_bad {e : Nat} : ∀ {F k n : Nat} {q : Rd}, q.bad = true → levR e F k n q = some (.zero, q)
 | 0, _, _, _, h => if_pos h
 | F + 1, _, _, _, h => by unfold levR; rw [if_pos h]
theorem exprR_bad {e : Nat} : ∀ {F n : Nat} {q : Rd}, q.bad = true → exprR e F n q = some (.zero, q)
 | 0, _, _, h => if_pos h
 | F + 1, n, q, h => by unfold exprR; rw [inR_bad h, levR_bad h]
theorem loopR_bad {e : Nat} : ∀ {F k n : Nat} {x : Ex} {q : Rd}, q.bad = true → loopR e F k n x q = some (x, q)
 | 0, _, _, _, _, h => if_pos h
 | F + 1, _, _, _, _, h => by unfold loopR; rw [isR_bad h]; rfl
theorem postR_bad {e : Nat} : ∀ {F n : Nat} {x : Ex} {q : Rd}, q.bad = true → postR e F n x q = some (x, q)
 | 0, _, _, _, h => if_pos h
 | F + 1, _, _, _, h => by unfold postR; rw [if_pos h]
theorem callR_bad {e : Nat} : ∀ {F n : Nat} {ks : List Ex} {ns : List (List UInt8)} {q : Rd}, q.bad = true → callR e F n ks ns q = some (.mk 10 0 [] ks ns, q)
 | 0, _, _, _, _, h => if_pos h
 | F + 1, _, _, _, _, h => by unfold callR; rw [if_pos h]
theorem callG_bad {e F n : Nat} {ks : List Ex} {ns : List (List UInt8)} {q : Rd} (h : q.bad = true) : callG e (F + 1) n ks ns q = some (.mk 10 0 [] (ks ++ [.zero]) ns, q) := by
 unfold callG
 rw [nameR_bad h, if_neg (by decide), failR_bad h, ite_self, exprR_bad h]
 exact callR_bad h
theorem listR_bad {e : Nat} : ∀ {F n kd : Nat} {tx : List UInt8} {ks : List Ex} {q : Rd}, q.bad = true → listR e F n kd tx ks q = some (.mk kd 0 tx ks [], q)
 | 0, _, _, _, _, _, h => if_pos h
 | F + 1, _, _, _, _, _, h => by unfold listR; rw [if_pos h]
theorem dictR_bad {e : Nat} : ∀ {F n : Nat} {ks : List Ex} {q : Rd}, q.bad = true → dictR e F n ks q = some (.mk 8 0 [] ks [], q)
 | 0, _, _, _, h => if_pos h
 | F + 1, _, _, _, h => by unfold dictR; rw [if_pos h]
theorem eachR_bad {e F n : Nat} {t : List UInt8} {ks : List Ex} {q : Rd} (h : q.bad = true) : eachR e (F + 1) n ks t q = some (.mk 9 0 t (ks ++ [.zero]) [], q) := by
 unfold eachR
 rw [exprR_bad h]
 show (if isR [wIf] q = true then _ else some (Ex.mk 9 0 t (ks ++ [.zero]) [], signR e [93] q)) = _
 rw [isR_bad h, signR_bad h]; rfl
def Ag {α : Type} (e : Nat) (x : Pr α) (y : Option (α × Rd)) : Prop := match x with
 | .out => True
 | .ok v u => y = some (v, ⟨u, (0, 0)⟩)
 | .bad k u => k ≠ 0 ∧ ∃ v w, y = some (v, ⟨w, (k, placeS e u)⟩)
def Bp {α β : Type} (g : α × Rd → Option (β × Rd)) : Prop := ∀ (v : α) (q : Rd), q.bad = true → ∃ z w, g (v, q) = some (z, ⟨w, q.f⟩)
theorem Ag.bind {α β : Type} {e : Nat} {x : Pr α} {y : Option (α × Rd)} {f : α → List Tok → Pr β} {g : α × Rd → Option (β × Rd)} (h : Ag e x y) (hf : ∀ v u, x = .ok v u → Ag e (f v u) (g (v, ⟨u, (0, 0)⟩))) (hg : Bp g) : Ag e (x.bind f) (y.bind g) := by
 cases x with
 | out => trivial
 | bad k u =>
  obtain ⟨hk, v, w, rfl⟩ := h
  obtain ⟨z, w', h'⟩ := hg v ⟨w, (k, placeS e u)⟩ (Rd.bad_of hk)
  exact ⟨hk, z, w', h'⟩
 | ok v u =>
  have h : y = _ := h
  subst h
  exact hf v u rfl
theorem Ag.step {α β : Type} {e : Nat} {x : Pr α} {v : α} {q : Rd} {f : α → List Tok → Pr β} {g : α → Rd → Option (β × Rd)} (h : Ag e x (some (v, q))) (hf : ∀ v u, x = .ok v u → Ag e (f v u) (g v ⟨u, (0, 0)⟩)) (hg : Bp fun x => g x.1 x.2) : Ag e (x.bind f) (g v q) :=
 Ag.bind (g := fun x => g x.1 x.2) h hf hg
theorem Ag.okv {α : Type} {e : Nat} {v : α} {u : List Tok} : Ag e (.ok v u) (some (v, ⟨u, (0, 0)⟩)) := rfl
theorem Ag.badv {α : Type} {e k : Nat} {v : α} {u w : List Tok} (hk : k ≠ 0) : Ag e (.bad k u : Pr α) (some (v, ⟨w, (k, placeS e u)⟩)) := ⟨hk, v, w, rfl⟩
theorem isR_one (s : List UInt8) (r : List Tok) : isR [s] ⟨r, (0, 0)⟩ = isS s r := by
 show ((hdK r == 4 || hdK r == 5) && [s].contains (hdT r)) = ((hdK r == 4 || hdK r == 5) && hdT r == s)
 congr 1
 rw [List.contains_cons]; simp
theorem isR_of (l : List (List UInt8)) (r : List Tok) : isR l ⟨r, (0, 0)⟩ = isOf l r := rfl
theorem mustS_a (e : Nat) (s : List UInt8) (r : List Tok) : Ag e (mustS s r) (some ((), signR e s ⟨r, (0, 0)⟩)) := by
 unfold mustS signR
 rw [isR_one]
 split
 ·exact .okv
 ·exact .badv (by decide)
theorem takeS_a (e k : Nat) (r : List Tok) (hk : k ≠ 0) : Ag e ((takeS k r).bind fun t r => .ok t.text r) (some ((kindR e k ⟨r, (0, 0)⟩).1, (kindR e k ⟨r, (0, 0)⟩).2)) := by
 unfold takeS kindR
 cases r with
 | nil =>
  rw [if_neg (show ¬ lkK ⟨[], (0, 0)⟩ = k from fun h => hk h.symm)]
  exact .badv (by decide)
 | cons t u =>
  by_cases h : t.kind = k
  ·rw [if_pos (show lkK ⟨t :: u, (0, 0)⟩ = k from h)]
   simp only [if_pos h]
   exact .okv
  ·rw [if_neg (show ¬ lkK ⟨t :: u, (0, 0)⟩ = k from h)]
   simp only [if_neg h]
   exact .badv (by decide)
theorem Ag.take {β : Type} {e k : Nat} {r : List Tok} {f : Tok → List Tok → Pr β} {g : List UInt8 × Rd → Option (β × Rd)} (hk : k ≠ 0) (hf : ∀ t u, takeS k r = .ok t u → Ag e (f t u) (g (t.text, ⟨u, (0, 0)⟩))) (hg : Bp g) : Ag e ((takeS k r).bind f) (g (kindR e k ⟨r, (0, 0)⟩)) := by
 have h := takeS_a e k r hk
 cases hx : takeS k r with
 | out => trivial
 | bad j u =>
  rw [hx] at h
  obtain ⟨hj, v, w, h⟩ := h
  have h : kindR e k ⟨r, (0, 0)⟩ = (v, ⟨w, (j, placeS e u)⟩) := by
   rw [Option.some.injEq] at h; exact h
  obtain ⟨z, w', h'⟩ := hg v ⟨w, (j, placeS e u)⟩ (Rd.bad_of hj)
  rw [h]
  exact ⟨hj, z, w', h'⟩
 | ok t u =>
  rw [hx] at h
  have h : kindR e k ⟨r, (0, 0)⟩ = (t.text, ⟨u, (0, 0)⟩) := by
   have h : some ((kindR e k ⟨r, (0, 0)⟩).1, (kindR e k ⟨r, (0, 0)⟩).2) = some (t.text, ⟨u, (0, 0)⟩) := h
   rw [Option.some.injEq] at h; exact h
  rw [h]
  exact hf t u hx
theorem bp_some {α β : Type} {z : α × Rd → β} {s : α × Rd → Rd} (h : ∀ v (q : Rd), q.bad = true → s (v, q) = q) : Bp fun x : α × Rd => some (z x, s x) := fun v q hq => ⟨z (v, q), q.r, by show some (z (v, q), s (v, q)) = _; rw [h v q hq]⟩
structure AllA (e F : Nat) : Prop where
 expr : ∀ G n r, 4 * F ≤ G → Ag e (exprS F n r) (exprR e G n ⟨r, (0, 0)⟩)
 lev : ∀ G k n r, 4 * F ≤ G → Ag e (levS F k n r) (levR e G k n ⟨r, (0, 0)⟩)
 loop : ∀ G k n x r, 4 * F ≤ G → Ag e (loopS F k n x r) (loopR e G k n x ⟨r, (0, 0)⟩)
 post : ∀ G n x r, 4 * F ≤ G → Ag e (postS F n x r) (postR e G n x ⟨r, (0, 0)⟩)
 call : ∀ G n ks ns r, 4 * F ≤ G → Ag e (callS F n ks ns r) (callR e G n ks ns ⟨r, (0, 0)⟩)
 atom : ∀ G n r, 4 * F ≤ G → Ag e (atomS F n r) (atomR e G n ⟨r, (0, 0)⟩)
 list : ∀ G n r, 4 * F ≤ G → Ag e (listS F n r) (listR e G n 7 [] [] ⟨r, (0, 0)⟩)
 item : ∀ G n ks r, 4 * F ≤ G → 1 ≤ ks.length → (ks.length = 1 → isS wFor r = false) → Ag e (itemS F n ks r) (listR e G n 7 [] ks ⟨r, (0, 0)⟩)
 dict : ∀ G n ks r, 4 * F ≤ G → Ag e (dictS F n ks r) (dictR e G n ks ⟨r, (0, 0)⟩)
theorem levR_b {e F k n : Nat} {q : Rd} (h : k = 0 ∨ k = 1 ∨ k = 3 ∨ k = 4) : levR e (F + 1) k n q = if q.bad then some (.zero, q) else (levR e F (k + 1) n q).bind fun x => loopR e F k n x.1 x.2 := by
 rcases h with rfl | rfl | rfl | rfl <;> rfl
theorem isOf_of0 {sg : List (List UInt8)} {s : List UInt8} {r : List Tok} (hs : s ∈ sg) (h : isS s r = true) : isOf sg r = true ∧ hdT r = s := by
 simp only [isS, Bool.and_eq_true, beq_iff_eq] at h
 refine ⟨?_, h.2⟩
 unfold isOf
 rw [h.1, h.2]
 simpa using hs
theorem isOf_no0 {sg : List (List UInt8)} {r : List Tok} (h : ∀ s ∈ sg, isS s r = false) : isOf sg r = false := by
 unfold isOf
 cases hk : (hdK r == 4 || hdK r == 5) with
 | false => rfl
 | true =>
  cases hc : sg.contains (hdT r) with
  | false => rfl
  | true =>
   have := h _ (by simpa using hc)
   simp [isS, hk] at this
theorem isS_ne {s t : List UInt8} {r : List Tok} (h : isS s r = true) (hne : s ≠ t) : isS t r = false := by
 simp only [isS, Bool.and_eq_true, beq_iff_eq] at h
 unfold isS
 rw [h.2, beq_false_of_ne hne]; simp
theorem Ag.ite {α : Type} {e : Nat} {x y : Pr α} {z : Option (α × Rd)} {c : Prop} [Decidable c] (h : c → Ag e x z) (h' : ¬ c → Ag e y z) : Ag e (if c then x else y) z := by
 split
 ·exact h ‹_›
 ·exact h' ‹_›
theorem inR_at {e n : Nat} {r : List Tok} (h : ¬ n = 30) : inR e n ⟨r, (0, 0)⟩ = ⟨r, (0, 0)⟩ := if_neg h
theorem inR_30 {e : Nat} {r : List Tok} : inR e 30 ⟨r, (0, 0)⟩ = ⟨r, (2, placeS e r)⟩ := rfl
theorem allA (e F : Nat) : AllA e F := by
 induction F with
 | zero => exact ⟨fun _ _ _ _ => trivial, fun _ _ _ _ _ => trivial, fun _ _ _ _ _ _ => trivial, fun _ _ _ _ _ => trivial, fun _ _ _ _ _ _ => trivial, fun _ _ _ _ => trivial, fun _ _ _ _ => trivial, fun _ _ _ _ _ _ _ => trivial, fun _ _ _ _ _ => trivial⟩
 | succ F ih =>
  refine ⟨?_, ?_, ?_, ?_, ?_, ?_, ?_, ?_, ?_⟩
  ·intro G n r hG
   obtain ⟨G, rfl⟩ : ∃ G', G = G' + 1 := ⟨G - 1, by omega⟩
   rw [exprS, exprR]
   refine .ite (fun h => ?_) (fun h => ?_)
   ·subst h
    rw [inR_30, levR_bad (Rd.bad_of (by decide))]
    exact .badv (by decide)
   ·rw [inR_at h]
    exact ih.lev G 0 _ r (by omega)
  ·intro G k n r hG
   obtain ⟨G, rfl⟩ : ∃ G', G = G' + 1 := ⟨G - 1, by omega⟩
   have bin : ∀ k, Ag e ((levS F (k + 1) n r).bind fun x r => loopS F k n x r) ((levR e G (k + 1) n ⟨r, (0, 0)⟩).bind fun x => loopR e G k n x.1 x.2) := fun k =>
    (ih.lev G (k + 1) n r (by omega)).bind (fun v u _ => ih.loop G k n v u (by omega)) (fun v q hq => ⟨_, q.r, loopR_bad hq⟩)
   match k with
   | 0 => exact bin 0
   | 1 => exact bin 1
   | 3 => exact bin 3
   | 4 => exact bin 4
   | k + 6 => exact bin (k + 6)
   | 2 =>
    rw [levS_2]
    show Ag e _ (if isR [wNot] ⟨r, (0, 0)⟩ then (levR e G 2 (n + 1) (inR e n ⟨r.tail, (0, 0)⟩)).bind fun x => some (.mk 12 0 [] [x.1] [], x.2)
     else (levR e G 3 n ⟨r, (0, 0)⟩).bind fun x => if isR (binS 2) x.2 then (levR e G 3 n x.2.next).bind fun y => some (binE (lkT x.2) x.1 y.1, y.2) else some x)
    rw [isR_one]
    refine .ite (fun h => ?_) (fun h => ?_)
    ·rw [if_pos h]
     refine .ite (fun h => ?_) (fun h => ?_)
     ·subst h
      rw [inR_30, levR_bad (Rd.bad_of (by decide))]
      exact .badv (by decide)
     ·rw [inR_at h]
      exact (ih.lev G 2 _ r.tail (by omega)).bind (fun v u _ => .okv) (bp_some (s := fun x => x.2) fun _ _ _ => rfl)
    ·rw [if_neg h]
     refine (ih.lev G 3 n r (by omega)).bind (fun v u _ => ?_) (fun v q hq => ⟨v, q.r, ?_⟩)
     ·show Ag e _ (if isR (binS 2) ⟨u, (0, 0)⟩ then (levR e G 3 n ⟨u.tail, (0, 0)⟩).bind fun y => some (binE (hdT u) v y.1, y.2) else some (v, ⟨u, (0, 0)⟩))
      rw [isR_of]
      refine .ite (fun h => ?_) (fun h => ?_)
      ·rw [if_pos h]
       exact (ih.lev G 3 n u.tail (by omega)).bind (fun v u _ => .okv) (bp_some (s := fun x => x.2) fun _ _ _ => rfl)
      ·rw [if_neg h]; exact .okv
     ·show (if isR (binS 2) q = true then _ else some (v, q)) = _
      rw [isR_bad hq]; rfl
   | 5 =>
    rw [levS_5]
    show Ag e _ (if isR [[45]] ⟨r, (0, 0)⟩ then (levR e G 5 (n + 1) (inR e n ⟨r.tail, (0, 0)⟩)).bind fun x => some (.mk 13 0 [] [x.1] [], x.2)
     else postA e G n ⟨r, (0, 0)⟩)
    rw [isR_one]
    refine .ite (fun h => ?_) (fun h => ?_)
    ·rw [if_pos h]
     refine .ite (fun h => ?_) (fun h => ?_)
     ·subst h
      rw [inR_30, levR_bad (Rd.bad_of (by decide))]
      exact .badv (by decide)
     ·rw [inR_at h]
      exact (ih.lev G 5 _ r.tail (by omega)).bind (fun v u _ => .okv) (bp_some (s := fun x => x.2) fun _ _ _ => rfl)
    ·rw [if_neg h]
     obtain ⟨G, rfl⟩ : ∃ G', G = G' + 1 := ⟨G - 1, by omega⟩
     rw [postA]
     exact (ih.atom G n r (by omega)).bind (fun v u _ => ih.post G n v u (by omega)) (fun v q hq => ⟨_, q.r, postR_bad hq⟩)
  ·intro G k n x r hG
   obtain ⟨G, rfl⟩ : ∃ G', G = G' + 1 := ⟨G - 1, by omega⟩
   rw [loopS, loopR, isR_of]
   refine .ite (fun h => ?_) (fun h => ?_)
   ·rw [if_pos h]
    exact (ih.lev G (k + 1) n r.tail (by omega)).bind (fun v u _ => ih.loop G k n _ u (by omega)) (fun v q hq => ⟨_, q.r, loopR_bad hq⟩)
   ·rw [if_neg h]; exact .okv
  ·intro G n x r hG
   obtain ⟨G, rfl⟩ : ∃ G', G = G' + 1 := ⟨G - 1, by omega⟩
   rw [postS]
   show Ag e _ (if isR [[91]] ⟨r, (0, 0)⟩ then (exprR e G n ⟨r.tail, (0, 0)⟩).bind fun y => postR e G n (.mk 11 0 [] [x, y.1] []) (signR e [93] y.2)
    else if isR [[40]] ⟨r, (0, 0)⟩ then (callR e G n [x] [] ⟨r.tail, (0, 0)⟩).bind fun y => postR e G n y.1 y.2 else some (x, ⟨r, (0, 0)⟩))
   rw [isR_one, isR_one]
   refine .ite (fun h => ?_) (fun h => ?_)
   ·rw [isS_ne h (by decide), if_neg (by decide), if_pos h]
    exact (ih.call G n _ _ r.tail (by omega)).bind (fun v u _ => ih.post G n _ u (by omega)) (fun v q hq => ⟨_, q.r, postR_bad hq⟩)
   ·rw [if_neg h]
    refine .ite (fun h => ?_) (fun h => ?_)
    ·rw [if_pos h]
     refine (ih.expr G n r.tail (by omega)).bind (fun v u _ => ?_) (fun v q hq => ⟨.mk 11 0 [] [x, v] [], q.r, ?_⟩)
     ·exact Ag.step (g := fun _ q => postR e G n (.mk 11 0 [] [x, v] []) q) (mustS_a e [93] u) (fun _ w _ => ih.post G n _ w (by omega)) (fun _ q hq => ⟨_, q.r, postR_bad hq⟩)
     ·show postR e G n (.mk 11 0 [] [x, v] []) (signR e [93] q) = _
      rw [signR_bad hq]; exact postR_bad hq
    ·rw [if_neg h]; exact .okv
  ·intro G n ks ns r hG
   obtain ⟨G, rfl⟩ : ∃ G', G = G' + 1 := ⟨G - 1, by omega⟩
   obtain ⟨G, rfl⟩ : ∃ G', G = G' + 1 := ⟨G - 1, by omega⟩
   rw [callS]
   show Ag e _ (if isR [[41]] ⟨r, (0, 0)⟩ then some (.mk 10 0 [] ks ns, ⟨r.tail, (0, 0)⟩)
    else callG e (G + 1) n ks ns (if ks.length > 1 then signR e [44] ⟨r, (0, 0)⟩ else ⟨r, (0, 0)⟩))
   rw [isR_one]
   refine .ite (fun h => ?_) (fun h => ?_)
   ·rw [if_pos h]; exact .okv
   rw [if_neg h]
   have hm : Ag e (if ks.length > 1 then mustS [44] r else .ok () r) (some ((), if ks.length > 1 then signR e [44] ⟨r, (0, 0)⟩ else ⟨r, (0, 0)⟩)) := by
    split
    ·exact mustS_a e _ r
    ·exact .okv
   refine Ag.step (g := fun _ q => callG e (G + 1) n ks ns q) hm (fun _ u _ => ?_) (fun _ q hq => ⟨_, q.r, callG_bad hq⟩)
   show Ag e _ (if nameS u then (exprR e G n (if ns.contains (hdT u) then failR e 6 ⟨u, (0, 0)⟩ else ⟨u, (0, 0)⟩).next.next).bind fun y => callR e G n (ks ++ [y.1]) (ns ++ [hdT u]) y.2
    else (exprR e G n (if ns.length > 0 then failR e 1 ⟨u, (0, 0)⟩ else ⟨u, (0, 0)⟩)).bind fun y => callR e G n (ks ++ [y.1]) ns y.2)
   refine .ite (fun h => ?_) (fun h => ?_)
   ·rw [if_pos h]
    refine .ite (fun h => ?_) (fun h => ?_)
    ·have hb : (failR e 6 ⟨u, (0, 0)⟩).next.next.bad = true := rfl
     rw [if_pos h, exprR_bad hb]
     exact ⟨by decide, _, _, callR_bad hb⟩
    ·rw [if_neg h]
     exact (ih.expr G n u.tail.tail (by omega)).bind (fun v w _ => ih.call G n _ _ w (by omega)) (fun v q hq => ⟨_, q.r, callR_bad hq⟩)
   ·rw [if_neg h]
    refine .ite (fun h => ?_) (fun h => ?_)
    ·have hb : (failR e 1 ⟨u, (0, 0)⟩).bad = true := rfl
     rw [if_pos h, exprR_bad hb]
     exact ⟨by decide, _, _, callR_bad hb⟩
    ·rw [if_neg h]
     exact (ih.expr G n u (by omega)).bind (fun v w _ => ih.call G n _ _ w (by omega)) (fun v q hq => ⟨_, q.r, callR_bad hq⟩)
  ·intro G n r hG
   obtain ⟨G, rfl⟩ : ∃ G', G = G' + 1 := ⟨G - 1, by omega⟩
   cases r with
   | nil => exact .badv (by decide)
   | cons t u =>
    show Ag e _ (if t.kind = 1 then some (.mk 6 0 t.text [] [], ⟨u, (0, 0)⟩)
     else if t.kind = 2 then some (.mk 4 t.num [] [] [], ⟨u, (0, 0)⟩)
     else if t.kind = 3 then some (.mk 5 0 t.text [] [], ⟨u, (0, 0)⟩)
     else if isR [wNone, wTrue, wFalse] ⟨t :: u, (0, 0)⟩ then some (.mk (atomW t.text) 0 [] [] [], ⟨u, (0, 0)⟩)
     else if isR [[40]] ⟨t :: u, (0, 0)⟩ then (exprR e G n ⟨u, (0, 0)⟩).bind fun x => some (x.1, signR e [41] x.2)
     else if isR [[91]] ⟨t :: u, (0, 0)⟩ then listR e G n 7 [] [] ⟨u, (0, 0)⟩
     else if isR [[123]] ⟨t :: u, (0, 0)⟩ then dictR e G n [] ⟨u, (0, 0)⟩
     else some (.zero, failR e 1 ⟨t :: u, (0, 0)⟩))
    rw [isR_one, isR_one, isR_one, isR_of, atomS]
    refine .ite (fun h => ?_) (fun h => ?_)
    ·rw [if_pos h]; exact .okv
    rw [if_neg h]
    refine .ite (fun h => ?_) (fun h => ?_)
    ·rw [if_pos h]; exact .okv
    rw [if_neg h]
    refine .ite (fun h => ?_) (fun h => ?_)
    ·rw [if_pos h]; exact .okv
    rw [if_neg h]
    refine .ite (fun h => ?_) (fun h1 => ?_)
    ·have := isOf_of0 (sg := [wNone, wTrue, wFalse]) (s := wNone) (by decide) h
     rw [if_pos this.1, show t.text = wNone from this.2]; exact .okv
    refine .ite (fun h => ?_) (fun h2 => ?_)
    ·have := isOf_of0 (sg := [wNone, wTrue, wFalse]) (s := wTrue) (by decide) h
     rw [if_pos this.1, show t.text = wTrue from this.2]; exact .okv
    refine .ite (fun h => ?_) (fun h3 => ?_)
    ·have := isOf_of0 (sg := [wNone, wTrue, wFalse]) (s := wFalse) (by decide) h
     rw [if_pos this.1, show t.text = wFalse from this.2]; exact .okv
    rw [isOf_no0 (sg := [wNone, wTrue, wFalse]) (by
     intro s hs
     simp only [List.mem_cons, List.not_mem_nil, or_false] at hs
     rcases hs with rfl | rfl | rfl
     ·exact (Bool.not_eq_true _).mp h1
     ·exact (Bool.not_eq_true _).mp h2
     ·exact (Bool.not_eq_true _).mp h3), if_neg (show ¬ (false = true) from nofun)]
    refine .ite (fun h => ?_) (fun h => ?_)
    ·rw [if_pos h]
     refine (ih.expr G n u (by omega)).bind (fun v w _ => ?_) (fun v q hq => ⟨v, q.r, ?_⟩)
     ·exact Ag.step (g := fun _ q => some (v, q)) (mustS_a e [41] w) (fun _ _ _ => .okv) (bp_some (s := fun x => x.2) fun _ _ _ => rfl)
     ·show some (v, signR e [41] q) = _
      rw [signR_bad hq]
    rw [if_neg h]
    refine .ite (fun h => ?_) (fun h => ?_)
    ·rw [if_pos h]; exact ih.list G n u (by omega)
    rw [if_neg h]
    refine .ite (fun h => ?_) (fun h => ?_)
    ·rw [if_pos h]; exact ih.dict G n [] u (by omega)
    rw [if_neg h]; exact .badv (by decide)
  ·intro G n r hG
   obtain ⟨G, rfl⟩ : ∃ G', G = G' + 1 := ⟨G - 1, by omega⟩
   rw [listS]
   show Ag e _ (if isR [[93]] ⟨r, (0, 0)⟩ then some (.mk 7 0 [] [] [], signR e [93] ⟨r, (0, 0)⟩)
    else if ([] : List Ex).length = 1 ∧ isR [wFor] ⟨r, (0, 0)⟩ = true then _
    else (exprR e G n ⟨r, (0, 0)⟩).bind fun y => listR e G n 7 [] [y.1] y.2)
   rw [if_neg (fun h : ([] : List Ex).length = 1 ∧ _ => by cases h.1)]
   unfold signR
   rw [isR_one]
   refine .ite (fun h => ?_) (fun h => ?_)
   ·rw [if_pos h, if_pos h]; exact .okv
   rw [if_neg h]
   refine (ih.expr G n r (by omega)).bind (fun v u _ => ?_) (fun v q hq => ⟨_, q.r, listR_bad hq⟩)
   refine .ite (fun h => ?_) (fun h => ih.item G n [v] u (by omega) (by simp) (fun _ => (Bool.not_eq_true _).mp h))
   obtain ⟨G, rfl⟩ : ∃ G', G = G' + 1 := ⟨G - 1, by omega⟩
   show Ag e _ (if isR [[93]] ⟨u, (0, 0)⟩ then _
    else if ([v] : List Ex).length = 1 ∧ isR [wFor] ⟨u, (0, 0)⟩ = true then eachR e G n [v] (kindR e 1 ⟨u.tail, (0, 0)⟩).1 (signR e wIn (kindR e 1 ⟨u.tail, (0, 0)⟩).2)
    else _)
   rw [isR_one, isR_one, isS_ne h (by decide), if_neg (by decide), if_pos ⟨rfl, h⟩]
   obtain ⟨G, rfl⟩ : ∃ G', G = G' + 1 := ⟨G - 1, by omega⟩
   refine Ag.take (g := fun x => eachR e (G + 1) n [v] x.1 (signR e wIn x.2)) (by decide) (fun t w _ => ?_) (fun v q hq => ⟨_, q.r, by show eachR e (G + 1) n _ _ (signR e wIn q) = _; rw [signR_bad hq]; exact eachR_bad hq⟩)
   refine Ag.step (g := fun _ q => eachR e (G + 1) n [v] t.text q) (mustS_a e wIn w) (fun _ w _ => ?_) (fun _ q hq => ⟨_, q.r, eachR_bad hq⟩)
   rw [eachR]
   refine (ih.expr G n w (by omega)).bind (fun y u _ => ?_) (fun v q hq => ?_)
   ·show Ag e _ (if isR [wIf] ⟨u, (0, 0)⟩ then (exprR e G n ⟨u.tail, (0, 0)⟩).bind fun z => some (Ex.mk 9 0 t.text [v, y, z.1] [], signR e [93] z.2) else some (Ex.mk 9 0 t.text [v, y] [], signR e [93] ⟨u, (0, 0)⟩))
    rw [isR_one]
    refine .ite (fun h => ?_) (fun h => ?_)
    ·rw [if_pos h]
     refine (ih.expr G n u.tail (by omega)).bind (fun z w _ => ?_) (bp_some (s := fun x => signR e [93] x.2) fun _ q hq => signR_bad hq)
     exact Ag.step (g := fun _ q => some (_, q)) (mustS_a e [93] w) (fun _ _ _ => .okv) (bp_some (s := fun x => x.2) fun _ _ _ => rfl)
    ·rw [if_neg h]
     exact Ag.step (g := fun _ q => some (_, q)) (mustS_a e [93] u) (fun _ _ _ => .okv) (bp_some (s := fun x => x.2) fun _ _ _ => rfl)
   ·show ∃ z w, (if isR [wIf] q = true then _ else some (Ex.mk 9 0 t.text _ [], signR e [93] q)) = some (z, ⟨w, q.f⟩)
    rw [isR_bad hq, signR_bad hq]
    exact ⟨_, q.r, rfl⟩
  ·intro G n ks r hG h1 h2
   obtain ⟨G, rfl⟩ : ∃ G', G = G' + 1 := ⟨G - 1, by omega⟩
   rw [itemS]
   show Ag e _ (if isR [[93]] ⟨r, (0, 0)⟩ then some (.mk 7 0 [] ks [], signR e [93] ⟨r, (0, 0)⟩)
    else if ks.length = 1 ∧ isR [wFor] ⟨r, (0, 0)⟩ = true then _
    else (exprR e G n (if ks.length > 0 then signR e [44] ⟨r, (0, 0)⟩ else ⟨r, (0, 0)⟩)).bind fun y => listR e G n 7 [] (ks ++ [y.1]) y.2)
   rw [isR_one, isR_one, if_pos (show ks.length > 0 by omega), if_neg (fun h : ks.length = 1 ∧ _ => by rw [h2 h.1] at h; cases h.2)]
   refine .ite (fun h => ?_) (fun h => ?_)
   ·rw [if_pos h]
    unfold signR
    rw [isR_one, if_pos h]; exact .okv
   rw [if_neg h]
   refine Ag.step (g := fun _ q => (exprR e G n q).bind fun y => listR e G n 7 [] (ks ++ [y.1]) y.2) (mustS_a e [44] r) (fun _ u _ => ?_) (fun _ q hq => ⟨_, q.r, by show (exprR e G n q).bind _ = _; rw [exprR_bad hq]; exact listR_bad hq⟩)
   exact (ih.expr G n u (by omega)).bind (fun v w _ => ih.item G n _ w (by omega) (by simp) (fun h => by simp at h; rw [h] at h1; simp at h1)) (fun v q hq => ⟨_, q.r, listR_bad hq⟩)
  ·intro G n ks r hG
   obtain ⟨G, rfl⟩ : ∃ G', G = G' + 1 := ⟨G - 1, by omega⟩
   rw [dictS]
   show Ag e _ (if isR [[125]] ⟨r, (0, 0)⟩ then some (.mk 8 0 [] ks [], signR e [125] ⟨r, (0, 0)⟩)
    else (exprR e G n (if ks.length > 0 then signR e [44] ⟨r, (0, 0)⟩ else ⟨r, (0, 0)⟩)).bind fun y => (exprR e G n (signR e [58] y.2)).bind fun z => dictR e G n (ks ++ [y.1] ++ [z.1]) z.2)
   rw [isR_one]
   refine .ite (fun h => ?_) (fun h => ?_)
   ·rw [if_pos h]
    unfold signR
    rw [isR_one, if_pos h]; exact .okv
   rw [if_neg h]
   have hm : Ag e (if ks.length > 0 then mustS [44] r else .ok () r) (some ((), if ks.length > 0 then signR e [44] ⟨r, (0, 0)⟩ else ⟨r, (0, 0)⟩)) := by
    split
    ·exact mustS_a e _ r
    ·exact .okv
   have b2 : ∀ (y : Ex) (q : Rd), q.bad = true → (exprR e G n q).bind (fun z => dictR e G n (ks ++ [y] ++ [z.1]) z.2) = some (Ex.mk 8 0 [] (ks ++ [y] ++ [Ex.zero]) [], q) := fun y q hq => by
    rw [exprR_bad hq]; exact dictR_bad hq
   have b1 : ∀ q : Rd, q.bad = true → (exprR e G n q).bind (fun y => (exprR e G n (signR e [58] y.2)).bind fun z => dictR e G n (ks ++ [y.1] ++ [z.1]) z.2) = some (Ex.mk 8 0 [] (ks ++ [Ex.zero] ++ [Ex.zero]) [], q) := fun q hq => by
    rw [exprR_bad hq]
    show (exprR e G n (signR e [58] q)).bind _ = _
    rw [signR_bad hq]; exact b2 _ q hq
   refine Ag.step (g := fun _ q => (exprR e G n q).bind fun y => (exprR e G n (signR e [58] y.2)).bind fun z => dictR e G n (ks ++ [y.1] ++ [z.1]) z.2) hm (fun _ u _ => ?_) (fun _ q hq => ⟨_, q.r, b1 q hq⟩)
   refine (ih.expr G n u (by omega)).bind (fun y w _ => ?_) (fun y q hq => ⟨_, q.r, by show (exprR e G n (signR e [58] q)).bind _ = _; rw [signR_bad hq]; exact b2 y q hq⟩)
   refine Ag.step (g := fun _ q => (exprR e G n q).bind fun z => dictR e G n (ks ++ [y] ++ [z.1]) z.2) (mustS_a e [58] w) (fun _ u _ => ?_) (fun _ q hq => ⟨_, q.r, b2 y q hq⟩)
   exact (ih.expr G n u (by omega)).bind (fun z w _ => ih.dict G n _ w (by omega)) (fun v q hq => ⟨_, q.r, dictR_bad hq⟩)
end Go.Proofs.YtonjhfeabphaaaaGreatDoor
end
section
set_option linter.unusedVariables false
set_option linter.unusedSimpArgs false
set_option maxRecDepth 20000
namespace Go.Proofs.YtonjhfeabphaaaaGreatDoor
open Go Go.Ab
theorem next_s {l : List Tok} {q : Rd} (hr : q.r <:+ l) : q.next.r <:+ l := (List.tail_suffix q.r).trans hr
theorem fail_s {l : List Tok} {q : Rd} {e k : Nat} (hr : q.r <:+ l) : (failR e k q).r <:+ l := by unfold failR; split <;> exact hr
theorem fail_r {q : Rd} {e k : Nat} : (failR e k q).r = q.r := by unfold failR; split <;> rfl
theorem sign_s {l : List Tok} {q : Rd} {e : Nat} {s : List UInt8} (hr : q.r <:+ l) : (signR e s q).r <:+ l := by
 unfold signR; split
 ·exact next_s hr
 ·exact fail_s hr
theorem kind_s {l : List Tok} {q : Rd} {e k : Nat} (hr : q.r <:+ l) : (kindR e k q).2.r <:+ l := by
 unfold kindR; split
 ·exact next_s hr
 ·exact fail_s hr
theorem in_s {l : List Tok} {q : Rd} {e n : Nat} (hr : q.r <:+ l) : (inR e n q).r <:+ l := by
 unfold inR; split
 ·exact fail_s hr
 ·exact hr
theorem ite_s {l : List Tok} {q q' : Rd} {c : Prop} [Decidable c] (h : q.r <:+ l) (h' : q'.r <:+ l) : (if c then q else q').r <:+ l := by
 split
 ·exact h
 ·exact h'
def Sr {α : Type} (r : List Tok) (x : Option (α × Rd)) : Prop := ∀ y, x = some y → y.2.r <:+ r
theorem Sr.none {α : Type} {r : List Tok} : Sr r (.none : Option (α × Rd)) := nofun
theorem Sr.some {α : Type} {r : List Tok} {v : α} {q : Rd} (h : q.r <:+ r) : Sr r (.some (v, q)) := by intro y h'; cases h'; exact h
theorem Sr.bind {α β : Type} {r : List Tok} {x : Option (α × Rd)} {f : α × Rd → Option (β × Rd)} (h : Sr r x) (hf : ∀ y : α × Rd, y.2.r <:+ r → Sr r (f y)) : Sr r (x.bind f) := by
 cases x with
 | none => exact .none
 | some y => exact hf y (h y rfl)
theorem Sr.ite {α : Type} {r : List Tok} {x y : Option (α × Rd)} {c : Prop} [Decidable c] (h : Sr r x) (h' : Sr r y) : Sr r (if c then x else y) := by
 split
 ·exact h
 ·exact h'
theorem Sr.base {α : Type} {r : List Tok} {v : α} {q : Rd} (h : q.r <:+ r) : Sr r (if q.bad then .some (v, q) else .none) := .ite (.some h) .none
structure AllR (e : Nat) (r : List Tok) (F : Nat) : Prop where
 expr : ∀ n q, q.r <:+ r → Sr r (exprR e F n q)
 lev : ∀ k n q, q.r <:+ r → Sr r (levR e F k n q)
 loop : ∀ k n x q, q.r <:+ r → Sr r (loopR e F k n x q)
 postA : ∀ n q, q.r <:+ r → Sr r (postA e F n q)
 post : ∀ n x q, q.r <:+ r → Sr r (postR e F n x q)
 call : ∀ n ks ns q, q.r <:+ r → Sr r (callR e F n ks ns q)
 callG : ∀ n ks ns q, q.r <:+ r → Sr r (callG e F n ks ns q)
 atom : ∀ n q, q.r <:+ r → Sr r (atomR e F n q)
 list : ∀ n kd tx ks q, q.r <:+ r → Sr r (listR e F n kd tx ks q)
 each : ∀ n ks t q, q.r <:+ r → Sr r (eachR e F n ks t q)
 dict : ∀ n ks q, q.r <:+ r → Sr r (dictR e F n ks q)
theorem allR (e : Nat) (r : List Tok) (F : Nat) : AllR e r F := by
 induction F with
 | zero => exact ⟨fun _ _ h => .base h, fun _ _ _ h => .base h, fun _ _ _ _ h => .base h, fun _ _ _ => .none, fun _ _ _ h => .base h, fun _ _ _ _ h => .base h, fun _ _ _ _ _ => .none, fun _ _ _ => .none, fun _ _ _ _ _ h => .base h, fun _ _ _ _ _ => .none, fun _ _ _ h => .base h⟩
 | succ F ih =>
  refine ⟨?_, ?_, ?_, ?_, ?_, ?_, ?_, ?_, ?_, ?_, ?_⟩
  ·intro n q h; rw [exprR]; exact ih.lev _ _ _ (in_s h)
  ·intro k n q h
   unfold levR
   refine .ite (.some h) ?_
   split
   ·exact .ite ((ih.lev _ _ _ (in_s (next_s h))).bind fun y hy => .some hy) ((ih.lev _ _ _ h).bind fun y hy => .ite ((ih.lev _ _ _ (next_s hy)).bind fun z hz => .some hz) (.some hy))
   ·exact .ite ((ih.lev _ _ _ (in_s (next_s h))).bind fun y hy => .some hy) (ih.postA _ _ h)
   ·exact (ih.lev _ _ _ h).bind fun y hy => ih.loop _ _ _ _ hy
  ·intro k n x q h; rw [loopR]; exact .ite ((ih.lev _ _ _ (next_s h)).bind fun y hy => ih.loop _ _ _ _ hy) (.some h)
  ·intro n q h; rw [postA]; exact (ih.atom _ _ h).bind fun y hy => ih.post _ _ _ hy
  ·intro n x q h; rw [postR]; exact .ite (.some h) (.ite ((ih.expr _ _ (next_s h)).bind fun y hy => ih.post _ _ _ (sign_s hy)) (.ite ((ih.call _ _ _ _ (next_s h)).bind fun y hy => ih.post _ _ _ hy) (.some h)))
  ·intro n ks ns q h; rw [callR]; exact .ite (.some h) (.ite (.some (next_s h)) (ih.callG _ _ _ _ (ite_s (sign_s h) h)))
  ·intro n ks ns q h; rw [callG]; exact .ite ((ih.expr _ _ (next_s (next_s (ite_s (fail_s h) h)))).bind fun y hy => ih.call _ _ _ _ hy) ((ih.expr _ _ (ite_s (fail_s h) h)).bind fun y hy => ih.call _ _ _ _ hy)
  ·intro n q h; rw [atomR]
   exact .ite (.some (next_s h)) (.ite (.some (next_s h)) (.ite (.some (next_s h)) (.ite (.some (next_s h)) (.ite ((ih.expr _ _ (next_s h)).bind fun y hy => .some (sign_s hy)) (.ite (ih.list _ _ _ _ _ (next_s h)) (.ite (ih.dict _ _ _ (next_s h)) (.some (fail_s h))))))))
  ·intro n kd tx ks q h; rw [listR]
   exact .ite (.some h) (.ite (.some (sign_s h)) (.ite (ih.each _ _ _ _ (sign_s (kind_s (next_s h)))) ((ih.expr _ _ (ite_s (sign_s h) h)).bind fun y hy => ih.list _ _ _ _ _ hy)))
  ·intro n ks t q h; rw [eachR]
   exact (ih.expr _ _ h).bind fun y hy => .ite ((ih.expr _ _ (next_s hy)).bind fun z hz => .some (sign_s hz)) (.some (sign_s hy))
  ·intro n ks q h; rw [dictR]
   exact .ite (.some h) (.ite (.some (sign_s h)) ((ih.expr _ _ (ite_s (sign_s h) h)).bind fun y hy => (ih.expr _ _ (sign_s hy)).bind fun z hz => ih.dict _ _ _ hz))
end Go.Proofs.YtonjhfeabphaaaaGreatDoor
end
section
set_option linter.unusedVariables false
set_option linter.unusedSimpArgs false
set_option maxRecDepth 20000
set_option maxHeartbeats 4000000
namespace Go.Proofs.YtonjhfeabphaaaaGreatDoor
open Go Go.Ab
def rdB (v : Nat) (l : List Tok) (q : Rd) (e b d n : Nat) : Nat × Option Box := (v, some (.cells [.sl true false 4 (l.map tokA), .int .i64 (e : Nat), .int .i64 ((l.length - q.r.length : Nat) : Int), .int .i64 (q.f.1 : Nat), .int .i64 (q.f.2 : Nat), .int .i64 (b : Nat), .int .i64 (d : Nat), .int .i64 (n : Nat)] ⟨false, some 48⟩))
def rdI (v : Nat) (l : List Tok) (a : Int) (f : Flt) (e b d n : Int) : Nat × Option Box := (v, some (.cells [.sl true false 4 (l.map tokA), .int .i64 e, .int .i64 a, .int .i64 (f.1 : Nat), .int .i64 (f.2 : Nat), .int .i64 b, .int .i64 d, .int .i64 n] ⟨false, some 48⟩))
theorem rdB_free (v : Nat) (l : List Tok) (q : Rd) (e b d n : Nat) : ∀ x ∈ [AV.sl true false 4 (l.map tokA), .int .i64 (e : Nat), .int .i64 ((l.length - q.r.length : Nat) : Int), .int .i64 (q.f.1 : Nat), .int .i64 (q.f.2 : Nat), .int .i64 (b : Nat), .int .i64 (d : Nat), .int .i64 (n : Nat)], Free false x := by
 intro x hx
 simp only [List.mem_cons, List.not_mem_nil, or_false] at hx
 rcases hx with rfl | rfl | rfl | rfl | rfl | rfl | rfl | rfl
 ·exact .sl (fun h => by cases h) (toks_free l)
 all_goals exact .int
theorem rd_rn (v : Nat) (l : List Tok) (q : Rd) (e b d n : Nat) : RnH (List.range 1) [rdB v l q e b d n] [rdB v l q e b d n] :=
 .cons (.live (.cells (.free (rdB_free v l q e b d n)))) (.nil _)
theorem rd_low (v : Nat) (l : List Tok) (q : Rd) (e b d n : Nat) (τ : Heap) : LowH 1 (rdB v l q e b d n :: τ) := by
 intro id ver x hid hx
 match id, hid with
 | 0, _ =>
  cases hx
  exact .cells fun y hy => Low.free (rdB_free v l q e b d n y hy)
theorem rT {f : FuncId} {xs : List AV} {x : AV} {v : Nat} {l : List Tok} {q q' : Rd} {e b d n b' d' n' : Nat} (h : CallOk cx f (.ptr 0 v 0 :: xs) [rdB v l q e b d n] (fun o s => o = .ret x ∧ s = [rdB v l q' e b' d' n'])) (hx : Free false x) (hxs : ∀ y ∈ xs, Free false y) (τ : Heap) :
  CallOk cx f (.ptr 0 v 0 :: xs) (rdB v l q e b d n :: τ) (fun o s => o = .ret x ∧ s = rdB v l q' e b' d' n' :: τ) :=
 h.pre1 1 τ rfl rfl (arg0_rn v xs hxs) (rd_rn ..) (rd_rn ..) (.free hx)
theorem rfin {v : Nat} {l : List Tok} {q : Rd} {e b d n : Nat} {x z : AV} {τ : Heap} (h : FzT 1 (rdB v l q e b d n :: τ) z x) : TR 1 (fun o s => o = .ret x ∧ s = [rdB v l q e b d n]) (.ret z) (rdB v l q e b d n :: τ) :=
 ⟨1, Nat.le_refl _, rd_low _ _ _ _ _ _ _ _, x, h, rfl, rfl⟩
theorem rbad_ok (v : Nat) (l : List Tok) (q : Rd) (e b d n : Nat) : CallOk cx 25 [.ptr 0 v 0] [rdB v l q e b d n] (fun o s => o = .ret (.bool q.bad) ∧ s = [rdB v l q e b d n]) :=
 callOk_intro (fun a w => Tryz.call25 a w) Tryz.func25 rfl Tryz.ntmps25 rfl fun B => by
  refine pa [] rfl ?_ ?_
  ·(repeat' with_reducible apply AllP_cons) <;> first | exact aC | skip
  refine S_ret ⟨_, _, rfl, trivial, ?_, rfl⟩
  show Out.ret (.bool (((q.f.1 : Nat) : Int) != ((0 : Nat) : Int))) = _
  rw [bne_nat]; rfl
theorem rbadT (v : Nat) (l : List Tok) (q : Rd) (e b d n : Nat) (τ : Heap) : CallOk cx 25 [.ptr 0 v 0] (rdB v l q e b d n :: τ) (fun o s => o = .ret (.bool q.bad) ∧ s = rdB v l q e b d n :: τ) :=
 rT (rbad_ok v l q e b d n) .bool (by simp) τ
theorem rfail_ok (v : Nat) (l : List Tok) (q : Rd) (e b d n k : Nat) (hr : q.r <:+ l) (hl : l.length ≤ 100000) : CallOk cx 26 [.ptr 0 v 0, .int .i64 (k : Nat)] [rdB v l q e b d n] (fun o s => o = .ret (.tup []) ∧ s = [rdB v l (failR e k q) e b d n]) :=
 callOk_intro (fun a w => Tryz.call26 a w) Tryz.func26 rfl Tryz.ntmps26 rfl fun B => by
  have hb := rbad_ok v l q e b d n
  have hml : (l.map tokA).length = l.length := by simp
  unfold failR
  by_cases h : q.bad = true
  ·rw [if_pos h]
   rw [h] at hb
   refine pa [.k (.bool true), .b true] rfl ?_ ?_
   ·(repeat' with_reducible apply AllP_cons) <;> first | exact aC | skip
   exact S_ret ⟨_, _, rfl, trivial, rfl, rfl⟩
  rw [if_neg h]
  rw [(Bool.not_eq_true _).mp h] at hb
  obtain ⟨r, f⟩ := q
  have hr : r <:+ l := hr
  cases r with
  | nil =>
   refine pa [.k (.bool false), .b false, .b false] rfl ?_ ?_
   ·(repeat' with_reducible apply AllP_cons) <;> first | exact aC | skip
    exact decide_eq_false (by rw [hml]; simp)
   exact S_nil ⟨_, _, rfl, trivial, rfl, rfl⟩
  | cons t u =>
   have hg := suf_get hr
   have ht := suf_lt hr
   refine pa [.k (.bool false), .b false, .b true, .v (tokA t)] rfl ?_ ?_
   ·(repeat' with_reducible apply AllP_cons) <;> first | exact aC | skip
    exact decide_eq_true (by rw [hml]; show ((l.length - (t :: u).length : Nat) : Int) < _; omega)
   exact S_nil ⟨_, _, rfl, trivial, rfl, rfl⟩
theorem rfailT (v : Nat) (l : List Tok) (q : Rd) (e b d n k : Nat) (τ : Heap) (hr : q.r <:+ l) (hl : l.length ≤ 100000) : CallOk cx 26 [.ptr 0 v 0, .int .i64 (k : Nat)] (rdB v l q e b d n :: τ) (fun o s => o = .ret (.tup []) ∧ s = rdB v l (failR e k q) e b d n :: τ) :=
 rT (rfail_ok v l q e b d n k hr hl) (.tup (by simp)) (by intro y hy; simp at hy; subst hy; exact .int) τ
def lookA (k : Nat) (t : List UInt8) : AV := .tup [.int .i64 (k : Nat), .str t]
theorem lookA_free {st : Bool} (k : Nat) (t : List UInt8) : Free st (lookA k t) := .tup (by intro y hy; simp at hy; rcases hy with rfl | rfl; exact .int; exact .str)
theorem rlook_ok (v : Nat) (l : List Tok) (q : Rd) (e b d n : Nat) (hr : q.r <:+ l) (hl : l.length ≤ 100000) : CallOk cx 38 [.ptr 0 v 0, .int .i64 0] [rdB v l q e b d n] (fun o s => o = .ret (lookA (lkK q) (lkT q)) ∧ s = [rdB v l q e b d n]) :=
 callOk_intro (fun a w => Tryz.call38 a w) Tryz.func38 rfl Tryz.ntmps38 rfl fun B => by
  have hb := rbad_ok v l q e b d n
  have hml : (l.map tokA).length = l.length := by simp
  unfold lkK lkT
  by_cases h : q.bad = true
  ·rw [if_pos h, if_pos h]
   rw [h] at hb
   refine pa [.k (.bool true), .b true, .b true] rfl ?_ ?_
   ·(repeat' with_reducible apply AllP_cons) <;> first | exact aC | skip
   exact S_ret ⟨_, _, rfl, trivial, rfl, rfl⟩
  rw [if_neg h, if_neg h]
  rw [(Bool.not_eq_true _).mp h] at hb
  obtain ⟨r, f⟩ := q
  have hr : r <:+ l := hr
  have hw : IntKind.i64.wrap (((l.length - r.length : Nat) : Int) + 0) = ((l.length - r.length : Nat) : Int) := by rw [IntWalk.i64_in _ ⟨by omega, by omega⟩]; omega
  cases r with
  | nil =>
   refine pa [.k (.bool false), .b false, .b true] rfl ?_ ?_
   ·(repeat' with_reducible apply AllP_cons) <;> first | exact aC | skip
    exact decide_eq_true (by rw [hw, hml]; simp)
   exact S_ret ⟨_, _, rfl, trivial, rfl, rfl⟩
  | cons t u =>
   have hg := suf_get hr
   have ht := suf_lt hr
   have hd : decide (IntKind.i64.wrap (((l.length - (t :: u).length : Nat) : Int) + 0) ≥ ((l.map tokA).length : Nat)) = false := decide_eq_false (by rw [hw, hml]; omega)
   refine pa [.k (.bool false), .b false, .b false, .v (tokA t), .v (tokA t)] rfl ?_ ?_
   ·(repeat' with_reducible apply AllP_cons) <;> first | exact hd | (rw [hw]; exact hg) | (rw [hw]; omega) | exact aC | skip
   exact S_ret ⟨_, _, rfl, trivial, rfl, rfl⟩
theorem rlookT (v : Nat) (l : List Tok) (q : Rd) (e b d n : Nat) (τ : Heap) (hr : q.r <:+ l) (hl : l.length ≤ 100000) : CallOk cx 38 [.ptr 0 v 0, .int .i64 0] (rdB v l q e b d n :: τ) (fun o s => o = .ret (lookA (lkK q) (lkT q)) ∧ s = rdB v l q e b d n :: τ) :=
 rT (rlook_ok v l q e b d n hr hl) (lookA_free _ _) (by intro y hy; simp at hy; subst hy; exact .int) τ
theorem rlook1_ok (v : Nat) (l : List Tok) (q : Rd) (e b d n : Nat) (hr : q.r <:+ l) (hl : l.length ≤ 100000) : CallOk cx 38 [.ptr 0 v 0, .int .i64 1] [rdB v l q e b d n] (fun o s => o = .ret (lookA (lkK1 q) (lkT1 q)) ∧ s = [rdB v l q e b d n]) :=
 callOk_intro (fun a w => Tryz.call38 a w) Tryz.func38 rfl Tryz.ntmps38 rfl fun B => by
  have hb := rbad_ok v l q e b d n
  have hml : (l.map tokA).length = l.length := by simp
  unfold lkK1 lkT1
  by_cases h : q.bad = true
  ·rw [if_pos h, if_pos h]
   rw [h] at hb
   refine pa [.k (.bool true), .b true, .b true] rfl ?_ ?_
   ·(repeat' with_reducible apply AllP_cons) <;> first | exact aC | skip
   exact S_ret ⟨_, _, rfl, trivial, rfl, rfl⟩
  rw [if_neg h, if_neg h]
  rw [(Bool.not_eq_true _).mp h] at hb
  obtain ⟨r, f⟩ := q
  have hr : r <:+ l := hr
  have hle := hr.length_le
  have hw : IntKind.i64.wrap (((l.length - r.length : Nat) : Int) + 1) = ((l.length - r.length : Nat) : Int) + 1 := by rw [IntWalk.i64_in _ ⟨by omega, by omega⟩]
  by_cases h2 : r.length < 2
  ·have e2 : hdK r.tail = 0 ∧ hdT r.tail = [] := by
    match r, h2 with
    | [], _ => exact ⟨rfl, rfl⟩
    | [t], _ => exact ⟨rfl, rfl⟩
    | t :: u :: w, h => exact absurd h (by simp only [List.length_cons]; omega)
   rw [show hdK (⟨r, f⟩ : Rd).r.tail = 0 from e2.1, show hdT (⟨r, f⟩ : Rd).r.tail = [] from e2.2]
   refine pa [.k (.bool false), .b false, .b true] rfl ?_ ?_
   ·(repeat' with_reducible apply AllP_cons) <;> first | exact aC | skip
    exact decide_eq_true (by show IntKind.i64.wrap (((l.length - r.length : Nat) : Int) + 1) ≥ _; rw [hw, hml]; omega)
   exact S_ret ⟨_, _, rfl, trivial, rfl, rfl⟩
  ·obtain ⟨t, t2, u, rfl⟩ : ∃ t t2 u, r = t :: t2 :: u := by
    match r, h2 with
    | [], h => simp at h
    | [t], h => simp at h
    | t :: t2 :: u, _ => exact ⟨t, t2, u, rfl⟩
   have hw := suf_next hr hl
   have hr4 := suf_tail hr
   have hg2 : (l.map tokA)[(IntKind.i64.wrap (((l.length - (t :: t2 :: u).length : Nat) : Int) + 1)).toNat]? = some (tokA t2) := by
    rw [hw]; exact suf_get hr4
   have h0 : (0 : Int) ≤ IntKind.i64.wrap (((l.length - (t :: t2 :: u).length : Nat) : Int) + 1) := by rw [hw]; omega
   have hd : decide (IntKind.i64.wrap (((l.length - (t :: t2 :: u).length : Nat) : Int) + 1) ≥ (((l.map tokA).length : Nat) : Int)) = false := by
    have := suf_lt hr4
    rw [hw, hml]; exact decide_eq_false (by omega)
   refine pa [.k (.bool false), .b false, .b false, .v (tokA t2), .v (tokA t2)] rfl ?_ ?_
   ·(repeat' with_reducible apply AllP_cons) <;> first | exact aC | skip
   exact S_ret ⟨_, _, rfl, trivial, rfl, rfl⟩
theorem rlook1T (v : Nat) (l : List Tok) (q : Rd) (e b d n : Nat) (τ : Heap) (hr : q.r <:+ l) (hl : l.length ≤ 100000) : CallOk cx 38 [.ptr 0 v 0, .int .i64 1] (rdB v l q e b d n :: τ) (fun o s => o = .ret (lookA (lkK1 q) (lkT1 q)) ∧ s = rdB v l q e b d n :: τ) :=
 rT (rlook1_ok v l q e b d n hr hl) (lookA_free _ _) (by intro y hy; simp at hy; subst hy; exact .int) τ
theorem ris_ok (v : Nat) (l : List Tok) (q : Rd) (e b d n : Nat) (ws : List (List UInt8)) (st fl : Bool) (hw : ws.length ≤ 100) (hr : q.r <:+ l) (hl : l.length ≤ 100000) : CallOk cx 66 [.ptr 0 v 0, .sl st fl 1 (texts ws)] [rdB v l q e b d n] (fun o s => o = .ret (.bool (isR ws q)) ∧ s = [rdB v l q e b d n]) :=
 callOk_intro (fun a w => Tryz.call66 a w) Tryz.func66 rfl Tryz.ntmps66 rfl fun B => by
  have hk := rlook_ok v l q e b d n hr hl
  have hH := HasText_ok (st := st) (fl := fl) ws (lkT q) (by omega)
  unfold isR
  generalize lkT q = t at hk hH ⊢
  generalize lkK q = k at hk ⊢
  by_cases h4 : k = 4
  ·have e4 : (((k : Nat) : Int) == 4) = true := by rw [h4]; rfl
   refine pa [.k (lookA k t), .b true, .b true, .v (.bool (ws.contains t))] rfl ?_ ?_
   ·(repeat' with_reducible apply AllP_cons) <;> first | exact aC | skip
    exact ⟨_, hH, .cons (.refl (.sl (fun h => by cases h) (textsF ws))) (.cons (.refl .str) (.nil _))⟩
   refine S_ret ⟨_, _, rfl, trivial, ?_, rfl⟩
   rw [h4]; rfl
  ·have e4 : (((k : Nat) : Int) == 4) = false := beq_false_of_ne (by omega)
   by_cases h5 : k = 5
   ·have e5 : (((k : Nat) : Int) == 5) = true := by rw [h5]; rfl
    refine pa [.k (lookA k t), .b false, .b true, .v (.bool (ws.contains t))] rfl ?_ ?_
    ·(repeat' with_reducible apply AllP_cons) <;> first | exact aC | skip
     exact ⟨_, hH, .cons (.refl (.sl (fun h => by cases h) (textsF ws))) (.cons (.refl .str) (.nil _))⟩
    refine S_ret ⟨_, _, rfl, trivial, ?_, rfl⟩
    rw [h5]; rfl
   ·have e5 : (((k : Nat) : Int) == 5) = false := beq_false_of_ne (by omega)
    refine pa [.k (lookA k t), .b false, .b false] rfl ?_ ?_
    ·(repeat' with_reducible apply AllP_cons) <;> first | exact aC | skip
    refine S_ret ⟨_, _, rfl, trivial, ?_, rfl⟩
    rw [beq_false_of_ne h4, beq_false_of_ne h5]; rfl
theorem risT (v : Nat) (l : List Tok) (q : Rd) (e b d n : Nat) (ws : List (List UInt8)) (st fl : Bool) (τ : Heap) (hw : ws.length ≤ 100) (hr : q.r <:+ l) (hl : l.length ≤ 100000) : CallOk cx 66 [.ptr 0 v 0, .sl st fl 1 (texts ws)] (rdB v l q e b d n :: τ) (fun o s => o = .ret (.bool (isR ws q)) ∧ s = rdB v l q e b d n :: τ) :=
 rT (ris_ok v l q e b d n ws st fl hw hr hl) .bool (by intro y hy; simp at hy; subst hy; exact .sl (fun h => by cases h) (textsF ws)) τ
theorem isR_ne {ws : List (List UInt8)} {q : Rd} (h : isR ws q = true) : q.r ≠ [] := by
 intro h'
 unfold isR lkK at h
 rw [h'] at h
 revert h
 split <;> simp [hdK]
theorem lkK_ne {q : Rd} {k : Nat} (h : lkK q = k) (hk : k ≠ 0) : q.r ≠ [] := by
 intro h'
 unfold lkK at h
 rw [h'] at h
 revert h
 split
 ·intro h; exact hk h.symm
 ·intro h; exact hk h.symm
theorem rd_next {l : List Tok} {q : Rd} (h : q.r ≠ []) (hr : q.r <:+ l) (hl : l.length ≤ 100000) : IntKind.i64.wrap (((l.length - q.r.length : Nat) : Int) + 1) = ((l.length - q.next.r.length : Nat) : Int) := by
 obtain ⟨r, f⟩ := q
 cases r with
 | nil => exact absurd rfl h
 | cons t u => exact suf_next hr hl
theorem rsign_ok (v : Nat) (l : List Tok) (q : Rd) (e b d n : Nat) (s : List UInt8) (hr : q.r <:+ l) (hl : l.length ≤ 100000) : CallOk cx 68 [.ptr 0 v 0, .str s] [rdB v l q e b d n] (fun o σ => o = .ret (.tup []) ∧ σ = [rdB v l (signR e s q) e b d n]) :=
 callOk_intro (fun a w => Tryz.call68 a w) Tryz.func68 rfl Tryz.ntmps68 rfl fun B => by
  have hi := ris_ok v l q e b d n [s] true true (by simp) hr hl
  unfold signR
  by_cases h : isR [s] q = true
  ·rw [if_pos h]
   rw [h] at hi
   have hw := rd_next (isR_ne h) hr hl
   refine pa [.k (.bool true), .b true] rfl ?_ ?_
   ·(repeat' with_reducible apply AllP_cons) <;> first | exact aC | skip
   refine S_nil ⟨_, _, rfl, trivial, rfl, ?_⟩
   show [rdI v l (IntKind.i64.wrap (((l.length - q.r.length : Nat) : Int) + 1)) q.f e b d n] = _
   rw [hw]; rfl
  ·rw [if_neg h]
   rw [(Bool.not_eq_true _).mp h] at hi
   have hf := rfail_ok v l q e b d n 1 hr hl
   refine pa [.k (.bool false), .b false, .f (.tup []) (fun _ => [rdB v l (failR e 1 q) e b d n])] rfl ?_ ?_
   ·(repeat' with_reducible apply AllP_cons) <;> first | exact aC | skip
   exact S_nil ⟨_, _, rfl, trivial, rfl, rfl⟩
theorem rsignT (v : Nat) (l : List Tok) (q : Rd) (e b d n : Nat) (s : List UInt8) (τ : Heap) (hr : q.r <:+ l) (hl : l.length ≤ 100000) : CallOk cx 68 [.ptr 0 v 0, .str s] (rdB v l q e b d n :: τ) (fun o σ => o = .ret (.tup []) ∧ σ = rdB v l (signR e s q) e b d n :: τ) :=
 rT (rsign_ok v l q e b d n s hr hl) (.tup (by simp)) (by intro y hy; simp at hy; subst hy; exact .str) τ
theorem rkind_ok (v : Nat) (l : List Tok) (q : Rd) (e b d n k : Nat) (hk0 : k ≠ 0) (hr : q.r <:+ l) (hl : l.length ≤ 100000) : CallOk cx 67 [.ptr 0 v 0, .int .i64 (k : Nat)] [rdB v l q e b d n] (fun o σ => o = .ret (.str (kindR e k q).1) ∧ σ = [rdB v l (kindR e k q).2 e b d n]) :=
 callOk_intro (fun a w => Tryz.call67 a w) Tryz.func67 rfl Tryz.ntmps67 rfl fun B => by
  have hk := rlook_ok v l q e b d n hr hl
  unfold kindR
  by_cases h : lkK q = k
  ·rw [if_pos h]
   have hw := rd_next (lkK_ne h hk0) hr hl
   generalize lkT q = t at hk ⊢
   rw [h] at hk
   refine pa [.k (lookA k t), .b false] rfl ?_ ?_
   ·(repeat' with_reducible apply AllP_cons) <;> first | exact aC | skip
    exact bne_self_eq_false _
   refine S_ret ⟨_, _, rfl, trivial, rfl, ?_⟩
   show [rdI v l (IntKind.i64.wrap (((l.length - q.r.length : Nat) : Int) + 1)) q.f e b d n] = _
   rw [hw]; rfl
  ·rw [if_neg h]
   generalize lkT q = t at hk
   generalize lkK q = m at hk h
   have hf := rfail_ok v l q e b d n 1 hr hl
   refine pa [.k (lookA m t), .b true, .f (.tup []) (fun _ => [rdB v l (failR e 1 q) e b d n])] rfl ?_ ?_
   ·(repeat' with_reducible apply AllP_cons) <;> first | exact aC | skip
    exact bne_iff_ne.2 (by omega)
   exact S_ret ⟨_, _, rfl, trivial, rfl, rfl⟩
theorem rkindT (v : Nat) (l : List Tok) (q : Rd) (e b d n k : Nat) (τ : Heap) (hk0 : k ≠ 0) (hr : q.r <:+ l) (hl : l.length ≤ 100000) : CallOk cx 67 [.ptr 0 v 0, .int .i64 (k : Nat)] (rdB v l q e b d n :: τ) (fun o σ => o = .ret (.str (kindR e k q).1) ∧ σ = rdB v l (kindR e k q).2 e b d n :: τ) :=
 rT (rkind_ok v l q e b d n k hk0 hr hl) .str (by intro y hy; simp at hy; subst hy; exact .int) τ
theorem rin_ok (v : Nat) (l : List Tok) (q : Rd) (e b d n : Nat) (hn : n ≤ 3000000) (hr : q.r <:+ l) (hl : l.length ≤ 100000) : CallOk cx 97 [.ptr 0 v 0] [rdB v l q e b d n] (fun o σ => o = .ret (.tup []) ∧ σ = [rdB v l (inR e n q) e b d (n + 1)]) :=
 callOk_intro (fun a w => Tryz.call97 a w) Tryz.func97 rfl Tryz.ntmps97 rfl fun B => by
  have hw : IntKind.i64.wrap ((n : Nat) + 1) = ((n + 1 : Nat) : Int) := by rw [IntWalk.i64_in _ ⟨by omega, by omega⟩]; omega
  unfold inR
  by_cases h : n = 30
  ·rw [if_pos h]
   have hf := rfail_ok v l q e b d n 2 hr hl
   have e0 : (((n : Nat) : Int) == 30) = true := by rw [h]; rfl
   refine pa [.b true, .f (.tup []) (fun _ => [rdB v l (failR e 2 q) e b d n])] rfl ?_ ?_
   ·(repeat' with_reducible apply AllP_cons) <;> first | exact aC | skip
   refine S_nil ⟨_, _, rfl, trivial, rfl, ?_⟩
   show [rdI v l ((l.length - (failR e 2 q).r.length : Nat) : Int) (failR e 2 q).f e b d (IntKind.i64.wrap ((n : Nat) + 1))] = _
   rw [hw]; rfl
  ·rw [if_neg h]
   have e0 : (((n : Nat) : Int) == 30) = false := beq_false_of_ne (by omega)
   refine pa [.b false] rfl ?_ ?_
   ·(repeat' with_reducible apply AllP_cons) <;> first | exact aC | skip
   refine S_nil ⟨_, _, rfl, trivial, rfl, ?_⟩
   show [rdI v l ((l.length - q.r.length : Nat) : Int) q.f e b d (IntKind.i64.wrap ((n : Nat) + 1))] = _
   rw [hw]; rfl
theorem rinT (v : Nat) (l : List Tok) (q : Rd) (e b d n : Nat) (τ : Heap) (hn : n ≤ 3000000) (hr : q.r <:+ l) (hl : l.length ≤ 100000) : CallOk cx 97 [.ptr 0 v 0] (rdB v l q e b d n :: τ) (fun o σ => o = .ret (.tup []) ∧ σ = rdB v l (inR e n q) e b d (n + 1) :: τ) :=
 rT (rin_ok v l q e b d n hn hr hl) (.tup (by simp)) (by simp) τ
end Go.Proofs.YtonjhfeabphaaaaGreatDoor
end
section
set_option linter.unusedVariables false
set_option linter.unusedSimpArgs false
set_option maxRecDepth 20000
set_option maxHeartbeats 4000000
namespace Go.Proofs.YtonjhfeabphaaaaGreatDoor
open Go Go.Ab
def Rx (f : FuncId) (x : Nat → Nat → Nat → Rd → Option (Ex × Rd)) (F : Nat) : Prop := ∀ (v : Nat) (l : List Tok) (q : Rd) (e b d n : Nat) (y : Ex × Rd), q.r <:+ l → l.length ≤ 100000 → n + F ≤ 3000000 → x e F n q = some y →
 CallOk cx f [.ptr 0 v 0] [rdB v l q e b d n] (fun o s => o = .ret (exA y.1) ∧ s = [rdB v l y.2 e b d n])
def RdLv (k : Nat) (F : Nat) : Prop := ∀ (v : Nat) (l : List Tok) (q : Rd) (e b d n : Nat) (y : Ex × Rd), q.r <:+ l → l.length ≤ 100000 → n + F ≤ 3000000 → levR e F k n q = some y →
 CallOk cx 98 [.ptr 0 v 0, .int .i64 (k : Nat)] [rdB v l q e b d n] (fun o s => o = .ret (exA y.1) ∧ s = [rdB v l y.2 e b d n])
theorem Rx.tail {f : FuncId} {x : Nat → Nat → Nat → Rd → Option (Ex × Rd)} {F : Nat} (h : Rx f x F) (v : Nat) (l : List Tok) (q : Rd) (e b d n : Nat) (y : Ex) (q' : Rd) (τ : Heap) (hr : q.r <:+ l) (hl : l.length ≤ 100000) (hn : n + F ≤ 3000000) (hx : x e F n q = some (y, q')) :
  CallOk cx f [.ptr 0 v 0] (rdB v l q e b d n :: τ) (fun o s => o = .ret (exA y) ∧ s = rdB v l q' e b d n :: τ) :=
 rT (h v l q e b d n (y, q') hr hl hn hx) (exA_free _) (by simp) τ
theorem RdLv.tail {k F : Nat} (h : RdLv k F) (v : Nat) (l : List Tok) (q : Rd) (e b d n : Nat) (y : Ex) (q' : Rd) (τ : Heap) (hr : q.r <:+ l) (hl : l.length ≤ 100000) (hn : n + F ≤ 3000000) (hx : levR e F k n q = some (y, q')) :
  CallOk cx 98 [.ptr 0 v 0, .int .i64 (k : Nat)] (rdB v l q e b d n :: τ) (fun o s => o = .ret (exA y) ∧ s = rdB v l q' e b d n :: τ) :=
 rT (h v l q e b d n (y, q') hr hl hn hx) (exA_free _) (by intro y hy; simp at hy; subst hy; exact .int) τ
theorem rexpr_ok (F : Nat) (h0 : RdLv 0 F) : Rx 64 exprR (F + 1) := fun v l q e b d n y hr hl hn hx =>
 callOk_introT (fun a w => Tryz.call64 a w) Tryz.func64 rfl Tryz.ntmps64 rfl fun B => by
  have hx : levR e F 0 (n + 1) (inR e n q) = some y := hx
  obtain ⟨⟨xk, xn, xt, xs, xm⟩, q'⟩ := y
  have h1 := h0.tail v l (inR e n q) e b d (n + 1) _ q' [exO] (in_s hr) hl (by omega) hx
  have h2 := rinT v l q e b d n [exO] (by omega) hr hl
  have hw : IntKind.i64.wrap (((n + 1 : Nat) : Int) - 1) = ((n : Nat) : Int) := by rw [IntWalk.i64_in _ ⟨by omega, by omega⟩]; omega
  refine pa [.f (.tup []) (fun σ => rdB v l (inR e n q) e b d (n + 1) :: σ.tail), .f (exA (.mk xk xn xt xs xm)) (fun σ => rdB v l q' e b d (n + 1) :: σ.tail)] rfl ?_ ?_
  ·(repeat' with_reducible apply AllP_cons) <;> first | exact aC | skip
  refine S_ret ⟨_, _, rfl, ⟨rfl, trivial⟩, ?_⟩
  show TR 1 _ (.ret (exA (.mk xk xn xt xs xm))) (rdI v l ((l.length - q'.r.length : Nat) : Int) q'.f e b d (IntKind.i64.wrap (((n + 1 : Nat) : Int) - 1)) :: _)
  rw [hw]
  exact rfin (q := q') (.low (Low.free (exA_free (st := true) _)))
structure LvSt where
 F : Nat
 x : Ex
 q : Rd
def binAV : List AV := [.sl true true 1 (texts (binS 0)), .sl true true 1 (texts (binS 1)), .sl true true 1 (texts (binS 2)), .sl true true 1 (texts (binS 3)), .sl true true 1 (texts (binS 4))]
theorem rlev_bad (k F : Nat) (v : Nat) (l : List Tok) (q : Rd) (e b d n : Nat) (hb : q.bad = true) :
  CallOk cx 98 [.ptr 0 v 0, .int .i64 (k : Nat)] [rdB v l q e b d n] (fun o s => o = .ret (exA .zero) ∧ s = [rdB v l q e b d n]) :=
 callOk_introT (fun a w => Tryz.call98 a w) Tryz.func98 rfl Tryz.ntmps98 rfl fun B => by
  have h1 := rbadT v l q e b d n [exO]
  rw [hb] at h1
  refine pa [.k (.bool true), .b true] rfl ?_ ?_
  ·(repeat' with_reducible apply AllP_cons) <;> first | exact aC | skip
  refine S_ret ⟨_, _, rfl, ⟨rfl, trivial⟩, ?_⟩
  exact rfin (exFz (kd := 0) (nm := 0) (ks := []) (ns := []) .nils .nils)
theorem rlev_b (k F : Nat) (hk : k = 0 ∨ k = 1 ∨ k = 3 ∨ k = 4) (h : ∀ F', F' ≤ F → RdLv (k + 1) F') : RdLv k (F + 1) := fun v l q e b d n y hr hl hn hx => by
 rw [levR_b hk] at hx
 by_cases hbad : q.bad = true
 ·rw [if_pos hbad] at hx
  cases hx
  exact rlev_bad k F v l q e b d n hbad
 rw [if_neg hbad] at hx
 exact callOk_introT (fun a w => Tryz.call98 a w) Tryz.func98 rfl Tryz.ntmps98 rfl fun B => by
  have h1 := rbadT v l q e b d n [exO]
  rw [(Bool.not_eq_true _).mp hbad] at h1
  have e2 : (((k : Nat) : Int) == 2) = false := beq_false_of_ne (by omega)
  have e5 : (((k : Nat) : Int) == 5) = false := beq_false_of_ne (by omega)
  have hw : IntKind.i64.wrap ((k : Nat) + 1) = ((k + 1 : Nat) : Int) := by rw [IntWalk.i64_in _ ⟨by omega, by omega⟩]; omega
  have hel : binAV[((k : Nat) : Int).toNat]? = some (.sl true true 1 (texts (binS k))) := by
   rcases hk with rfl | rfl | rfl | rfl <;> rfl
  have hlen : (binS k).length ≤ 100 := by unfold binS; split <;> decide
  have hk5 : k < 5 := by omega
  cases hx1 : levR e F (k + 1) n q with
  | none => rw [hx1] at hx; cases hx
  | some y1 =>
  rw [hx1] at hx
  have hx : loopR e F k n y1.1 y1.2 = some y := hx
  have hr1 := (allR e l F).lev _ _ _ hr _ hx1
  obtain ⟨⟨xk, xn, xt, xs, xm⟩, q1⟩ := y1
  have h2 := (h F (Nat.le_refl _)).tail v l q e b d n _ q1 [exO] hr hl (by omega) hx1
  refine pa [.k (.bool false), .b false, .b false, .b false, .b false, .b false, .b false, .v (.sl true true 1 (texts (binS k))), .f (exA (.mk xk xn xt xs xm)) (fun σ => rdB v l q1 e b d n :: σ.tail)] rfl ?_ ?_
  ·(repeat' with_reducible apply AllP_cons) <;> first | exact aC | skip
   show CallOk cx 98 [.ptr 0 v 0, .int .i64 (IntKind.i64.wrap ((k : Nat) + 1))] [rdB v l q e b d n, exO] _
   rw [hw]; exact h2
  refine S_while (α := LvSt) (fun p => [(0, .ptr 0 v 0), (1, .int .i64 (k : Nat)), (4, .ptr 1 0 0), (7, .sl true true 1 (texts (binS k))), (8, .ptr 2 0 0)]) (fun p => [rdB v l p.q e b d n, exO, exB p.x])
   (fun p => p.F ≤ F ∧ p.q.r <:+ l ∧ loopR e p.F k n p.x p.q = some y) (fun p => p.F) ⟨F, .mk xk xn xt xs xm, q1⟩ ⟨Nat.le_refl _, hr1, hx⟩ (.cons rfl (.cons rfl (.cons rfl (.cons rfl (.cons rfl (.nil _)))))) rfl ?_
  clear hx hx1 h2 h1 hr1 hbad hr
  rintro ⟨F1, ⟨xk, xn, xt, xs, xm⟩, q⟩ ⟨hF, hr, hx⟩
  have hF : F1 ≤ F := hF
  have hr : q.r <:+ l := hr
  have hx : loopR e F1 k n (.mk xk xn xt xs xm) q = some y := hx
  show S cx _ B _ _ [(0, .ptr 0 v 0), (1, .int .i64 (k : Nat)), (4, .ptr 1 0 0), (7, .sl true true 1 (texts (binS k))), (8, .ptr 2 0 0)] [rdB v l q e b d n, exO, exB (.mk xk xn xt xs xm)]
  have hi := risT v l q e b d n (binS k) true true [exO, exB (.mk xk xn xt xs xm)] hlen hr hl
  by_cases c : isR (binS k) q = true
  ·cases F1 with
   | zero =>
    exfalso
    unfold loopR at hx
    split at hx
    ·rename_i hb
     rw [isR_bad hb] at c; cases c
    ·cases hx
   | succ F1 =>
   rw [loopR, if_pos c] at hx
   rw [c] at hi
   have hk := rlookT v l q e b d n [exO, exB (.mk xk xn xt xs xm)] hr hl
   have hwr := rd_next (isR_ne c) hr hl
   cases hx1 : levR e F1 (k + 1) n q.next with
   | none => rw [hx1] at hx; cases hx
   | some y1 =>
   rw [hx1] at hx
   have hr1 := (allR e l F1).lev _ _ _ (next_s hr) _ hx1
   obtain ⟨⟨yk, yn, yt, ys, ym⟩, q1⟩ := y1
   have h2 := (h F1 (by omega)).tail v l q.next e b d n _ q1 [exO, exB (.mk xk xn xt xs xm)] (next_s hr) hl (by omega) hx1
   have hx : loopR e F1 k n (binE (lkT q) (.mk xk xn xt xs xm) (.mk yk yn yt ys ym)) q1 = some y := hx
   refine pa [.k (.bool true), .b true, .k (lookA (lkK q) (lkT q))] rfl ?_ ?_
   ·(repeat' with_reducible apply AllP_cons) <;> first | exact aC | skip
   refine S_heap (rdB v l q.next e b d n :: [exO, exB (.mk xk xn xt xs xm)]) ?_ ?_
   ·show rdI v l (IntKind.i64.wrap (((l.length - q.r.length : Nat) : Int) + 1)) q.f e b d n :: _ = _
    rw [hwr]; rfl
   refine pa [.d 5 8 [] (fun σ => rdB v l q1 e b d n :: σ.tail) [exA (.mk yk yn yt ys ym)], .s] rfl ?_ ?_
   ·(repeat' with_reducible apply AllP_cons) <;> first | exact aC | skip
    exact ⟨_, h2, by show [AV.ptr 0 v 0, .int .i64 (IntKind.i64.wrap ((k : Nat) + 1))] = _; rw [hw]⟩
   refine S_wkF 94 (exC (binE (lkT q) (.mk xk xn xt xs xm) (.mk yk yn yt ys ym))) rfl (.cons .refl (.cons .refl (.cons .refl (.cons (.sl (fun _ => rfl) nofun) (.cons .nils .nil))))) ⟨.skip, _, .inr ⟨_, _, _, rfl⟩⟩ ?_
   refine pa [.b false] rfl ?_ ?_
   ·(repeat' with_reducible apply AllP_cons) <;> first | exact aC | skip
   exact S_round ⟨F1, binE (lkT q) (.mk xk xn xt xs xm) (.mk yk yn yt ys ym), q1⟩ (Nat.lt_succ_self _) ⟨by show F1 ≤ F; omega, hr1, hx⟩ (.cons rfl (.cons rfl (.cons rfl (.cons rfl (.cons rfl (.nil _)))))) rfl
  ·have hx : some (Ex.mk xk xn xt xs xm, q) = some y := by
    cases F1 with
    | zero =>
     unfold loopR at hx
     split at hx
     ·exact hx
     ·cases hx
    | succ F1 => rw [loopR, if_neg c] at hx; exact hx
   cases hx
   rw [(Bool.not_eq_true _).mp c] at hi
   refine pa [.k (.bool false), .b false] rfl ?_ ?_
   ·(repeat' with_reducible apply AllP_cons) <;> first | exact aC | skip
   refine S_ret ⟨_, _, rfl, ⟨rfl, trivial⟩, ?_⟩
   exact rfin (.low (Low.free (exA_free (st := true) (.mk xk xn xt xs xm))))
theorem rlev_2 (F : Nat) (h2 : RdLv 2 F) (h3 : RdLv 3 F) : RdLv 2 (F + 1) := fun v l q e b d n y hr hl hn hx => by
 have hx : (if q.bad then some (Ex.zero, q) else if isR [wNot] q then (levR e F 2 (n + 1) (inR e n q.next)).bind fun x => some (.mk 12 0 [] [x.1] [], x.2)
   else (levR e F 3 n q).bind fun x => if isR (binS 2) x.2 then (levR e F 3 n x.2.next).bind fun y => some (binE (lkT x.2) x.1 y.1, y.2) else some x) = some y := hx
 by_cases hbad : q.bad = true
 ·rw [if_pos hbad] at hx
  cases hx
  exact rlev_bad 2 F v l q e b d n hbad
 rw [if_neg hbad] at hx
 exact callOk_introT (fun a w => Tryz.call98 a w) Tryz.func98 rfl Tryz.ntmps98 rfl fun B => by
  have h1 := rbadT v l q e b d n [exO]
  rw [(Bool.not_eq_true _).mp hbad] at h1
  have hi := risT v l q e b d n [wNot] true true [exO] (by decide) hr hl
  by_cases c : isR [wNot] q = true
  ·rw [if_pos c] at hx
   rw [c] at hi
   have hwr := rd_next (isR_ne c) hr hl
   cases hx1 : levR e F 2 (n + 1) (inR e n q.next) with
   | none => rw [hx1] at hx; cases hx
   | some y1 =>
   rw [hx1] at hx
   obtain ⟨⟨yk, yn, yt, ys, ym⟩, q1⟩ := y1
   cases hx
   have hin := rinT v l q.next e b d n [exO] (by omega) (next_s hr) hl
   have hL := h2.tail v l (inR e n q.next) e b d (n + 1) _ q1 [exO] (in_s (next_s hr)) hl (by omega) hx1
   have hw : IntKind.i64.wrap (((n + 1 : Nat) : Int) - 1) = ((n : Nat) : Int) := by rw [IntWalk.i64_in _ ⟨by omega, by omega⟩]; omega
   refine pa [.k (.bool false), .b false, .b true, .k (.bool true), .b true, .b true, .b false] rfl ?_ ?_
   ·(repeat' with_reducible apply AllP_cons) <;> first | exact aC | skip
   refine S_heap (rdB v l q.next e b d n :: [exO]) ?_ ?_
   ·show rdI v l (IntKind.i64.wrap (((l.length - q.r.length : Nat) : Int) + 1)) q.f e b d n :: _ = _
    rw [hwr]; rfl
   refine pa [.f (.tup []) (fun σ => rdB v l (inR e n q.next) e b d (n + 1) :: σ.tail), .f (exA (.mk yk yn yt ys ym)) (fun σ => rdB v l q1 e b d (n + 1) :: σ.tail)] rfl ?_ ?_
   ·(repeat' with_reducible apply AllP_cons) <;> first | exact aC | skip
   refine S_wkB 1 (exC (.mk 12 0 [] [.mk yk yn yt ys ym] [])) rfl (.cons .refl (.cons .refl (.cons .refl (.cons (.sl (fun _ => rfl) nofun) (.cons .nils .nil))))) ⟨_, _, .inl rfl⟩ ?_
   refine S_ret ⟨_, _, rfl, ⟨rfl, trivial⟩, ?_⟩
   show TR 1 _ (.ret (exA (.mk 12 0 [] [.mk yk yn yt ys ym] []))) (rdI v l ((l.length - q1.r.length : Nat) : Int) q1.f e b d (IntKind.i64.wrap (((n + 1 : Nat) : Int) - 1)) :: _)
   rw [hw]
   exact rfin (q := q1) (.low (Low.free (exA_free (st := true) _)))
  rw [if_neg c] at hx
  rw [(Bool.not_eq_true _).mp c] at hi
  cases hx1 : levR e F 3 n q with
  | none => rw [hx1] at hx; cases hx
  | some y1 =>
  rw [hx1] at hx
  have hx : (if isR (binS 2) y1.2 then (levR e F 3 n y1.2.next).bind fun y => some (binE (lkT y1.2) y1.1 y.1, y.2) else some y1) = some y := hx
  have hr1 := (allR e l F).lev _ _ _ hr _ hx1
  obtain ⟨⟨xk, xn, xt, xs, xm⟩, q1⟩ := y1
  have hr1 : q1.r <:+ l := hr1
  have hL := h3.tail v l q e b d n _ q1 [exO] hr hl (by omega) hx1
  refine pa [.k (.bool false), .b false, .b true, .k (.bool false), .b false, .b false, .b false, .b false, .v (.sl true true 1 (texts (binS 2))), .f (exA (.mk xk xn xt xs xm)) (fun σ => rdB v l q1 e b d n :: σ.tail)] rfl ?_ ?_
  ·(repeat' with_reducible apply AllP_cons) <;> first | exact aC | skip
  refine S_while (α := Nat) (fun p => [(0, .ptr 0 v 0), (1, .int .i64 2), (4, .ptr 1 0 0), (7, .sl true true 1 (texts (binS 2))), (8, .ptr 2 0 0)]) (fun p => [rdB v l q1 e b d n, exO, exB (.mk xk xn xt xs xm)])
   (fun p => True) (fun p => p) 0 trivial (.cons rfl (.cons rfl (.cons rfl (.cons rfl (.cons rfl (.nil _)))))) rfl ?_
  rintro z _
  show S cx _ B _ _ [(0, .ptr 0 v 0), (1, .int .i64 2), (4, .ptr 1 0 0), (7, .sl true true 1 (texts (binS 2))), (8, .ptr 2 0 0)] [rdB v l q1 e b d n, exO, exB (.mk xk xn xt xs xm)]
  have hi2 := risT v l q1 e b d n (binS 2) true true [exO, exB (.mk xk xn xt xs xm)] (by decide) hr1 hl
  by_cases c2 : isR (binS 2) q1 = true
  ·rw [if_pos c2] at hx
   rw [c2] at hi2
   have hk := rlookT v l q1 e b d n [exO, exB (.mk xk xn xt xs xm)] hr1 hl
   have hwr := rd_next (isR_ne c2) hr1 hl
   cases hx2 : levR e F 3 n q1.next with
   | none => rw [hx2] at hx; cases hx
   | some y2 =>
   rw [hx2] at hx
   obtain ⟨⟨yk, yn, yt, ys, ym⟩, q2⟩ := y2
   cases hx
   have hL2 := h3.tail v l q1.next e b d n _ q2 [exO, exB (.mk xk xn xt xs xm)] (next_s hr1) hl (by omega) hx2
   refine pa [.k (.bool true), .b true, .k (lookA (lkK q1) (lkT q1))] rfl ?_ ?_
   ·(repeat' with_reducible apply AllP_cons) <;> first | exact aC | skip
   refine S_heap (rdB v l q1.next e b d n :: [exO, exB (.mk xk xn xt xs xm)]) ?_ ?_
   ·show rdI v l (IntKind.i64.wrap (((l.length - q1.r.length : Nat) : Int) + 1)) q1.f e b d n :: _ = _
    rw [hwr]; rfl
   refine pa [.d 5 8 [] (fun σ => rdB v l q2 e b d n :: σ.tail) [exA (.mk yk yn yt ys ym)], .s] rfl ?_ ?_
   ·(repeat' with_reducible apply AllP_cons) <;> first | exact aC | skip
    exact ⟨_, hL2, rfl⟩
   refine S_wkF 94 (exC (binE (lkT q1) (.mk xk xn xt xs xm) (.mk yk yn yt ys ym))) rfl (.cons .refl (.cons .refl (.cons .refl (.cons (.sl (fun _ => rfl) nofun) (.cons .nils .nil))))) ⟨.skip, _, .inr ⟨_, _, _, rfl⟩⟩ ?_
   refine pa [.b true] rfl ?_ ?_
   ·(repeat' with_reducible apply AllP_cons) <;> first | exact aC | skip
   refine S_ret ⟨_, _, rfl, ⟨rfl, trivial⟩, ?_⟩
   exact rfin (.low (Low.free (exA_free (st := true) (binE (lkT q1) (.mk xk xn xt xs xm) (.mk yk yn yt ys ym)))))
  ·rw [if_neg c2] at hx
   cases hx
   rw [(Bool.not_eq_true _).mp c2] at hi2
   refine pa [.k (.bool false), .b false] rfl ?_ ?_
   ·(repeat' with_reducible apply AllP_cons) <;> first | exact aC | skip
   refine S_ret ⟨_, _, rfl, ⟨rfl, trivial⟩, ?_⟩
   exact rfin (.low (Low.free (exA_free (st := true) (.mk xk xn xt xs xm))))
theorem rlev_5 (F : Nat) (h5 : RdLv 5 F) (hp : Rx 119 postA F) : RdLv 5 (F + 1) := fun v l q e b d n y hr hl hn hx => by
 have hx : (if q.bad then some (Ex.zero, q) else if isR [[45]] q then (levR e F 5 (n + 1) (inR e n q.next)).bind fun x => some (.mk 13 0 [] [x.1] [], x.2)
   else postA e F n q) = some y := hx
 by_cases hbad : q.bad = true
 ·rw [if_pos hbad] at hx
  cases hx
  exact rlev_bad 5 F v l q e b d n hbad
 rw [if_neg hbad] at hx
 exact callOk_introT (fun a w => Tryz.call98 a w) Tryz.func98 rfl Tryz.ntmps98 rfl fun B => by
  have h1 := rbadT v l q e b d n [exO]
  rw [(Bool.not_eq_true _).mp hbad] at h1
  have hi := risT v l q e b d n [[45]] true true [exO] (by decide) hr hl
  by_cases c : isR [[45]] q = true
  ·rw [if_pos c] at hx
   rw [c] at hi
   have hwr := rd_next (isR_ne c) hr hl
   cases hx1 : levR e F 5 (n + 1) (inR e n q.next) with
   | none => rw [hx1] at hx; cases hx
   | some y1 =>
   rw [hx1] at hx
   obtain ⟨⟨yk, yn, yt, ys, ym⟩, q1⟩ := y1
   cases hx
   have hin := rinT v l q.next e b d n [exO] (by omega) (next_s hr) hl
   have hL := h5.tail v l (inR e n q.next) e b d (n + 1) _ q1 [exO] (in_s (next_s hr)) hl (by omega) hx1
   have hw : IntKind.i64.wrap (((n + 1 : Nat) : Int) - 1) = ((n : Nat) : Int) := by rw [IntWalk.i64_in _ ⟨by omega, by omega⟩]; omega
   refine pa [.k (.bool false), .b false, .b false, .b false, .b true, .k (.bool true), .b true, .b true] rfl ?_ ?_
   ·(repeat' with_reducible apply AllP_cons) <;> first | exact aC | skip
   refine S_heap (rdB v l q.next e b d n :: [exO]) ?_ ?_
   ·show rdI v l (IntKind.i64.wrap (((l.length - q.r.length : Nat) : Int) + 1)) q.f e b d n :: _ = _
    rw [hwr]; rfl
   refine pa [.f (.tup []) (fun σ => rdB v l (inR e n q.next) e b d (n + 1) :: σ.tail), .f (exA (.mk yk yn yt ys ym)) (fun σ => rdB v l q1 e b d (n + 1) :: σ.tail)] rfl ?_ ?_
   ·(repeat' with_reducible apply AllP_cons) <;> first | exact aC | skip
   refine S_wkB 1 (exC (.mk 13 0 [] [.mk yk yn yt ys ym] [])) rfl (.cons .refl (.cons .refl (.cons .refl (.cons (.sl (fun _ => rfl) nofun) (.cons .nils .nil))))) ⟨_, _, .inl rfl⟩ ?_
   refine S_ret ⟨_, _, rfl, ⟨rfl, trivial⟩, ?_⟩
   show TR 1 _ (.ret (exA (.mk 13 0 [] [.mk yk yn yt ys ym] []))) (rdI v l ((l.length - q1.r.length : Nat) : Int) q1.f e b d (IntKind.i64.wrap (((n + 1 : Nat) : Int) - 1)) :: _)
   rw [hw]
   exact rfin (q := q1) (.low (Low.free (exA_free (st := true) _)))
  rw [if_neg c] at hx
  rw [(Bool.not_eq_true _).mp c] at hi
  obtain ⟨⟨xk, xn, xt, xs, xm⟩, q1⟩ := y
  have hL := hp.tail v l q e b d n _ q1 [exO] hr hl (by omega) hx
  refine pa [.k (.bool false), .b false, .b false, .b false, .b true, .k (.bool false), .b false, .b true, .f (exA (.mk xk xn xt xs xm)) (fun σ => rdB v l q1 e b d n :: σ.tail)] rfl ?_ ?_
  ·(repeat' with_reducible apply AllP_cons) <;> first | exact aC | skip
  refine S_ret ⟨_, _, rfl, ⟨rfl, trivial⟩, ?_⟩
  exact rfin (.low (Low.free (exA_free (st := true) (.mk xk xn xt xs xm))))
end Go.Proofs.YtonjhfeabphaaaaGreatDoor
end
