/-
  The law TokenEmpty answers true at every input of bulk at most 2^20, and leaves its arguments as they were.
  No condition beyond the given row's; its card.
-/
import Derived.Test.YtkgmbnjdeokdkaaDoorCards
import Derived.Test.YtkgmbnjdeokdkaaDoorTie
import Derived.Test.YtkgmbnjdeokdkaaDoorAbXt
import Derived.Shelf.Vars
import Derived.Deep.DeepWitnessRowRef
import Derived.OpenShut
import Derived.Test.YtkgmbnjdeokdkaaDoorTokZ
set_option linter.unusedVariables false
set_option linter.unusedSimpArgs false
set_option maxRecDepth 20000
namespace Go.Proofs.YtkgmbnjdeokdkaaDoor.lawTokenEmpty
open Go Go.Ab Go.ChangeShapes Go.WideShapes Go.ChangeAt Go.RowKit Go.ChangeMaps

theorem own : ownKnob Tryd.prog.godebug = none := by kernel_rfl
theorem laid : laidOutB Tryd.prog = true := by kernel_rfl
theorem hrdB : (Tryd.f6.params.toList.all fun t => Tryd.prog.readableRec t && decide (t < Tryd.prog.types.size)) = true := by kernel_rfl
theorem hrd : ∀ t ∈ Tryd.f6.params.toList, Tryd.prog.readableRec t = true ∧ t < Tryd.prog.types.size := fun t ht => by
  have := List.all_eq_true.1 hrdB t ht
  simpa using this
theorem strs_bulk {H : Type} : ∀ (ss : List ByteArray), ss.length ≤ Rows.uptoBulkAll (strs ss : List (DataW H))
  | [] => Nat.zero_le _
  | s :: r => by
    have := strs_bulk (H := H) r
    simp only [strs, List.map_cons, Rows.uptoBulkAll, Rows.uptoBulk, List.length_cons] at *
    omega

theorem gW : Tryd.prog.globalNamed "foundry/token.words" = some 0 := by kernel_rfl
theorem gS : Tryd.prog.globalNamed "foundry/token.signs" = some 1 := by kernel_rfl
theorem tables {W : World} (h : laidMetH Tryd.prog Rows.tokenEmptyUptoRow.laid W) : ∀ g cs, cx.G g = some cs → g < W.heap.size ∧ ∀ i (h : i < cs.length), ∃ v, W.cell? ⟨g, i, none⟩ = some v ∧ VRel (Rl.old W) W v cs[i] ∧ Free true cs[i] := by
  have h1 : laidMet Tryd.prog Rows.tokenEmptyUptoRow.laid W := h
  intro g cs hg
  have hg : (bif Nat.beq g 0 then some [AV.sl true false 1 (words14.map AV.str)] else (bif Nat.beq g 1 then some [AV.sl true false 1 (signs18.map AV.str)] else none)) = some cs := hg
  cases hb0 : Nat.beq g 0 with
  | true =>
    rw [hb0] at hg
    obtain rfl := Option.some.inj (show some [AV.sl true false 1 (words14.map AV.str)] = some cs from hg)
    obtain rfl := Nat.eq_of_beq_eq_true hb0
    exact tab_texts (l := words14) gW (by kernel_rfl) Tryd.underlying57 Tryd.underlying9 (by kernel_rfl) h1
  | false =>
    rw [hb0] at hg
    have hg : (bif Nat.beq g 1 then some [AV.sl true false 1 (signs18.map AV.str)] else none) = some cs := hg
    cases hb1 : Nat.beq g 1 with
    | true =>
      rw [hb1] at hg
      obtain rfl := Option.some.inj (show some [AV.sl true false 1 (signs18.map AV.str)] = some cs from hg)
      obtain rfl := Nat.eq_of_beq_eq_true hb1
      exact tab_texts (l := signs18) gS (by kernel_rfl) Tryd.underlying57 Tryd.underlying9 (by kernel_rfl) (laidMet_tail h1)
    | false =>
      rw [hb1] at hg
      cases hg

theorem open_ {W : World} (h : W.ShapedOpen Tryd.prog) : ∀ g, cx.U g = true → g < W.heap.size ∧ ∃ m, W.cell? ⟨g, 0, none⟩ = some (.int .i64 m) := by
  intro g hg
  have hg : Nat.beq g 2 = true := hg
  obtain rfl := Nat.eq_of_beq_eq_true hg
  obtain ⟨m, hm⟩ := cell_of_shapedOpen_int (P := Tryd.prog) (g := 2) (t := 3) (zero := #[.int .i64 0]) h (of_decide_eq_true (by kernel_rfl)) (by kernel_rfl) rfl (by kernel_rfl) (by kernel_rfl) Tryd.underlying3
  refine ⟨?_, m, hm⟩
  rcases Nat.lt_or_ge 2 W.heap.size with h | h
  · exact h
  · simp [World.cell?, Array.getElem?_eq_none h] at hm

theorem contract (H : Type) (enc : TypeId × Value → H) (W : World) (base : Nat) (args : Array Value) (ds gs : List (DataW H)) (before : List MemPlace)
    (hval : ∀ (j : Nat) t v, Tryd.f6.params[j]? = some t → args[j]? = some v → Value.okWide Tryd.prog W .any base t v)
    (hW : DataW.Whole enc Tryd.prog Tryd.f6.params.toList Rows.tokenEmptySpec.vars false W args.toList ds gs before) (hk : Rows.uptoSmall H (ds ++ gs) = true) (hL : laidMetH Tryd.prog Rows.tokenEmptyUptoRow.laid W) (hSh : W.ShapedOpen Tryd.prog) :
    Calls Tryd.prog 6 args W fun e W' => ∃ v, e = .returned v ∧ Rows.tokenEmptySpec.post enc Tryd.prog Tryd.f6 false true false false W args v W' := by
  have hW' := hW
  obtain ⟨p, q, hA0, hV, rfl, hfz, hnd⟩ := hW
  have hA : DataW.TrodAll enc Tryd.prog W 0 (fun _ => true) true Tryd.f6.params.toList args.toList ds p := hA0
  rw [Tryd.params6] at hA hval
  obtain ⟨v0, vs0, d0, ds0, p0, q0, hargs0, rfl, rfl, t0, r0⟩ := trodAll_cons hA
  obtain ⟨v1, vs1, d1, ds1, p1, q1, hargs1, rfl, rfl, t1, r1⟩ := trodAll_cons r0
  subst hargs1
  obtain ⟨rfl, rfl, rfl⟩ := trodAll_nil r1
  obtain rfl : args = #[v0, v1] := by cases args; simp_all
  obtain ⟨rfl, rfl⟩ := trodVars_none hV
  obtain ⟨s0, rfl, rfl, rfl, w0⟩ := open_string Tryd.underlying9 (hval 0 9 v0 rfl rfl) t0
  obtain ⟨s1, rfl, rfl, rfl, w1⟩ := open_int Tryd.underlying3 (hval 1 3 v1 rfl rfl) t1
  have e0 : s0.data.toList.length = s0.size := by rw [Array.length_toList]; rfl
  have m0 : s0.data.toList.length ≤ 9223372036854775807 := by
    have h2 : maxLen ≤ 9223372036854775807 := by decide
    omega
  have m1 : -9223372036854775808 ≤ s1 ∧ s1 ≤ 9223372036854775807 := by simpa [Lit.wf, IntKind.min, IntKind.max, IntKind.signed, IntKind.bits] using w1
  have hb := of_decide_eq_true hk
  simp only [List.cons_append, List.nil_append, List.append_nil, Rows.uptoBulkAll, Rows.uptoBulk] at hb
  refine ((TokenEmpty_ok s0.data.toList s1 (by first | omega | assumption) (by first | omega | assumption)).callsG (tables hL) ⟨rfl, fun i h => ?_⟩ (open_ hSh)).mono fun e W' ⟨v, r', he, hv, hbl⟩ => ?_
  · match i, h with
    | 0, _ => exact .str rfl
    | 1, _ => exact .int
    | k + 2, h => exact absurd h (by simp)
  subst he
  cases hv
  exact ⟨_, rfl, post_pure (pv := []) hW' (fun _ _ _ => (trodAll_cons_mk (shut_bool Tryd.underlying4 _) trodAll_mk0)) (fun sp hsp => trodAll_stays laid hbl hrd hA0 (fun x hx => hW'.lt x (by simp at hx)) (fun x hx => hsp x (by simp at hx))) (fun _ _ => rfl) rfl
    hbl (ok_one (by kernel_rfl) rfl (okWide_bool_mk Tryd.underlying4 _))⟩

/-- A world for the witness. -/
def tabbed (c : Array Value) : Obj → Obj
  | .cells _ t frozen => .cells c t frozen
  | o => o
noncomputable def laidWorld (os : Os) : World :=
  { World.holding Tryd.prog os ⟨#[], #[], []⟩ with heap := (((((World.holding Tryd.prog os ⟨#[], #[], []⟩).heap).push (Obj.cells #[.string ⟨#[97, 110, 100]⟩, .string ⟨#[111, 114]⟩, .string ⟨#[110, 111, 116]⟩, .string ⟨#[105, 110]⟩, .string ⟨#[105, 102]⟩, .string ⟨#[101, 108, 115, 101]⟩, .string ⟨#[102, 111, 114]⟩, .string ⟨#[100, 101, 102]⟩, .string ⟨#[114, 101, 116, 117, 114, 110]⟩, .string ⟨#[112, 97, 115, 115]⟩, .string ⟨#[84, 114, 117, 101]⟩, .string ⟨#[70, 97, 108, 115, 101]⟩, .string ⟨#[78, 111, 110, 101]⟩, .string ⟨#[108, 111, 97, 100]⟩] 9)).push (Obj.cells #[.string ⟨#[61, 61]⟩, .string ⟨#[33, 61]⟩, .string ⟨#[60, 61]⟩, .string ⟨#[47, 47]⟩, .string ⟨#[61]⟩, .string ⟨#[60]⟩, .string ⟨#[43]⟩, .string ⟨#[45]⟩, .string ⟨#[42]⟩, .string ⟨#[37]⟩, .string ⟨#[40]⟩, .string ⟨#[41]⟩, .string ⟨#[91]⟩, .string ⟨#[93]⟩, .string ⟨#[123]⟩, .string ⟨#[125]⟩, .string ⟨#[44]⟩, .string ⟨#[58]⟩] 9)).modify 0 (tabbed #[.slice (some ⟨(World.holding Tryd.prog os ⟨#[], #[], []⟩).heap.size + 0, 0, none⟩) 14 14])).modify 1 (tabbed #[.slice (some ⟨(World.holding Tryd.prog os ⟨#[], #[], []⟩).heap.size + 1, 0, none⟩) 18 18]) }
set_option maxRecDepth 100000 in
theorem laid_met (os : Os) : laidMet Tryd.prog Rows.tokenEmptyUptoRow.laid ((laidWorld os).forCall (fun _ _ => 0) ⟨#[], #[.string .empty, .int .i64 0], []⟩).memory :=
  laidMet_of_run' 8 (by kernel_rfl) (by kernel_rfl)
theorem reads (os : Os) {H : Type} (enc : TypeId × Value → H) : ∃ places, DataW.whole enc Tryd.prog ((laidWorld os).forCall (fun _ _ => 0) ⟨#[], #[.string .empty, .int .i64 0], []⟩).memory Tryd.f6.params.toList Rows.tokenEmptySpec.vars false (#[.string .empty, .int .i64 0] : Array Value).toList 8 = some ([.lit (.string []), .lit (.int .i64 0)], [], places) :=
  ⟨[], by kernel_rfl⟩

set_option maxRecDepth 100000 in
theorem lifted (os : Os) (started : os.Started) (H : Type) (enc : TypeId × Value → H) (F : Stop.Interp) :
    ReturnsInHanded {} Tryd.checked os 6 .any ((Rows.OpenSpec.upto Rows.tokenEmptySpec).preRow enc Tryd.prog Tryd.f6 Rows.tokenEmptyUptoRow.domain false Rows.tokenEmptyUptoRow.laid) (((Rows.OpenSpec.upto Rows.tokenEmptySpec).at F).post enc Tryd.prog Tryd.f6 false true false false) := by
  obtain ⟨places, hx⟩ := reads os enc
  refine returnsInHanded_of_row (C := Tryd.checked) (s := Rows.OpenSpec.upto Rows.tokenEmptySpec) own started (by kernel_rfl) Tryd.func6
    (witness_row_atRef (enc := enc) (C := Tryd.checked) false (laidWorld os) #[.string .empty, .int .i64 0] rfl (by kernel_rfl) (by kernel_rfl) (by kernel_rfl)
      (OpenSpec.preRow_of_cond 8 hx (by kernel_rfl) (fun k hk => by cases hk; kernel_rfl) (by kernel_rfl) (laid_met os))) ?_
  intro W base args ds gs before hval hW _ hcond _ hL hSh _
  exact contract H enc W base args ds gs before hval hW (hcond _ rfl) hL hSh

theorem said : Rows.TokenEmptyUptoSaid :=
  OpenClaim.holds_of_cond 6 Tryd.f6 rfl rfl rfl rfl rfl rfl rfl ⟨rfl, rfl, rfl, rfl, rfl⟩ rfl rfl rfl rfl rfl (by kernel_rfl) Tryd.func6 (by kernel_rfl)
    (of_decide_eq_true (by kernel_rfl)) (by unfold Func.isWrapper; first | (rw [if_pos (by decide +kernel)]; kernel_rfl) | (rw [if_neg (by decide +kernel)]; exact ⟨rfl, rfl⟩))
    (fun os started H enc _ F => by rw [OpenClaim.pre_eq_preRow]; exact lifted os started H enc F)

theorem plain (f : FuncId) (fn : Func) (hf : Tryd.pinned.checked.prog.funcNamed "foundry/foundrylaw.TokenEmpty" = some f) (hfn : Tryd.pinned.checked.prog.funcs[f]? = some fn) :
    true = Tryd.pinned.checked.prog.looks [] ∧ ∀ (j : Nat) t, fn.params[j]? = some t → Tryd.pinned.checked.prog.wantsStandIn t = false := by
  obtain rfl : f = 6 := Option.some.inj ((show Tryd.prog.funcNamed "foundry/foundrylaw.TokenEmpty" = some 6 by kernel_rfl).symm.trans hf) |>.symm
  obtain rfl : fn = Tryd.f6 := (Option.some.inj (Tryd.func6.symm.trans hfn)).symm
  refine ⟨by kernel_rfl, fun j t ht => ?_⟩
  have hall : (Tryd.f6.params.toList.all fun u => !Tryd.prog.wantsStandIn u) = true := by kernel_rfl
  have hm : t ∈ Tryd.f6.params.toList := by simpa using Array.mem_of_getElem? ht
  exact (show Tryd.prog.wantsStandIn t = false by simpa using List.all_eq_true.1 hall t hm)

theorem proved : Rows.TokenEmptyUptoCardSaid :=
  Claim7.holds_tied_plain_at .later [] _ _ _ _ said (fun _ h => by cases h) (by kernel_rfl) (fun _ h => by cases h) tokenEmptyUpto_row_tie rfl ⟨rfl, rfl⟩ (by kernel_rfl) rfl plain (by kernel_rfl)

end Go.Proofs.YtkgmbnjdeokdkaaDoor.lawTokenEmpty
