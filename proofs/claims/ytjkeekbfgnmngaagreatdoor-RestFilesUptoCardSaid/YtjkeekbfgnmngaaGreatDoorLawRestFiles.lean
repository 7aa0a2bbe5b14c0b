/-
  The law RestFiles answers true at every input of bulk at most 2^20, and leaves its arguments as they were.
  No condition beyond the given row's; its card.
-/
import Derived.Test.YtjkeekbfgnmngaaGreatDoorGnxE
import Derived.Test.YtjkeekbfgnmngaaGreatDoorCards
import Derived.Test.YtjkeekbfgnmngaaGreatDoorTie
import Derived.Shelf.Vars
import Derived.OpenShut
set_option linter.unusedVariables false
set_option linter.unusedSimpArgs false
set_option maxRecDepth 20000
namespace Go.Proofs.YtjkeekbfgnmngaaGreatDoor.lawRestFiles
open Go Go.Ab Go.ChangeShapes Go.WideShapes Go.ChangeAt Go.RowKit Go.ChangeMaps

theorem own : ownKnob Tryz.prog.godebug = none := by kernel_rfl
theorem laid : laidOutB Tryz.prog = true := by kernel_rfl
theorem hrdB : (Tryz.f3.params.toList.all fun t => Tryz.prog.readableRec t && decide (t < Tryz.prog.types.size)) = true := by kernel_rfl
theorem hrd : ∀ t ∈ Tryz.f3.params.toList, Tryz.prog.readableRec t = true ∧ t < Tryz.prog.types.size := fun t ht => by
  have := List.all_eq_true.1 hrdB t ht
  simpa using this
theorem strs_bulk {H : Type} : ∀ (ss : List ByteArray), ss.length ≤ Rows.uptoBulkAll (strs ss : List (DataW H))
  | [] => Nat.zero_le _
  | s :: r => by
    have := strs_bulk (H := H) r
    simp only [strs, List.map_cons, Rows.uptoBulkAll, Rows.uptoBulk, List.length_cons] at *
    omega

theorem bulk_pos {H : Type} : ∀ d : DataW H, 1 ≤ Rows.uptoBulk d
  | .lit (.string _) => Nat.le_add_left 1 _
  | .lit (.bool _) => Nat.le_refl 1
  | .lit (.int _ _) => Nat.le_refl 1
  | .lit (.float _ _) => Nat.le_refl 1
  | .lit .nil => Nat.le_refl 1
  | .nil => Nat.le_refl 1
  | .ptr _ => Nat.le_add_left 1 _
  | .slice _ _ => Nat.le_add_left 1 _
  | .agg _ => Nat.le_add_left 1 _
  | .iface _ _ => Nat.le_add_left 1 _
  | .map _ => Nat.le_add_left 1 _
  | .held _ => Nat.le_refl 1
theorem gF : Tryz.prog.globalNamed "foundry/digest.first" = some 0 := by kernel_rfl
theorem gK : Tryz.prog.globalNamed "foundry/digest.k" = some 1 := by kernel_rfl
theorem tables {W : World} (h : laidMetH Tryz.prog Rows.restFilesUptoRow.laid W) : ∀ g cs, cx.G g = some cs → g < W.heap.size ∧ ∀ i (h : i < cs.length), ∃ v, W.cell? ⟨g, i, none⟩ = some v ∧ VRel (Rl.old W) W v cs[i] ∧ Free true cs[i] := by
  have h1 : laidMet Tryz.prog Rows.restFilesUptoRow.laid W := h
  have hF : Lib.TabIs Tryz.prog W "foundry/digest.first" .u32 (hTab.map fun n : Nat => (n : Int)) := Lib.tabIs_of_head gF (by kernel_rfl) Tryz.underlying154 Tryz.underlying153 (by kernel_rfl) (by kernel_rfl) (laidMet_tail h1)
  have hK : Lib.TabIs Tryz.prog W "foundry/digest.k" .u32 (kTab.map fun n : Nat => (n : Int)) := Lib.tabIs_of_head gK (by kernel_rfl) Tryz.underlying185 Tryz.underlying153 (by kernel_rfl) (by kernel_rfl) (laidMet_tail (laidMet_tail h1))
  intro g cs hg
  have hg : (bif Nat.beq g 0 then some (u32L hTab) else (bif Nat.beq g 1 then some (u32L kTab) else none)) = some cs := hg
  cases hb0 : Nat.beq g 0 with
  | true =>
    rw [hb0] at hg
    obtain rfl := Option.some.inj (show some (u32L hTab) = some cs from hg)
    obtain rfl := Nat.eq_of_beq_eq_true hb0
    exact tab_cells gF hF (by decide)
  | false =>
    rw [hb0] at hg
    have hg : (bif Nat.beq g 1 then some (u32L kTab) else none) = some cs := hg
    cases hb1 : Nat.beq g 1 with
    | true =>
      rw [hb1] at hg
      obtain rfl := Option.some.inj (show some (u32L kTab) = some cs from hg)
      obtain rfl := Nat.eq_of_beq_eq_true hb1
      exact tab_cells gK hK (by decide)
    | false =>
      rw [hb1] at hg
      cases hg

theorem open_ {W : World} (h : W.ShapedOpen Tryz.prog) : ∀ g, cx.U g = true → g < W.heap.size ∧ ∃ m, W.cell? ⟨g, 0, none⟩ = some (.int .i64 m) := by
  intro g hg
  have hg : Nat.beq g 2 = true := hg
  obtain rfl := Nat.eq_of_beq_eq_true hg
  obtain ⟨m, hm⟩ := cell_of_shapedOpen_int (P := Tryz.prog) (g := 2) (t := 3) (zero := #[.int .i64 0]) h (of_decide_eq_true (by kernel_rfl)) (by kernel_rfl) rfl (by kernel_rfl) (by kernel_rfl) Tryz.underlying3
  refine ⟨?_, m, hm⟩
  rcases Nat.lt_or_ge 2 W.heap.size with h | h
  · exact h
  · simp [World.cell?, Array.getElem?_eq_none h] at hm

theorem contract (H : Type) (enc : TypeId × Value → H) (W : World) (base : Nat) (args : Array Value) (ds gs : List (DataW H)) (before : List MemPlace)
    (hval : ∀ (j : Nat) t v, Tryz.f3.params[j]? = some t → args[j]? = some v → Value.okWide Tryz.prog W .any base t v)
    (hW : DataW.Whole enc Tryz.prog Tryz.f3.params.toList Rows.restFilesSpec.vars false W args.toList ds gs before) (hk : Rows.uptoSmall H (ds ++ gs) = true) (hL : laidMetH Tryz.prog Rows.restFilesUptoRow.laid W) (hSh : W.ShapedOpen Tryz.prog) :
    Calls Tryz.prog 3 args W fun e W' => ∃ v, e = .returned v ∧ Rows.restFilesSpec.post enc Tryz.prog Tryz.f3 false true false false W args v W' := by
  have hW' := hW
  obtain ⟨p, q, hA0, hV, rfl, hfz, hnd⟩ := hW
  have hA : DataW.TrodAll enc Tryz.prog W 0 (fun _ => true) true Tryz.f3.params.toList args.toList ds p := hA0
  rw [Tryz.params3] at hA hval
  obtain ⟨v0, vs0, d0, ds0, p0, q0, hargs0, rfl, rfl, t0, r0⟩ := trodAll_cons hA
  obtain ⟨v1, vs1, d1, ds1, p1, q1, hargs1, rfl, rfl, t1, r1⟩ := trodAll_cons r0
  subst hargs1
  obtain ⟨v2, vs2, d2, ds2, p2, q2, hargs2, rfl, rfl, t2, r2⟩ := trodAll_cons r1
  subst hargs2
  obtain ⟨rfl, rfl, rfl⟩ := trodAll_nil r2
  obtain rfl : args = #[v0, v1, v2] := by cases args; simp_all
  obtain ⟨rfl, rfl⟩ := trodVars_none hV
  obtain ⟨s2, rfl, rfl, rfl, w2⟩ := open_string Tryz.underlying9 (hval 2 9 v2 rfl rfl) t2
  obtain ⟨a0, x0, y0⟩ := read_plain (n := 20) (by kernel_rfl) (hval 0 22 v0 rfl rfl) t0
  have z0 := RdD.bulk (B := Rows.uptoBulk) (BA := Rows.uptoBulkAll) rfl (fun _ _ => rfl) bulk_pos (fun _ => rfl) (fun _ _ => rfl) (fun _ => rfl) y0
  obtain ⟨s0, rfl⟩ := open_F y0
  obtain ⟨a1, x1, y1⟩ := read_plain (n := 20) (by kernel_rfl) (hval 1 22 v1 rfl rfl) t1
  have z1 := RdD.bulk (B := Rows.uptoBulk) (BA := Rows.uptoBulkAll) rfl (fun _ _ => rfl) bulk_pos (fun _ => rfl) (fun _ _ => rfl) (fun _ => rfl) y1
  obtain ⟨s1, rfl⟩ := open_F y1
  have e2 : s2.data.toList.length = s2.size := by rw [Array.length_toList]; rfl
  have m2 : s2.data.toList.length ≤ 9223372036854775807 := by
    have h2 : maxLen ≤ 9223372036854775807 := by decide
    omega
  have hb := of_decide_eq_true hk
  simp only [List.cons_append, List.nil_append, List.append_nil, Rows.uptoBulkAll, Rows.uptoBulk] at hb
  refine ((RestFiles_ok s0 s1 s2.data.toList (by first | omega | assumption) (by first | omega | assumption) (by first | omega | assumption)).callsG (tables hL) ⟨rfl, fun i h => ?_⟩ (open_ hSh)).mono fun e W' ⟨v, r', he, hv, hbl⟩ => ?_
  · match i, h with
    | 0, _ => exact x0
    | 1, _ => exact x1
    | 2, _ => exact .str rfl
    | k + 3, h => exact absurd h (by simp)
  subst he
  cases hv
  exact ⟨_, rfl, post_pure (pv := []) hW' (fun _ _ _ => (trodAll_cons_mk (shut_bool Tryz.underlying4 _) trodAll_mk0)) (fun sp hsp => trodAll_stays laid hbl hrd hA0 (fun x hx => hW'.lt x (by simpa using hx)) (fun x hx => hsp x (by simpa using hx))) (fun _ _ => rfl) rfl
    hbl (ok_one (by kernel_rfl) rfl (okWide_bool_mk Tryz.underlying4 _))⟩

/-- A world for the witness. -/
def tabbed (c : Array Value) : Obj → Obj
  | .cells _ t frozen => .cells c t frozen
  | o => o
noncomputable def laidWorld (os : Os) : World :=
  { World.holding Tryz.prog os ⟨#[], #[], []⟩ with heap := (((((World.holding Tryz.prog os ⟨#[], #[], []⟩).heap).modify 4 (tabbed #[.int .u8 128, .int .u8 191, .int .u8 160, .int .u8 191, .int .u8 128, .int .u8 159, .int .u8 144, .int .u8 191, .int .u8 128, .int .u8 143, .int .u8 0, .int .u8 0, .int .u8 0, .int .u8 0, .int .u8 0, .int .u8 0, .int .u8 0, .int .u8 0, .int .u8 0, .int .u8 0, .int .u8 0, .int .u8 0, .int .u8 0, .int .u8 0, .int .u8 0, .int .u8 0, .int .u8 0, .int .u8 0, .int .u8 0, .int .u8 0, .int .u8 0, .int .u8 0])).modify 0 (tabbed #[.int .u32 1779033703, .int .u32 3144134277, .int .u32 1013904242, .int .u32 2773480762, .int .u32 1359893119, .int .u32 2600822924, .int .u32 528734635, .int .u32 1541459225])).modify 1 (tabbed #[.int .u32 1116352408, .int .u32 1899447441, .int .u32 3049323471, .int .u32 3921009573, .int .u32 961987163, .int .u32 1508970993, .int .u32 2453635748, .int .u32 2870763221, .int .u32 3624381080, .int .u32 310598401, .int .u32 607225278, .int .u32 1426881987, .int .u32 1925078388, .int .u32 2162078206, .int .u32 2614888103, .int .u32 3248222580, .int .u32 3835390401, .int .u32 4022224774, .int .u32 264347078, .int .u32 604807628, .int .u32 770255983, .int .u32 1249150122, .int .u32 1555081692, .int .u32 1996064986, .int .u32 2554220882, .int .u32 2821834349, .int .u32 2952996808, .int .u32 3210313671, .int .u32 3336571891, .int .u32 3584528711, .int .u32 113926993, .int .u32 338241895, .int .u32 666307205, .int .u32 773529912, .int .u32 1294757372, .int .u32 1396182291, .int .u32 1695183700, .int .u32 1986661051, .int .u32 2177026350, .int .u32 2456956037, .int .u32 2730485921, .int .u32 2820302411, .int .u32 3259730800, .int .u32 3345764771, .int .u32 3516065817, .int .u32 3600352804, .int .u32 4094571909, .int .u32 275423344, .int .u32 430227734, .int .u32 506948616, .int .u32 659060556, .int .u32 883997877, .int .u32 958139571, .int .u32 1322822218, .int .u32 1537002063, .int .u32 1747873779, .int .u32 1955562222, .int .u32 2024104815, .int .u32 2227730452, .int .u32 2361852424, .int .u32 2428436474, .int .u32 2756734187, .int .u32 3204031479, .int .u32 3329325298])).modify 3 (tabbed (Go.Pinned.utf8FirstZ.map fun n : Nat => Value.int .u8 n).toArray) }
set_option maxRecDepth 100000 in
theorem laid_met (os : Os) : laidMet Tryz.prog Rows.restFilesUptoRow.laid ((laidWorld os).forCall (fun _ _ => 0) ⟨#[], #[.slice none 0 0, .slice none 0 0, .string .empty], []⟩).memory :=
  laidMet_of_run' 8 (by kernel_rfl) (by kernel_rfl)
theorem reads (os : Os) {H : Type} (enc : TypeId × Value → H) : ∃ places, DataW.whole enc Tryz.prog ((laidWorld os).forCall (fun _ _ => 0) ⟨#[], #[.slice none 0 0, .slice none 0 0, .string .empty], []⟩).memory Tryz.f3.params.toList Rows.restFilesSpec.vars false (#[.slice none 0 0, .slice none 0 0, .string .empty] : Array Value).toList 8 = some ([.nil, .nil, .lit (.string [])], [], places) :=
  ⟨[], by kernel_rfl⟩

set_option maxRecDepth 100000 in
theorem lifted (os : Os) (started : os.Started) (H : Type) (enc : TypeId × Value → H) (F : Stop.Interp) :
    ReturnsInHanded {} Tryz.checked os 3 .any ((Rows.OpenSpec.upto Rows.restFilesSpec).preRow enc Tryz.prog Tryz.f3 Rows.restFilesUptoRow.domain false Rows.restFilesUptoRow.laid) (((Rows.OpenSpec.upto Rows.restFilesSpec).at F).post enc Tryz.prog Tryz.f3 false true false false) := by
  obtain ⟨places, hx⟩ := reads os enc
  refine returnsInHanded_of_row (C := Tryz.checked) (s := Rows.OpenSpec.upto Rows.restFilesSpec) own started (by kernel_rfl) Tryz.func3
    (witness_row_at (enc := enc) (C := Tryz.checked) false (laidWorld os) #[.slice none 0 0, .slice none 0 0, .string .empty] rfl (by kernel_rfl) (by kernel_rfl) (by kernel_rfl)
      (OpenSpec.preRow_of_cond 8 hx (by kernel_rfl) (fun k hk => by cases hk; kernel_rfl) (by kernel_rfl) (laid_met os))) ?_
  intro W base args ds gs before hval hW _ hcond _ hL hSh _
  exact contract H enc W base args ds gs before hval hW (hcond _ rfl) hL hSh

theorem said : Rows.RestFilesUptoSaid :=
  OpenClaim.holds_of_cond 3 Tryz.f3 rfl rfl rfl rfl rfl rfl rfl ⟨rfl, rfl, rfl, rfl, rfl⟩ rfl rfl rfl rfl rfl (by kernel_rfl) Tryz.func3 (by kernel_rfl)
    (of_decide_eq_true (by kernel_rfl)) (by unfold Func.isWrapper; first | (rw [if_pos (by decide +kernel)]; kernel_rfl) | (rw [if_neg (by decide +kernel)]; exact ⟨rfl, rfl⟩))
    (fun os started H enc _ F => by rw [OpenClaim.pre_eq_preRow]; exact lifted os started H enc F)

theorem plain (f : FuncId) (fn : Func) (hf : Tryz.pinned.checked.prog.funcNamed "foundry/foundrylaw.RestFiles" = some f) (hfn : Tryz.pinned.checked.prog.funcs[f]? = some fn) :
    true = Tryz.pinned.checked.prog.looks [] ∧ ∀ (j : Nat) t, fn.params[j]? = some t → Tryz.pinned.checked.prog.wantsStandIn t = false := by
  obtain rfl : f = 3 := Option.some.inj ((show Tryz.prog.funcNamed "foundry/foundrylaw.RestFiles" = some 3 by kernel_rfl).symm.trans hf) |>.symm
  obtain rfl : fn = Tryz.f3 := (Option.some.inj (Tryz.func3.symm.trans hfn)).symm
  refine ⟨by kernel_rfl, fun j t ht => ?_⟩
  have hall : (Tryz.f3.params.toList.all fun u => !Tryz.prog.wantsStandIn u) = true := by kernel_rfl
  have hm : t ∈ Tryz.f3.params.toList := by simpa using Array.mem_of_getElem? ht
  exact (show Tryz.prog.wantsStandIn t = false by simpa using List.all_eq_true.1 hall t hm)

theorem proved : Rows.RestFilesUptoCardSaid :=
  Claim7.holds_tied_plain_at .later [] _ _ _ _ said (fun _ h => by cases h) (by kernel_rfl) (fun _ h => by cases h) restFilesUpto_row_tie rfl ⟨rfl, rfl⟩ (by kernel_rfl) rfl plain (by kernel_rfl)

end Go.Proofs.YtjkeekbfgnmngaaGreatDoor.lawRestFiles
