/-
  The law BuildKeys answers true at every input of bulk at most 2^20, and leaves its arguments as they were.
  No condition beyond the given row's; its card.
-/
import Derived.Test.YtjcjaonfhlfnaaaGreatDoorGrpF
import Derived.Test.YtjcjaonfhlfnaaaGreatDoorCards
import Derived.Test.YtjcjaonfhlfnaaaGreatDoorTie
import Derived.Shelf.Vars
import Derived.Deep.DeepWitnessRowRef
import Derived.OpenShut
set_option linter.unusedVariables false
set_option linter.unusedSimpArgs false
set_option maxRecDepth 20000
namespace Go.Proofs.YtjcjaonfhlfnaaaGreatDoor.lawBuildKeys
open Go Go.Ab Go.ChangeShapes Go.WideShapes Go.ChangeAt Go.RowKit Go.ChangeMaps

theorem own : ownKnob Tryz.prog.godebug = none := by kernel_rfl
theorem laid : laidOutB Tryz.prog = true := by kernel_rfl
theorem hrdB : (Tryz.f3.params.toList.all fun t => Tryz.prog.readableRec t && decide (t < Tryz.prog.types.size)) = true := by kernel_rfl
theorem hrd : ∀ t ∈ Tryz.f3.params.toList, Tryz.prog.readableRec t = true ∧ t < Tryz.prog.types.size := fun t ht => by
  have := List.all_eq_true.1 hrdB t ht
  simpa using this
theorem strs_bulk {H : Type} : ∀ (ss : List ByteArray), ss.length ≤ Rows.uptoBulkAll (strs ss : List (DataW H))
  | [] => Nat.zero_le _
  | s :: r => by
    have := strs_bulk (H := H) r
    simp only [strs, List.map_cons, Rows.uptoBulkAll, Rows.uptoBulk, List.length_cons] at *
    omega

theorem bulk_pos {H : Type} : ∀ d : DataW H, 1 ≤ Rows.uptoBulk d
  | .lit (.string _) => Nat.le_add_left 1 _
  | .lit (.bool _) => Nat.le_refl 1
  | .lit (.int _ _) => Nat.le_refl 1
  | .lit (.float _ _) => Nat.le_refl 1
  | .lit .nil => Nat.le_refl 1
  | .nil => Nat.le_refl 1
  | .ptr _ => Nat.le_add_left 1 _
  | .slice _ _ => Nat.le_add_left 1 _
  | .agg _ => Nat.le_add_left 1 _
  | .iface _ _ => Nat.le_add_left 1 _
  | .map _ => Nat.le_add_left 1 _
  | .held _ => Nat.le_refl 1
theorem gF : Tryz.prog.globalNamed "foundry/digest.first" = some 0 := by kernel_rfl
theorem gK : Tryz.prog.globalNamed "foundry/digest.k" = some 1 := by kernel_rfl
theorem gW : Tryz.prog.globalNamed "foundry/token.words" = some 6 := by kernel_rfl
theorem gS : Tryz.prog.globalNamed "foundry/token.signs" = some 7 := by kernel_rfl
theorem tables {W : World} (h : laidMetH Tryz.prog Rows.buildKeysUptoRow.laid W) : ∀ g cs, cx.G g = some cs → g < W.heap.size ∧ ∀ i (h : i < cs.length), ∃ v, W.cell? ⟨g, i, none⟩ = some v ∧ VRel (Rl.old W) W v cs[i] ∧ Free true cs[i] := by
  have h1 : laidMet Tryz.prog Rows.buildKeysUptoRow.laid W := h
  have hF : Lib.TabIs Tryz.prog W "foundry/digest.first" .u32 (hTab.map fun n : Nat => (n : Int)) := Lib.tabIs_of_head gF (by kernel_rfl) Tryz.underlying102 Tryz.underlying101 (by kernel_rfl) (by kernel_rfl) (laidMet_tail (laidMet_tail (laidMet_tail (laidMet_tail (laidMet_tail (laidMet_tail h1))))))
  have hK : Lib.TabIs Tryz.prog W "foundry/digest.k" .u32 (kTab.map fun n : Nat => (n : Int)) := Lib.tabIs_of_head gK (by kernel_rfl) Tryz.underlying161 Tryz.underlying101 (by kernel_rfl) (by kernel_rfl) (laidMet_tail (laidMet_tail (laidMet_tail (laidMet_tail (laidMet_tail (laidMet_tail (laidMet_tail h1)))))))
  intro g cs hg
  have hg : (bif Nat.beq g 0 then some (u32L hTab) else (bif Nat.beq g 1 then some (u32L kTab) else (bif Nat.beq g 6 then some [AV.sl true false 1 (words14.map AV.str)] else (bif Nat.beq g 7 then some [AV.sl true false 1 (signs18.map AV.str)] else none)))) = some cs := hg
  cases hb0 : Nat.beq g 0 with
  | true =>
    rw [hb0] at hg
    obtain rfl := Option.some.inj (show some (u32L hTab) = some cs from hg)
    obtain rfl := Nat.eq_of_beq_eq_true hb0
    exact tab_cells gF hF (by decide)
  | false =>
    rw [hb0] at hg
    have hg : (bif Nat.beq g 1 then some (u32L kTab) else (bif Nat.beq g 6 then some [AV.sl true false 1 (words14.map AV.str)] else (bif Nat.beq g 7 then some [AV.sl true false 1 (signs18.map AV.str)] else none))) = some cs := hg
    cases hb1 : Nat.beq g 1 with
    | true =>
      rw [hb1] at hg
      obtain rfl := Option.some.inj (show some (u32L kTab) = some cs from hg)
      obtain rfl := Nat.eq_of_beq_eq_true hb1
      exact tab_cells gK hK (by decide)
    | false =>
      rw [hb1] at hg
      have hg : (bif Nat.beq g 6 then some [AV.sl true false 1 (words14.map AV.str)] else (bif Nat.beq g 7 then some [AV.sl true false 1 (signs18.map AV.str)] else none)) = some cs := hg
      cases hb2 : Nat.beq g 6 with
      | true =>
        rw [hb2] at hg
        obtain rfl := Option.some.inj (show some [AV.sl true false 1 (words14.map AV.str)] = some cs from hg)
        obtain rfl := Nat.eq_of_beq_eq_true hb2
        exact tab_texts (l := words14) gW (by kernel_rfl) Tryz.underlying22 Tryz.underlying9 (by kernel_rfl) (laidMet_tail (laidMet_tail (laidMet_tail (laidMet_tail (laidMet_tail (laidMet_tail (laidMet_tail (laidMet_tail h1))))))))
      | false =>
        rw [hb2] at hg
        have hg : (bif Nat.beq g 7 then some [AV.sl true false 1 (signs18.map AV.str)] else none) = some cs := hg
        cases hb3 : Nat.beq g 7 with
        | true =>
          rw [hb3] at hg
          obtain rfl := Option.some.inj (show some [AV.sl true false 1 (signs18.map AV.str)] = some cs from hg)
          obtain rfl := Nat.eq_of_beq_eq_true hb3
          exact tab_texts (l := signs18) gS (by kernel_rfl) Tryz.underlying22 Tryz.underlying9 (by kernel_rfl) (laidMet_tail (laidMet_tail (laidMet_tail (laidMet_tail (laidMet_tail (laidMet_tail (laidMet_tail (laidMet_tail (laidMet_tail h1)))))))))
        | false =>
          rw [hb3] at hg
          cases hg

theorem open_ {W : World} (h : W.ShapedOpen Tryz.prog) : ∀ g, cx.U g = true → g < W.heap.size ∧ ∃ m, W.cell? ⟨g, 0, none⟩ = some (.int .i64 m) := by
  intro g hg
  have hg : Nat.beq g 2 = true := hg
  obtain rfl := Nat.eq_of_beq_eq_true hg
  obtain ⟨m, hm⟩ := cell_of_shapedOpen_int (P := Tryz.prog) (g := 2) (t := 3) (zero := #[.int .i64 0]) h (of_decide_eq_true (by kernel_rfl)) (by kernel_rfl) rfl (by kernel_rfl) (by kernel_rfl) Tryz.underlying3
  refine ⟨?_, m, hm⟩
  rcases Nat.lt_or_ge 2 W.heap.size with h | h
  · exact h
  · simp [World.cell?, Array.getElem?_eq_none h] at hm

theorem contract (H : Type) (enc : TypeId × Value → H) (W : World) (base : Nat) (args : Array Value) (ds gs : List (DataW H)) (before : List MemPlace)
    (hval : ∀ (j : Nat) t v, Tryz.f3.params[j]? = some t → args[j]? = some v → Value.okWide Tryz.prog W .any base t v)
    (hW : DataW.Whole enc Tryz.prog Tryz.f3.params.toList Rows.buildKeysSpec.vars false W args.toList ds gs before) (hk : Rows.uptoSmall H (ds ++ gs) = true) (hL : laidMetH Tryz.prog Rows.buildKeysUptoRow.laid W) (hSh : W.ShapedOpen Tryz.prog) :
    Calls Tryz.prog 3 args W fun e W' => ∃ v, e = .returned v ∧ Rows.buildKeysSpec.post enc Tryz.prog Tryz.f3 false true false false W args v W' := by
  have hW' := hW
  obtain ⟨p, q, hA0, hV, rfl, hfz, hnd⟩ := hW
  have hA : DataW.TrodAll enc Tryz.prog W 0 (fun _ => true) true Tryz.f3.params.toList args.toList ds p := hA0
  rw [Tryz.params3] at hA hval
  obtain ⟨v0, vs0, d0, ds0, p0, q0, hargs0, rfl, rfl, t0, r0⟩ := trodAll_cons hA
  obtain ⟨rfl, rfl, rfl⟩ := trodAll_nil r0
  obtain rfl : args = #[v0] := by cases args; simp_all
  obtain ⟨rfl, rfl⟩ := trodVars_none hV
  obtain ⟨a0, x0, y0⟩ := read_plain (n := 20) (by kernel_rfl) (hval 0 24 v0 rfl rfl) t0
  have z0 := RdD.bulk (B := Rows.uptoBulk) (BA := Rows.uptoBulkAll) rfl (fun _ _ => rfl) bulk_pos (fun _ => rfl) (fun _ _ => rfl) (fun _ => rfl) y0
  obtain ⟨s0, rfl⟩ := open_A y0
  have hb := of_decide_eq_true hk
  simp only [List.cons_append, List.nil_append, List.append_nil, Rows.uptoBulkAll, Rows.uptoBulk] at hb
  refine ((BuildKeys_ok s0 (by first | omega | assumption)).callsG (tables hL) ⟨rfl, fun i h => ?_⟩ (open_ hSh)).mono fun e W' ⟨v, r', he, hv, hbl⟩ => ?_
  · obtain rfl : i = 0 := by simpa using h
    exact x0
  subst he
  cases hv
  exact ⟨_, rfl, post_pure (pv := []) hW' (fun _ _ _ => (trodAll_cons_mk (shut_bool Tryz.underlying4 _) trodAll_mk0)) (fun sp hsp => trodAll_stays laid hbl hrd hA0 (fun x hx => hW'.lt x (by simpa using hx)) (fun x hx => hsp x (by simpa using hx))) (fun _ _ => rfl) rfl
    hbl (ok_one (by kernel_rfl) rfl (okWide_bool_mk Tryz.underlying4 _))⟩

/-- A world for the witness. -/
def tabbed (c : Array Value) : Obj → Obj
  | .cells _ t frozen => .cells c t frozen
  | o => o
noncomputable def laidWorld (os : Os) : World :=
  { World.holding Tryz.prog os ⟨#[], #[], []⟩ with heap := ((((((((((((((((World.holding Tryz.prog os ⟨#[], #[], []⟩).heap).push (Obj.cells #[.string ⟨#[118, 97, 108, 117, 101, 32, 111, 117, 116, 32, 111, 102, 32, 114, 97, 110, 103, 101]⟩] 382)).push (Obj.cells #[.string ⟨#[105, 110, 118, 97, 108, 105, 100, 32, 115, 121, 110, 116, 97, 120]⟩] 382)).push (Obj.cells #[.string ⟨#[97, 110, 100]⟩, .string ⟨#[111, 114]⟩, .string ⟨#[110, 111, 116]⟩, .string ⟨#[105, 110]⟩, .string ⟨#[105, 102]⟩, .string ⟨#[101, 108, 115, 101]⟩, .string ⟨#[102, 111, 114]⟩, .string ⟨#[100, 101, 102]⟩, .string ⟨#[114, 101, 116, 117, 114, 110]⟩, .string ⟨#[112, 97, 115, 115]⟩, .string ⟨#[84, 114, 117, 101]⟩, .string ⟨#[70, 97, 108, 115, 101]⟩, .string ⟨#[78, 111, 110, 101]⟩, .string ⟨#[108, 111, 97, 100]⟩] 9)).push (Obj.cells #[.string ⟨#[61, 61]⟩, .string ⟨#[33, 61]⟩, .string ⟨#[60, 61]⟩, .string ⟨#[47, 47]⟩, .string ⟨#[61]⟩, .string ⟨#[60]⟩, .string ⟨#[43]⟩, .string ⟨#[45]⟩, .string ⟨#[42]⟩, .string ⟨#[37]⟩, .string ⟨#[40]⟩, .string ⟨#[41]⟩, .string ⟨#[91]⟩, .string ⟨#[93]⟩, .string ⟨#[123]⟩, .string ⟨#[125]⟩, .string ⟨#[44]⟩, .string ⟨#[58]⟩] 9)).modify 8 (tabbed #[.int .u8 0, .int .u8 1, .int .u8 28, .int .u8 2, .int .u8 29, .int .u8 14, .int .u8 24, .int .u8 3, .int .u8 30, .int .u8 22, .int .u8 20, .int .u8 15, .int .u8 25, .int .u8 17, .int .u8 4, .int .u8 8, .int .u8 31, .int .u8 27, .int .u8 13, .int .u8 23, .int .u8 21, .int .u8 19, .int .u8 16, .int .u8 7, .int .u8 26, .int .u8 12, .int .u8 18, .int .u8 6, .int .u8 11, .int .u8 5, .int .u8 10, .int .u8 9])).modify 9 (tabbed #[.int .u8 0, .int .u8 1, .int .u8 56, .int .u8 2, .int .u8 57, .int .u8 49, .int .u8 28, .int .u8 3, .int .u8 61, .int .u8 58, .int .u8 42, .int .u8 50, .int .u8 38, .int .u8 29, .int .u8 17, .int .u8 4, .int .u8 62, .int .u8 47, .int .u8 59, .int .u8 36, .int .u8 45, .int .u8 43, .int .u8 51, .int .u8 22, .int .u8 53, .int .u8 39, .int .u8 33, .int .u8 30, .int .u8 24, .int .u8 18, .int .u8 12, .int .u8 5, .int .u8 63, .int .u8 55, .int .u8 48, .int .u8 27, .int .u8 60, .int .u8 41, .int .u8 37, .int .u8 16, .int .u8 46, .int .u8 35, .int .u8 44, .int .u8 21, .int .u8 52, .int .u8 32, .int .u8 23, .int .u8 11, .int .u8 54, .int .u8 26, .int .u8 40, .int .u8 15, .int .u8 34, .int .u8 20, .int .u8 31, .int .u8 10, .int .u8 25, .int .u8 14, .int .u8 19, .int .u8 9, .int .u8 13, .int .u8 8, .int .u8 7, .int .u8 6])).modify 5 (tabbed #[.int .u64 1, .int .u64 10, .int .u64 100, .int .u64 1000, .int .u64 10000, .int .u64 100000, .int .u64 1000000, .int .u64 10000000, .int .u64 100000000, .int .u64 1000000000, .int .u64 10000000000, .int .u64 100000000000, .int .u64 1000000000000, .int .u64 10000000000000, .int .u64 100000000000000, .int .u64 1000000000000000, .int .u64 10000000000000000, .int .u64 100000000000000000, .int .u64 1000000000000000000, .int .u64 10000000000000000000])).modify 4 (tabbed #[.int .u8 128, .int .u8 191, .int .u8 160, .int .u8 191, .int .u8 128, .int .u8 159, .int .u8 144, .int .u8 191, .int .u8 128, .int .u8 143, .int .u8 0, .int .u8 0, .int .u8 0, .int .u8 0, .int .u8 0, .int .u8 0, .int .u8 0, .int .u8 0, .int .u8 0, .int .u8 0, .int .u8 0, .int .u8 0, .int .u8 0, .int .u8 0, .int .u8 0, .int .u8 0, .int .u8 0, .int .u8 0, .int .u8 0, .int .u8 0, .int .u8 0, .int .u8 0])).modify 11 (tabbed #[.iface 380 (.pointer (some ⟨(World.holding Tryz.prog os ⟨#[], #[], []⟩).heap.size + 0, 0, none⟩))])).modify 10 (tabbed #[.iface 380 (.pointer (some ⟨(World.holding Tryz.prog os ⟨#[], #[], []⟩).heap.size + 1, 0, none⟩))])).modify 0 (tabbed #[.int .u32 1779033703, .int .u32 3144134277, .int .u32 1013904242, .int .u32 2773480762, .int .u32 1359893119, .int .u32 2600822924, .int .u32 528734635, .int .u32 1541459225])).modify 1 (tabbed #[.int .u32 1116352408, .int .u32 1899447441, .int .u32 3049323471, .int .u32 3921009573, .int .u32 961987163, .int .u32 1508970993, .int .u32 2453635748, .int .u32 2870763221, .int .u32 3624381080, .int .u32 310598401, .int .u32 607225278, .int .u32 1426881987, .int .u32 1925078388, .int .u32 2162078206, .int .u32 2614888103, .int .u32 3248222580, .int .u32 3835390401, .int .u32 4022224774, .int .u32 264347078, .int .u32 604807628, .int .u32 770255983, .int .u32 1249150122, .int .u32 1555081692, .int .u32 1996064986, .int .u32 2554220882, .int .u32 2821834349, .int .u32 2952996808, .int .u32 3210313671, .int .u32 3336571891, .int .u32 3584528711, .int .u32 113926993, .int .u32 338241895, .int .u32 666307205, .int .u32 773529912, .int .u32 1294757372, .int .u32 1396182291, .int .u32 1695183700, .int .u32 1986661051, .int .u32 2177026350, .int .u32 2456956037, .int .u32 2730485921, .int .u32 2820302411, .int .u32 3259730800, .int .u32 3345764771, .int .u32 3516065817, .int .u32 3600352804, .int .u32 4094571909, .int .u32 275423344, .int .u32 430227734, .int .u32 506948616, .int .u32 659060556, .int .u32 883997877, .int .u32 958139571, .int .u32 1322822218, .int .u32 1537002063, .int .u32 1747873779, .int .u32 1955562222, .int .u32 2024104815, .int .u32 2227730452, .int .u32 2361852424, .int .u32 2428436474, .int .u32 2756734187, .int .u32 3204031479, .int .u32 3329325298])).modify 6 (tabbed #[.slice (some ⟨(World.holding Tryz.prog os ⟨#[], #[], []⟩).heap.size + 2, 0, none⟩) 14 14])).modify 7 (tabbed #[.slice (some ⟨(World.holding Tryz.prog os ⟨#[], #[], []⟩).heap.size + 3, 0, none⟩) 18 18])).modify 3 (tabbed (Go.Pinned.utf8FirstZ.map fun n : Nat => Value.int .u8 n).toArray) }
set_option maxRecDepth 100000 in
theorem laid_met (os : Os) : laidMet Tryz.prog Rows.buildKeysUptoRow.laid ((laidWorld os).forCall (fun _ _ => 0) ⟨#[], #[.agg #[.slice none 0 0, .string .empty, .slice none 0 0, .int .i64 0]], []⟩).memory :=
  laidMet_of_run' 8 (by kernel_rfl) (by kernel_rfl)
theorem reads (os : Os) {H : Type} (enc : TypeId × Value → H) : ∃ places, DataW.whole enc Tryz.prog ((laidWorld os).forCall (fun _ _ => 0) ⟨#[], #[.agg #[.slice none 0 0, .string .empty, .slice none 0 0, .int .i64 0]], []⟩).memory Tryz.f3.params.toList Rows.buildKeysSpec.vars false (#[.agg #[.slice none 0 0, .string .empty, .slice none 0 0, .int .i64 0]] : Array Value).toList 8 = some ([.agg [.nil, .lit (.string []), .nil, .lit (.int .i64 0)]], [], places) :=
  ⟨[], by kernel_rfl⟩

set_option maxRecDepth 100000 in
theorem lifted (os : Os) (started : os.Started) (H : Type) (enc : TypeId × Value → H) (F : Stop.Interp) :
    ReturnsInHanded {} Tryz.checked os 3 .any ((Rows.OpenSpec.upto Rows.buildKeysSpec).preRow enc Tryz.prog Tryz.f3 Rows.buildKeysUptoRow.domain false Rows.buildKeysUptoRow.laid) (((Rows.OpenSpec.upto Rows.buildKeysSpec).at F).post enc Tryz.prog Tryz.f3 false true false false) := by
  obtain ⟨places, hx⟩ := reads os enc
  refine returnsInHanded_of_row (C := Tryz.checked) (s := Rows.OpenSpec.upto Rows.buildKeysSpec) own started (by kernel_rfl) Tryz.func3
    (witness_row_atRef (enc := enc) (C := Tryz.checked) false (laidWorld os) #[.agg #[.slice none 0 0, .string .empty, .slice none 0 0, .int .i64 0]] rfl (by kernel_rfl) (by kernel_rfl) (by kernel_rfl)
      (OpenSpec.preRow_of_cond 8 hx (by kernel_rfl) (fun k hk => by cases hk; kernel_rfl) (by kernel_rfl) (laid_met os))) ?_
  intro W base args ds gs before hval hW _ hcond _ hL hSh _
  exact contract H enc W base args ds gs before hval hW (hcond _ rfl) hL hSh

set_option maxHeartbeats 8000000 in
theorem said : Rows.BuildKeysUptoSaid :=
  OpenClaim.holds_of_cond 3 Tryz.f3 rfl rfl rfl rfl rfl rfl rfl ⟨rfl, rfl, rfl, rfl, rfl⟩ rfl rfl rfl rfl rfl (by kernel_rfl) Tryz.func3 (by unfold joinedFacts; simp only [Bool.and_eq_true]; refine ⟨⟨⟨⟨⟨⟨⟨⟨⟨⟨⟨⟨⟨⟨⟨⟨⟨⟨⟨⟨⟨⟨⟨⟨⟨⟨⟨⟨⟨⟨⟨?_, ?_⟩, ?_⟩, ?_⟩, ?_⟩, ?_⟩, ?_⟩, ?_⟩, ?_⟩, ?_⟩, ?_⟩, ?_⟩, ?_⟩, ?_⟩, ?_⟩, ?_⟩, ?_⟩, ?_⟩, ?_⟩, ?_⟩, ?_⟩, ?_⟩, ?_⟩, ?_⟩, ?_⟩, ?_⟩, ?_⟩, ?_⟩, ?_⟩, ?_⟩, ?_⟩, ?_⟩ <;> as_aux_lemma => kernel_rfl)
    (of_decide_eq_true (by kernel_rfl)) (by unfold Func.isWrapper; first | (rw [if_pos (by decide +kernel)]; kernel_rfl) | (rw [if_neg (by decide +kernel)]; exact ⟨rfl, rfl⟩))
    (fun os started H enc _ F => by rw [OpenClaim.pre_eq_preRow]; exact lifted os started H enc F)

theorem plain (f : FuncId) (fn : Func) (hf : Tryz.pinned.checked.prog.funcNamed "foundry/foundrylaw.BuildKeys" = some f) (hfn : Tryz.pinned.checked.prog.funcs[f]? = some fn) :
    true = Tryz.pinned.checked.prog.looks [] ∧ ∀ (j : Nat) t, fn.params[j]? = some t → Tryz.pinned.checked.prog.wantsStandIn t = false := by
  obtain rfl : f = 3 := Option.some.inj ((show Tryz.prog.funcNamed "foundry/foundrylaw.BuildKeys" = some 3 by kernel_rfl).symm.trans hf) |>.symm
  obtain rfl : fn = Tryz.f3 := (Option.some.inj (Tryz.func3.symm.trans hfn)).symm
  refine ⟨by kernel_rfl, fun j t ht => ?_⟩
  have hall : (Tryz.f3.params.toList.all fun u => !Tryz.prog.wantsStandIn u) = true := by kernel_rfl
  have hm : t ∈ Tryz.f3.params.toList := by simpa using Array.mem_of_getElem? ht
  exact (show Tryz.prog.wantsStandIn t = false by simpa using List.all_eq_true.1 hall t hm)

theorem proved : Rows.BuildKeysUptoCardSaid :=
  Claim7.holds_tied_plain_at .later [] _ _ _ _ said (fun _ h => by cases h) (by kernel_rfl) (fun _ h => by cases h) buildKeysUpto_row_tie rfl ⟨rfl, rfl⟩ (by kernel_rfl) rfl plain (by kernel_rfl)

end Go.Proofs.YtjcjaonfhlfnaaaGreatDoor.lawBuildKeys
