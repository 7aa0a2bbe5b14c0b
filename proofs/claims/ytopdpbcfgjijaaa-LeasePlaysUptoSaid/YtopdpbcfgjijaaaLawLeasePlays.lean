/-
  The law LeasePlays answers true at every input of bulk at most 2^20, and leaves its arguments as they were.
  No condition beyond the given row's.
-/
import Derived.Test.YtopdpbcfgjijaaaGrpE
import Derived.Test.YtopdpbcfgjijaaaRows
import Derived.OpenShut
set_option linter.unusedVariables false
set_option linter.unusedSimpArgs false
set_option maxRecDepth 20000
namespace Go.Proofs.Ytopdpbcfgjijaaa.lawLeasePlays
open Go Go.Ab Go.ChangeShapes Go.WideShapes Go.ChangeAt Go.RowKit Go.ChangeMaps

theorem own : ownKnob Try.prog.godebug = none := by kernel_rfl
theorem laid : laidOutB Try.prog = true := by kernel_rfl
theorem hrdB : (Try.f3.params.toList.all fun t => Try.prog.readableRec t && decide (t < Try.prog.types.size)) = true := by kernel_rfl
theorem hrd : ∀ t ∈ Try.f3.params.toList, Try.prog.readableRec t = true ∧ t < Try.prog.types.size := fun t ht => by
  have := List.all_eq_true.1 hrdB t ht
  simpa using this
theorem strs_bulk {H : Type} : ∀ (ss : List ByteArray), ss.length ≤ Rows.uptoBulkAll (strs ss : List (DataW H))
  | [] => Nat.zero_le _
  | s :: r => by
    have := strs_bulk (H := H) r
    simp only [strs, List.map_cons, Rows.uptoBulkAll, Rows.uptoBulk, List.length_cons] at *
    omega

theorem bulk_pos {H : Type} : ∀ d : DataW H, 1 ≤ Rows.uptoBulk d
  | .lit (.string _) => Nat.le_add_left 1 _
  | .lit (.bool _) => Nat.le_refl 1
  | .lit (.int _ _) => Nat.le_refl 1
  | .lit (.float _ _) => Nat.le_refl 1
  | .lit .nil => Nat.le_refl 1
  | .nil => Nat.le_refl 1
  | .ptr _ => Nat.le_add_left 1 _
  | .slice _ _ => Nat.le_add_left 1 _
  | .agg _ => Nat.le_add_left 1 _
  | .iface _ _ => Nat.le_add_left 1 _
  | .map _ => Nat.le_add_left 1 _
  | .held _ => Nat.le_refl 1
theorem contract (H : Type) (enc : TypeId × Value → H) (W : World) (base : Nat) (args : Array Value) (ds gs : List (DataW H)) (before : List MemPlace)
    (hval : ∀ (j : Nat) t v, Try.f3.params[j]? = some t → args[j]? = some v → Value.okWide Try.prog W .any base t v)
    (hW : DataW.Whole enc Try.prog Try.f3.params.toList Rows.leasePlaysSpec.vars false W args.toList ds gs before) (hk : Rows.uptoSmall H (ds ++ gs) = true) :
    Calls Try.prog 3 args W fun e W' => ∃ v, e = .returned v ∧ Rows.leasePlaysSpec.post enc Try.prog Try.f3 false true false false W args v W' := by
  have hW' := hW
  obtain ⟨p, q, hA0, hV, rfl, hfz, hnd⟩ := hW
  have hA : DataW.TrodAll enc Try.prog W 0 (fun _ => true) true Try.f3.params.toList args.toList ds p := hA0
  rw [Try.params3] at hA hval
  obtain ⟨v0, vs0, d0, ds0, p0, q0, hargs0, rfl, rfl, t0, r0⟩ := trodAll_cons hA
  obtain ⟨v1, vs1, d1, ds1, p1, q1, hargs1, rfl, rfl, t1, r1⟩ := trodAll_cons r0
  subst hargs1
  obtain ⟨rfl, rfl, rfl⟩ := trodAll_nil r1
  obtain rfl : args = #[v0, v1] := by cases args; simp_all
  obtain ⟨rfl, rfl⟩ := trodVars_none hV
  obtain ⟨a0, x0, y0⟩ := read_plain (n := 20) (by kernel_rfl) (hval 0 23 v0 rfl rfl) t0
  have z0 := RdD.bulk (B := Rows.uptoBulk) (BA := Rows.uptoBulkAll) rfl (fun _ _ => rfl) bulk_pos (fun _ => rfl) (fun _ _ => rfl) (fun _ => rfl) y0
  obtain ⟨s0, rfl⟩ := open_E y0
  obtain ⟨a1, x1, y1⟩ := read_plain (n := 20) (by kernel_rfl) (hval 1 24 v1 rfl rfl) t1
  have z1 := RdD.bulk (B := Rows.uptoBulk) (BA := Rows.uptoBulkAll) rfl (fun _ _ => rfl) bulk_pos (fun _ => rfl) (fun _ _ => rfl) (fun _ => rfl) y1
  obtain ⟨s1, rfl, m1⟩ := open_K y1
  have hb := of_decide_eq_true hk
  simp only [List.cons_append, List.nil_append, List.append_nil, Rows.uptoBulkAll, Rows.uptoBulk] at hb
  refine ((LeasePlays_ok s0 s1 (by first | omega | assumption) m1).calls (fun _ => rfl) ⟨rfl, fun i h => ?_⟩).mono fun e W' ⟨v, r', he, hv, hbl⟩ => ?_
  · match i, h with
    | 0, _ => exact x0
    | 1, _ => exact x1
    | k + 2, h => exact absurd h (by simp)
  subst he
  cases hv
  exact ⟨_, rfl, post_pure (pv := []) hW' (fun _ _ _ => (trodAll_cons_mk (shut_bool Try.underlying4 _) trodAll_mk0)) (fun sp hsp => trodAll_stays laid hbl hrd hA0 (fun x hx => hW'.lt x (by simpa using hx)) (fun x hx => hsp x (by simpa using hx))) (fun _ _ => rfl) rfl
    hbl (ok_one (by kernel_rfl) rfl (okWide_bool_mk Try.underlying4 _))⟩

set_option maxRecDepth 100000 in
theorem lifted (os : Os) (started : os.Started) (H : Type) (enc : TypeId × Value → H) (F : Stop.Interp) :
    ReturnsInHanded {} Try.checked os 3 .any ((Rows.OpenSpec.upto Rows.leasePlaysSpec).pre6 enc Try.prog Try.f3 Rows.leasePlaysUptoRow.domain false) (((Rows.OpenSpec.upto Rows.leasePlaysSpec).at F).post enc Try.prog Try.f3 false true false false) := by
  refine returnsInHanded_of_cond (C := Try.checked) (s := Rows.OpenSpec.upto Rows.leasePlaysSpec) (k := Rows.uptoSmall) rfl own started (by kernel_rfl) Try.func3
    (OpenSpec.witness (enc := enc) (C := Try.checked) (s := Rows.OpenSpec.upto Rows.leasePlaysSpec) (k := Rows.uptoSmall) rfl false ⟨#[], #[.agg #[.int .i64 0, .int .i64 0, .int .i64 0], .slice none 0 0], []⟩ 8 (by kernel_rfl) (by kernel_rfl) (by kernel_rfl)
      (x := ([.agg [.lit (.int .i64 0), .lit (.int .i64 0), .lit (.int .i64 0)], .nil], [], [])) (by kernel_rfl) rfl (by kernel_rfl)) ?_
  intro W base args ds gs before hval hW _ hk _
  exact contract H enc W base args ds gs before hval hW hk

theorem proved : Rows.LeasePlaysUptoSaid :=
  OpenClaim.holds_of_cond 3 Try.f3 rfl rfl rfl rfl rfl rfl rfl ⟨rfl, rfl, rfl, rfl, rfl⟩ rfl rfl rfl rfl rfl (by kernel_rfl) Try.func3 (by kernel_rfl)
    (of_decide_eq_true (by kernel_rfl)) (by unfold Func.isWrapper; first | (rw [if_pos (by decide +kernel)]; kernel_rfl) | (rw [if_neg (by decide +kernel)]; exact ⟨rfl, rfl⟩))
    (fun os started H enc _ F => lifted os started H enc F)

end Go.Proofs.Ytopdpbcfgjijaaa.lawLeasePlays
