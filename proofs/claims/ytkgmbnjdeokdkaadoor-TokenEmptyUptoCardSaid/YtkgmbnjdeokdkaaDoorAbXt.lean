/-
  Laws over package-level tables of words.
-/
import Derived.Test.YtkgmbnjdeokdkaaDoorAbX
import Derived.Lib.LaidTab
import Derived.Deep.DeepHandedRow
set_option linter.unusedVariables false
set_option linter.unusedSimpArgs false
namespace Go.Ab
open Go Go.ChangeShapes Go.WideShapes Go.ChangeAt Go.RowKit

theorem Calc.callsG {cx : Cx} {f : FuncId} {as : List AV} {res : AV} {vs : Array Value} {w : World} (h : Calc cx f as res)
    (hG : ∀ g cs, cx.G g = some cs → g < w.heap.size ∧ ∀ i (h : i < cs.length), ∃ v, w.cell? ⟨g, i, none⟩ = some v ∧ VRel (Rl.old w) w v cs[i] ∧ Free true cs[i]) (hv : VRels (Rl.old w) w vs as) (hU : ∀ g, cx.U g = true → g < w.heap.size ∧ ∃ m, w.cell? ⟨g, 0, none⟩ = some (.int .i64 m) := by intro g hg; cases hg) :
    Calls cx.P f vs w fun e w' => ∃ v r', e = .returned v ∧ VRel r' w' v res ∧ Below w.heap.size w w' := by
  refine (h.call.2 _ w vs (Inv.old w hG hU) hv).mono fun e w' ⟨o, σ', r', ⟨ho, hσ⟩, hor, hi, hx⟩ => ?_
  subst ho
  cases e with
  | returned u => exact ⟨u, r', rfl, hor, ⟨hx.os, hx.tape, hx.output, hx.hs, fun k hk => hx.same k hk (by rintro ⟨id, ver, x, o, h1, _⟩; simp at h1)⟩⟩
  | panicked chain => exact hor.elim
  | outgrown => exact hor.elim

theorem laidMet_tail {P : Program} {x : String × DataW Unit} {rest : List (String × DataW Unit)} {W : World} (h : laidMet P (x :: rest) W) : laidMet P rest W := by
  obtain ⟨ps, ⟨g, t, cs, fuel, p, q, h1, h2, h3, h4, h5, h6⟩, hn, hc⟩ := h
  subst h6
  exact ⟨q, h5, (List.nodup_append.1 hn).2.1, fun b off hm => hc b off (List.mem_append_right _ hm)⟩

/-- A table of words, as the context has it. -/
theorem tab_cells {P : Program} {W : World} {name : String} {g : Nat} {k : IntKind} {l : List Nat} (hg : P.globalNamed name = some g) (h : Lib.TabIs P W name k (l.map fun n : Nat => (n : Int))) (h0 : 0 < l.length) :
    g < W.heap.size ∧ ∀ i (h : i < (l.map fun n => AV.int k (n : Nat)).length), ∃ v, W.cell? ⟨g, i, none⟩ = some v ∧ VRel (Rl.old W) W v (l.map fun n => AV.int k (n : Nat))[i] ∧ Free true (l.map fun n => AV.int k (n : Nat))[i] := by
  refine ⟨?_, fun i hi => ?_⟩
  · have := h.cell hg 0 (by simpa using h0)
    rcases Nat.lt_or_ge g W.heap.size with hl | hl
    · exact hl
    · simp [World.cell?, Array.getElem?_eq_none hl] at this
  · have hi' : i < l.length := by simpa using hi
    refine ⟨_, h.cell hg i (by simpa using hi'), ?_⟩
    simp only [List.getElem_map]
    have : (l.map fun n : Nat => (n : Int)).getD i 0 = (l[i] : Int) := by simp [List.getD, hi']
    rw [this]; exact ⟨.int, .int⟩

theorem strs_inj {H : Type} : ∀ (ss : List ByteArray) (l : List (List UInt8)), (strs ss : List (DataW H)) = l.map (fun b => .lit (.string b)) → ss.map (·.data.toList) = l
  | [], [], _ => rfl
  | [], _ :: _, h => by cases h
  | _ :: _, [], h => by cases h
  | s :: ss, b :: l, h => by
    simp only [strs, List.map_cons, List.cons.injEq, DataW.lit.injEq, Lit.string.injEq] at h
    rw [List.map_cons, h.1, strs_inj ss l h.2]

/-- A table of texts that lies as a slice, as the context has it. -/
theorem tab_texts {P : Program} {W : World} {name : String} {g : Nat} {t e : TypeId} {l : List (List UInt8)} {rest : List (String × DataW Unit)} (hg : P.globalNamed name = some g) (ht : (P.globals[g]?).map (·.type) = some t) (hu : P.underlying t = some (.slice e)) (he : P.underlying e = some .string) (hc : P.cellsOf e = 1)
    (h : laidMet P ((name, .slice (l.map (fun b => .lit (.string b))) []) :: rest) W) :
    g < W.heap.size ∧ ∀ i (h : i < [AV.sl true false 1 (l.map AV.str)].length), ∃ v, W.cell? ⟨g, i, none⟩ = some v ∧ VRel (Rl.old W) W v ([AV.sl true false 1 (l.map AV.str)])[i] ∧ Free true ([AV.sl true false 1 (l.map AV.str)])[i] := by
  obtain ⟨ps, ⟨g', t', cs, fuel, p, q, h1, h2, h3, h4, h5, h6⟩, hn, hcc⟩ := h
  obtain rfl : g = g' := Option.some.inj (hg.symm.trans h1)
  obtain rfl : t = t' := Option.some.inj (ht.symm.trans h2)
  have hcell : ∃ tt f, W.heap[g]? = some (.cells cs tt f) := by
    simp only [World.var?, h1] at h3
    revert h3
    cases hh : W.heap[g]? with
    | none => simp [hh]
    | some o =>
      cases o with
      | cells c tt f => intro h3; simp [hh] at h3; subst h3; exact ⟨tt, f, rfl⟩
      | _ => intro h3; simp [hh] at h3
  obtain ⟨tt, f, hh⟩ := hcell
  have hlt : g < W.heap.size := by
    rcases Nat.lt_or_ge g W.heap.size with h | h
    · exact h
    · rw [Array.getElem?_eq_none h] at hh; cases hh
  refine ⟨hlt, fun i hi => ?_⟩
  obtain rfl : i = 0 := by simpa using hi
  have hfree : Free true (AV.sl true false 1 (l.map AV.str)) := .sl (fun _ => rfl) (fun x hx => by obtain ⟨y, _, rfl⟩ := List.mem_map.1 hx; exact .str)
  rcases open_strings hu he hc h4 with ⟨hcs, hx⟩ | ⟨a, len, cap, ss, hcs, _, hl, hm, hz, hx, hce, hsz⟩
  · cases hx
  · have hx1 := congrArg Prod.fst hx
    simp only [DataW.slice.injEq] at hx1
    have hss := strs_inj _ _ hx1.1.symm
    have hc0 : W.cell? ⟨g, 0, none⟩ = some (.slice (some a) len cap) := by
      have : cs[0]? = some (.slice (some a) len cap) := by rw [← Array.getElem?_toList, hcs]; rfl
      simp [World.cell?, hh, this]
    refine ⟨_, hc0, ?_, hfree⟩
    simp only [if_true] at hz
    rw [List.getElem_cons_zero, ← hss]
    rcases Nat.eq_zero_or_pos len with h0 | h0
    · subst h0
      exact .sl0 (fun h => by cases h)
    · obtain ⟨b, o, sp⟩ := a
      have hsp : sp = none := by
        cases sp with
        | none => rfl
        | some s =>
          have := hce 0 (by omega)
          simp [Addr.add, World.cell?] at this
          split at this <;> cases this
      subst hsp
      have hb : b < W.heap.size := by
        have := hce 0 (by omega)
        rw [Addr.add_lit] at this
        rcases Nat.lt_or_ge b W.heap.size with h | h
        · exact h
        · simp [World.cell?, Array.getElem?_eq_none h] at this
      refine .sl (by simp; omega) (by omega) (fun h => by cases h) hb (fun _ => hb) (fun x hx => ?_) (fun e _ => .string (ss.getD e ByteArray.empty)) (fun e he j hj => ?_) (fun e he j hj => ?_)
      · obtain ⟨y, _, rfl⟩ := List.mem_map.1 hx; rfl
      · obtain rfl : j = 0 := by omega
        have := hce e (by simp at he; omega)
        rw [Addr.add_lit] at this
        simpa using this
      · have hee : e < ss.length := by simp at he; omega
        have hx : (((ss.take len).map (·.data.toList)).map AV.str)[e]'he = .str (ss[e].data.toList) := by simp
        generalize (((ss.take len).map (·.data.toList)).map AV.str)[e]'he = z at hx hj
        subst hx
        obtain rfl : j = 0 := by simpa [AV.cells] using hj
        rw [show ss.getD e ByteArray.empty = ss[e] by simp [List.getD, hee]]
        exact .str rfl

end Go.Ab
