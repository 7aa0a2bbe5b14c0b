/-
  Reading operations: loads, slices, fields, conversions, lengths.
-/
import Derived.Test.YtjpmngjoohoddaaAbC
import Derived.Laws.BytesString
set_option linter.unusedVariables false
set_option linter.unusedSimpArgs false
namespace Go.Ab
open Go

def szOf (P : Program) (t : TypeId) : Option Nat := match P.info? t with | some i => some i.size | none => none
def aggT (P : Program) (t : TypeId) : Option Bool :=
  match P.underlying t with
  | some (.struct _) => some true
  | some (.array ..) => some true
  | some _ => some false
  | none => none

theorem run_sizeOf' {P : Program} {t : TypeId} {n : Nat} (h : szOf P t = some n) (w : World) : (sizeOf t).run P w = .ok n w := by
  unfold szOf at h
  split at h
  · rename_i i hi
    simp only [Option.some.injEq] at h
    simp [sizeOf, typeInfo, hi, h]
  · cases h

theorem run_isAgg {P : Program} {t : TypeId} {b : Bool} (h : aggT P t = some b) (w : World) : (isAgg t).run P w = .ok b w := by
  unfold aggT at h
  split at h
  · rename_i hu; simp only [Option.some.injEq] at h; subst h; simp [isAgg, run_underlying hu]
  · rename_i hu; simp only [Option.some.injEq] at h; subst h; simp [isAgg, run_underlying hu]
  · rename_i d h1 h2 hu
    simp only [Option.some.injEq] at h; subst h
    simp only [isAgg, Sem.run_bind, run_underlying hu, Result.andThen_ok, Sem.run_pure]
  · cases h

/-- Cells of memory that stand for a list. -/
def Cells (r : Rl) (w : World) (b o : Nat) (cs : List AV) : Prop := ∀ i (h : i < cs.length), ∃ v, w.cell? ⟨b, o + i, none⟩ = some v ∧ VRel r w v cs[i]

theorem Cells.drop {r : Rl} {w : World} {b o : Nat} {cs : List AV} (h : Cells r w b o cs) (k : Nat) : Cells r w b (o + k) (cs.drop k) := by
  intro i hi
  simp only [List.length_drop] at hi
  obtain ⟨v, h1, h2⟩ := h (k + i) (by omega)
  exact ⟨v, by rw [show o + k + i = o + (k + i) by omega]; exact h1, by simpa using h2⟩

theorem Cells.take {r : Rl} {w : World} {b o : Nat} {cs : List AV} (h : Cells r w b o cs) (k : Nat) : Cells r w b o (cs.take k) := by
  intro i hi
  simp only [List.length_take] at hi
  obtain ⟨v, h1, h2⟩ := h i (by omega)
  exact ⟨v, h1, by simpa using h2⟩

theorem Cells.of_rp {r : Rl} {w : World} {st : Bool} {a : Option Addr} {cs : List AV} (h : VRel r w (.pointer a) (.rp st cs)) :
    ∃ b o, a = some ⟨b, o, none⟩ ∧ r.I b ∧ (st = true → r.S b) ∧ Cells r w b o cs := by
  cases h with
  | rp hI hS f hc hv => exact ⟨_, _, rfl, hI, hS, fun i hi => ⟨f i, hc i hi, hv i hi⟩⟩

theorem Cells.rp {r : Rl} {w : World} {st : Bool} {b o : Nat} {cs : List AV} (hI : r.I b) (hS : st = true → r.S b) (h : Cells r w b o cs) :
    VRel r w (.pointer (some ⟨b, o, none⟩)) (.rp st cs) := by
  have h3 : ∀ i, ∃ v, i < cs.length → w.cell? ⟨b, o + i, none⟩ = some v := fun i => by
    by_cases hl : i < cs.length
    · obtain ⟨v, hv, _⟩ := h i hl; exact ⟨v, fun _ => hv⟩
    · exact ⟨undef, fun h => absurd h hl⟩
  refine .rp hI hS (fun i => (h3 i).choose) (fun i hl => (h3 i).choose_spec hl) (fun i hl => ?_)
  obtain ⟨v, hv, hr⟩ := h i hl
  have h4 := (h3 i).choose_spec hl
  have h5 : (h3 i).choose = v := Option.some.inj (h4.symm.trans hv)
  exact h5.symm ▸ hr

theorem Cells.load {P : Program} {r : Rl} {w : World} {b o n : Nat} {cs : List AV} (h : Cells r w b o cs) (hn : cs.length = n) :
    ∃ vs : Array Value, (loadCells ⟨b, o, none⟩ n).run P w = .ok vs w ∧ VRel r w (.agg vs) (.agg cs) ∧ vs.size = n := by
  subst hn
  have h3 : ∀ i, ∃ v, i < cs.length → w.cell? ⟨b, o + i, none⟩ = some v := fun i => by
    by_cases hl : i < cs.length
    · obtain ⟨v, hv, _⟩ := h i hl; exact ⟨v, fun _ => hv⟩
    · exact ⟨undef, fun h => absurd h hl⟩
  have hrun := run_loadCells (P := P) w ⟨b, o, none⟩ cs.length (fun i => (h3 i).choose) (fun j hj => by rw [Addr.add_lit]; exact (h3 j).choose_spec hj)
  refine ⟨_, hrun, .agg (by simp) (fun i hi => ?_), by simp⟩
  obtain ⟨v, hv, hr⟩ := h i hi
  have h4 := (h3 i).choose_spec hi
  have h5 : (h3 i).choose = v := Option.some.inj (h4.symm.trans hv)
  have h6 : (((List.range cs.length).map fun i => (h3 i).choose).toArray).getD i undef = v := by
    simp only [Array.getD_eq_getD_getElem?, List.getElem?_toArray, List.getElem?_map, List.getElem?_range hi, Option.map_some, Option.getD_some]
    exact h5
  rw [h6]; exact hr

/-- A load of a variable of type t out of cells. -/
def aLoad (P : Program) (t : TypeId) (cs : List AV) : Option AV :=
  match aggT P t with
  | some true => match szOf P t with
    | some n => bif Nat.ble n cs.length then some (.agg (cs.take n)) else none
    | none => none
  | some false => match cs with | v :: _ => some v | [] => none
  | none => none

theorem aLoad_run {P : Program} {r : Rl} {w : World} {b o : Nat} {cs : List AV} {t : TypeId} {v : AV} (hc : Cells r w b o cs) (h : aLoad P t cs = some v) :
    ∃ v', (loadVar t ⟨b, o, none⟩).run P w = .ok v' w ∧ VRel r w v' v := by
  unfold aLoad at h
  split at h
  · rename_i ha
    split at h
    · rename_i n hn
      cases hb : Nat.ble n cs.length with
      | true =>
        simp only [hb, cond_true, Option.some.injEq] at h
        subst h
        have hle := Nat.le_of_ble_eq_true hb
        obtain ⟨vs, h1, h2, _⟩ := (hc.take n).load (P := P) (n := n) (by simp; omega)
        exact ⟨.agg vs, by simp [loadVar, run_isAgg ha, run_sizeOf' hn, h1], h2⟩
      | false => simp [hb] at h
    · cases h
  · rename_i ha
    split at h
    · rename_i v0 r0
      simp only [Option.some.injEq] at h
      subst h
      obtain ⟨u, h1, h2⟩ := hc 0 (by simp)
      refine ⟨u, ?_, h2⟩
      simp only [Nat.add_zero] at h1
      simp [loadVar, run_isAgg ha, h1]
    · cases h
  · cases h

/-- The cells of a live box. -/
def boxAt (σ : Heap) (id : Nat) : Option (Nat × List AV × Tag) :=
  match σ[id]? with
  | some (cur, some (.cells cs ro)) => some (cur, cs, ro)
  | _ => none

theorem boxAt_some {σ : Heap} {id cur : Nat} {cs : List AV} {ro : Tag} (h : boxAt σ id = some (cur, cs, ro)) : σ[id]? = some (cur, some (.cells cs ro)) := by
  unfold boxAt at h
  split at h
  · rename_i h1; simp only [Option.some.injEq, Prod.mk.injEq] at h; obtain ⟨rfl, rfl, rfl⟩ := h; exact h1
  · cases h

theorem BoxRel.cells' {r : Rl} {w : World} {b o : Nat} {cs : List AV} {ro : Tag} (h : BoxRel r w b o (.cells cs ro)) : Cells r w b o cs := by
  obtain ⟨c, t, lo, hi, h1, h2, _⟩ := h
  intro i hi
  obtain ⟨v, h3, h4⟩ := h2 i hi
  exact ⟨v, by simp [World.cell?, h1, h3], h4⟩

theorem Inv.cells {cx : Cx} {r : Rl} {σ : Heap} {w : World} {id ver cur b o : Nat} {cs : List AV} {ro : Tag} (hi : Inv cx r σ w) (h : boxAt σ id = some (cur, cs, ro))
    (hv : ver = cur) (hρ : r.ρ id ver = some (b, o)) : BoxRel r w b o (.cells cs ro) := by
  subst hv
  rcases hi.box id ver _ (boxAt_some h) with ⟨b', o', h1, h2⟩ | ⟨h1, _⟩
  · rw [hρ] at h1
    simp only [Option.some.injEq, Prod.mk.injEq] at h1
    obtain ⟨rfl, rfl⟩ := h1
    exact h2
  · rw [hρ] at h1; cases h1

def aUn (op : UnOp) (x : AV) : Option AV :=
  match op, x with
  | .neg, .int k n => some (.int k (k.wrap (0 - n)))
  | .xor, .int k n => some (.int k (bitsA .xor k (if k.signed then -1 else k.max) n))
  | .not, .bool b => some (.bool !b)
  | _, _ => none

theorem aUn_run {P : Program} {r : Rl} {w : World} {op : UnOp} {x : Value} {x' v : AV} (h : aUn op x' = some v) (hx : VRel r w x x') :
    ∃ v', (Op.unary op x).run P w = .ok v' w ∧ VRel r w v' v := by
  unfold aUn at h
  split at h
  · simp only [Option.some.injEq] at h; subst h; cases hx; exact ⟨_, by simp [Op.unary, Op.intArith], .int⟩
  · simp only [Option.some.injEq] at h; subst h; cases hx; exact ⟨_, by simp only [Op.unary, Op.intBits]; rfl, .int⟩
  · simp only [Option.some.injEq] at h; subst h; cases hx; exact ⟨_, by simp [Op.unary], .bool⟩
  · cases h

def isByte : AV → Prop
  | .int .u8 n => True
  | _ => False
def byteOf : AV → UInt8
  | .int _ n => UInt8.ofNat n.toNat
  | _ => 0
def isU8 (P : Program) (e : TypeId) : Bool := match P.underlying e with | some (.int .u8) => true | _ => false

def tyU8 (P : Program) (e : TypeId) : Option TypeId := match isU8 P e with | true => some e | false => none

theorem tyU8_eq {P : Program} {e T : TypeId} (h : tyU8 P e = some T) : e = T := by
  unfold tyU8 at h
  split at h
  · exact Option.some.inj h
  · cases h

def tyS (P : Program) (t : TypeId) : Option TypeId := match P.underlying t with | some (.struct _) => some t | _ => none

theorem tyS_eq {P : Program} {e T : TypeId} (h : tyS P e = some T) : e = T := by
  unfold tyS at h
  split at h
  · exact Option.some.inj h
  · cases h

/-- What is known of the block behind an append. -/
def tagOn (P : Program) (e : TypeId) (off : Nat) (g : Tag) : Tag :=
  ⟨g.ro, match off with
    | 0 => match g.ty with
      | some T => match tyU8 P e with
        | some U => match Nat.beq T U with | true => some T | false => none
        | none => none
      | none => none
    | _ + 1 => none⟩

theorem tagOn_ty {P : Program} {e T : TypeId} {off : Nat} {g : Tag} (h : (tagOn P e off g).ty = some T) : off = 0 ∧ g.ty = some T ∧ e = T := by
  unfold tagOn at h
  simp only at h
  split at h
  · split at h
    · rename_i T' hg
      split at h
      · rename_i U hU
        split at h
        · rename_i hb
          obtain rfl : T' = T := Option.some.inj h
          exact ⟨rfl, hg, (tyU8_eq hU).trans (Nat.eq_of_beq_eq_true hb).symm⟩
        · cases h
      · cases h
    · cases h
  · cases h

theorem isU8_eq {P : Program} {e : TypeId} (h : isU8 P e = true) : P.underlying e = some (.int .u8) := by
  unfold isU8 at h
  split at h
  · assumption
  · cases h

/-- The elements of a slice value, as long as it is read alone. -/
def aElems (σ : Heap) : AV → Option (List Prop × Nat × List AV)
  | .nils => some ([], 1, [])
  | .sl _ _ sz xs => some ([sz = 1], xs.length, xs)
  | .ms id ver off len sz _ => match boxAt σ id with
    | some (cur, cs, _) => some ([ver = cur, sz = 1, off + len ≤ cs.length], len, (cs.drop off).take len)
    | none => none
  | _ => none

def aConv (P : Program) (src dst : TypeId) (x : AV) (σ : Heap) : Option (List Prop × AV) :=
  match P.underlying src, P.underlying dst, x with
  | some _, some (.int k), .int _ n => some ([], .int k (k.wrap n))
  | some _, some .string, .int _ n => some ([], .str (Utf8.encode n).data.toList)
  | some _, some .string, .str s => some ([], .str s)
  | some (.slice e), some .string, x => bif isU8 P e then
      match x with
      | .nils => some ([], .str [])
      | .sl _ _ sz xs => some ([sz = 1, ∀ x ∈ xs, isByte x], .str (xs.map byteOf))
      | .ms id ver off len sz _ => match boxAt σ id with
        | some (cur, cs, _) => some ([ver = cur, sz = 1, off + len ≤ cs.length, ∀ x ∈ (cs.drop off).take len, isByte x], .str (((cs.drop off).take len).map byteOf))
        | none => none
      | _ => none
    else none
  | _, _, _ => none

theorem isByte_eq {r : Rl} {w : World} {v : Value} {a : AV} (h : isByte a) (hv : VRel r w v a) : ∃ n, v = .int .u8 n ∧ byteOf a = UInt8.ofNat n.toNat := by
  cases hv <;> simp only [isByte] at h
  rename_i k n
  cases k <;> simp only [isByte] at h
  exact ⟨n, rfl, rfl⟩

theorem foldl_push_toList (ns : List Int) : ∀ s : ByteArray, (ns.foldl (fun r n => r.push (UInt8.ofNat n.toNat)) s).data.toList = s.data.toList ++ ns.map fun n => UInt8.ofNat n.toNat := by
  induction ns with
  | nil => intro s; simp
  | cons n ns ih => intro s; simp [ih]

theorem Cells.bytes {P : Program} {r : Rl} {w : World} {b o cap n : Nat} {cs : List AV} (h : Cells r w b o cs) (hb : ∀ x ∈ cs, isByte x) (hn : cs.length = n) :
    ∃ s : ByteArray, (Conv.bytesToString (.slice (some ⟨b, o, none⟩) n cap)).run P w = .ok (.string s) w ∧ s.data.toList = cs.map byteOf := by
  subst hn
  have h3 : ∀ i, ∃ m : Int, ∀ hl : i < cs.length, w.cell? ⟨b, o + i, none⟩ = some (.int .u8 m) ∧ byteOf cs[i] = UInt8.ofNat m.toNat := fun i => by
    by_cases hl : i < cs.length
    · obtain ⟨v, hv, hr⟩ := h i hl
      obtain ⟨m, h1, h2⟩ := isByte_eq (hb _ (List.getElem_mem hl)) hr
      exact ⟨m, fun _ => ⟨by rw [hv, h1], h2⟩⟩
    · exact ⟨0, fun h => absurd h hl⟩
  have hrun := run_loadCells (P := P) w ⟨b, o, none⟩ cs.length (fun i => Value.int .u8 (h3 i).choose) (fun j hj => by rw [Addr.add_lit]; exact ((h3 j).choose_spec hj).1)
  rw [show (List.range cs.length).map (fun i => Value.int .u8 (h3 i).choose) = ((List.range cs.length).map fun i => (h3 i).choose).map (Value.int .u8) by rw [List.map_map]; rfl] at hrun
  refine ⟨_, run_bytesToString w _ _ cap _ hrun, ?_⟩
  rw [foldl_push_toList]
  simp only [ByteArray.data_empty, List.nil_append, List.map_map]
  apply List.ext_getElem
  · simp
  · intro i h1 h2
    simp only [List.length_map, List.length_range] at h1
    simp only [List.getElem_map, List.getElem_range, Function.comp]
    exact (((h3 i).choose_spec h1).2).symm

theorem Cells.of_sl {r : Rl} {w : World} {st fl : Bool} {a : Option Addr} {n cap : Nat} {xs : List AV} (h : VRel r w (.slice a n cap) (.sl st fl 1 xs)) (h1 : ∀ x ∈ xs, x.one = true) :
    (xs = [] ∧ n = 0) ∨ ∃ b o, a = some ⟨b, o, none⟩ ∧ n = xs.length ∧ Cells r w b o xs := by
  cases h with
  | sl0 => exact .inl ⟨rfl, rfl⟩
  | sl hn hc0 hf hI hS hsz f hc hv =>
    refine .inr ⟨_, _, rfl, hn, fun i hi => ?_⟩
    have hx : (xs[i]).cells = [xs[i]] := by
      have := h1 _ (List.getElem_mem hi)
      generalize xs[i] = y at this ⊢
      cases y <;> first | rfl | simp [AV.one] at this
    have h2 := hv i hi 0 (by rw [hx]; simp)
    simp only [hx, List.getElem_cons_zero] at h2
    exact ⟨f i 0, by have := hc i hi 0 (by omega); simpa using this, h2⟩

theorem isByte_one {x : AV} (h : isByte x) : x.one = true := by
  cases x <;> simp only [isByte] at h
  rfl

theorem aConv_run {cx : Cx} {r : Rl} {σ : Heap} {w : World} {src dst : TypeId} {x : Value} {x' v : AV} {C : List Prop} (hi : Inv cx r σ w) (h : aConv cx.P src dst x' σ = some (C, v))
    (hC : AllP C) (hx : VRel r w x x') : ∃ v', (convert src dst x).run cx.P w = .ok v' w ∧ VRel r w v' v := by
  unfold aConv at h
  split at h
  · rename_i d h1 h2
    simp only [Option.some.injEq, Prod.mk.injEq] at h; obtain ⟨rfl, rfl⟩ := h
    cases hx
    exact ⟨_, by simp [convert, run_underlying h1, run_underlying h2, Conv.intToInt], .int⟩
  · rename_i d h1 h2
    simp only [Option.some.injEq, Prod.mk.injEq] at h; obtain ⟨rfl, rfl⟩ := h
    cases hx
    exact ⟨_, by simp [convert, run_underlying h1, run_underlying h2, Conv.intToString], .str rfl⟩
  · rename_i d h1 h2
    simp only [Option.some.injEq, Prod.mk.injEq] at h; obtain ⟨rfl, rfl⟩ := h
    cases hx with
    | str hs => exact ⟨_, by simp [convert, run_underlying h1, run_underlying h2], .str hs⟩
  · rename_i e h1 h2 hn1 hn2
    cases hu : isU8 cx.P e with
    | false => simp [hu] at h
    | true =>
      simp only [hu, cond_true] at h
      have he := isU8_eq hu
      have hconv : ∀ a l c, (convert src dst (.slice a l c)).run cx.P w = (Conv.bytesToString (.slice a l c)).run cx.P w :=
        fun a l c => run_convert_bytes_string w src dst e a l c h1 he h2
      split at h
      · simp only [Option.some.injEq, Prod.mk.injEq] at h; obtain ⟨rfl, rfl⟩ := h
        cases hx
        exact ⟨.string .empty, by rw [hconv]; simp [Conv.bytesToString], .str rfl⟩
      · simp only [Option.some.injEq, Prod.mk.injEq] at h; obtain ⟨rfl, rfl⟩ := h
        obtain ⟨hs1, hby, _⟩ := hC
        subst hs1
        cases x with
        | slice a n cap =>
          rcases Cells.of_sl hx (fun x hx => isByte_one (hby x hx)) with ⟨rfl, rfl⟩ | ⟨b, o, rfl, rfl, hc⟩
          · rw [hconv]
            cases a with
            | none => exact ⟨.string .empty, by simp [Conv.bytesToString], .str rfl⟩
            | some a =>
              have := run_bytesToString (P := cx.P) w a 0 cap [] (by simp [loadCells, loadCellsFrom])
              exact ⟨_, this, .str rfl⟩
          · obtain ⟨s, h3, h4⟩ := hc.bytes (P := cx.P) (cap := cap) hby rfl
            exact ⟨_, by rw [hconv]; exact h3, .str h4⟩
        | _ => cases hx
      · split at h
        · rename_i id ver off len sz fl cur cs ro hbx
          simp only [Option.some.injEq, Prod.mk.injEq] at h; obtain ⟨rfl, rfl⟩ := h
          obtain ⟨hv, hs1, hle, hby, _⟩ := hC
          subst hs1
          cases hx with
          | ms0 =>
            rename_i a
            rw [hconv]
            simp only [List.take_zero, List.map_nil]
            cases a with
            | none => exact ⟨.string .empty, by simp [Conv.bytesToString], .str rfl⟩
            | some a =>
              have := run_bytesToString (P := cx.P) w a 0 0 [] (by simp [loadCells, loadCellsFrom])
              exact ⟨_, this, .str rfl⟩
          | ms hρ hcap hn hf =>
            obtain ⟨s, h3, h4⟩ := (((hi.cells hbx hv hρ).cells'.drop _).take _).bytes (P := cx.P) (cap := _) hby (n := off) (by rw [List.length_take, List.length_drop]; omega)
            exact ⟨_, by rw [hconv]; exact h3, .str h4⟩
        · cases h
      · cases h
  · cases h

end Go.Ab
