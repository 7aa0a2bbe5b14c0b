/-
  Texts of our own, in one file.
-/
import Derived.Calls
import Derived.Tactics
import Derived.Laws.Sem
import Derived.Laws.World
import Derived.Laws.Cells
import Derived.Laws.Append
import Derived.Laws.AppendOwn
import Derived.Laws.IdiomCopy
import Derived.Laws.Entries
import Derived.Laws.Strings
import Derived.Laws.BytesString
import Derived.Laws.StructEq
import Derived.Lib.MinMax
section
set_option linter.unusedVariables false
set_option linter.unusedSimpArgs false
namespace Go.Ab
open Go
inductive AV where
  | top
  | bool (b : Bool)
  | int (k : IntKind) (n : Int)
  | str (s : List UInt8)
  | nilp
  | ptr (id ver off : Nat)
  | eptr (id ver off : Nat)
  | rp (st : Bool) (cs : List AV)
  | nils
  | sl (st fl : Bool) (sz : Nat) (xs : List AV)
  | ms (id ver off len sz : Nat) (full : Bool)
  | nilm
  | map (id ver : Nat)
  | func (fn : Fn) (first captured : List AV)
  | nilf
  | iface (t : TypeId) (v : AV)
  | nili
  | agg (cs : List AV)
  | tup (vs : List AV)
  | mark (vs : List AV)
  deriving Inhabited
structure Tag where
  ro : Bool
  ty : Option TypeId
inductive Box where
  | cells (cs : List AV) (g : Tag)
  | map (kvs : List (AV × AV)) (st : Option (List Nat × Nat))
  | siter (s : List UInt8) (pos : Nat)
  | miter (id ver since : Nat) (seen : List Nat) (last : Nat)
abbrev Heap := List (Nat × Option Box)
abbrev Fr := List (Nat × AV)
def AV.cells : AV → List AV
  | .agg cs => cs
  | v => [v]
def AV.one : AV → Bool
  | .agg _ | .tup _ | .top | .mark _ => false
  | _ => true
def Fr.get : Fr → Nat → AV
  | [], _ => .top
  | (s, v) :: r, t => bif Nat.beq s t then v else Fr.get r t
structure Rl where
  S : Nat → Prop
  I : Nat → Prop
  ρ : Nat → Nat → Option (Nat × Nat)
inductive VRel (r : Rl) (w : World) : Value → AV → Prop
  | top {v} : VRel r w v .top
  | bool {b} : VRel r w (.bool b) (.bool b)
  | int {k n} : VRel r w (.int k n) (.int k n)
  | str {s l} (h : s.data.toList = l) : VRel r w (.string s) (.str l)
  | nilp : VRel r w (.pointer none) .nilp
  | ptr {id ver b o off} (h : r.ρ id ver = some (b, o)) : VRel r w (.pointer (some ⟨b, o + off, none⟩)) (.ptr id ver off)
  | eptr {id ver b o off} (h : r.ρ id ver = some (b, o)) : VRel r w (.pointer (some ⟨b, o + off, none⟩)) (.eptr id ver off)
  | rp {st b o cs} (hI : r.I b) (hS : st = true → r.S b) (f : Nat → Value) (hc : ∀ i, i < cs.length → w.cell? ⟨b, o + i, none⟩ = some (f i))
      (hv : ∀ i (h : i < cs.length), VRel r w (f i) cs[i]) : VRel r w (.pointer (some ⟨b, o, none⟩)) (.rp st cs)
  | nils : VRel r w (.slice none 0 0) .nils
  | sl0 {st fl sz a cap} (hf : fl = true → cap = 0) : VRel r w (.slice a 0 cap) (.sl st fl sz [])
  | sl {st fl sz b o xs n cap} (hn : n = xs.length) (hc0 : n ≤ cap) (hf : fl = true → cap = n) (hI : r.I b) (hS : st = true → r.S b) (hsz : ∀ x ∈ xs, x.cells.length = sz) (f : Nat → Nat → Value)
      (hc : ∀ e, e < xs.length → ∀ j, j < sz → w.cell? ⟨b, o + e * sz + j, none⟩ = some (f e j))
      (hv : ∀ e (he : e < xs.length) j (hj : j < (AV.cells (xs[e]'he)).length), VRel r w (f e j) ((AV.cells (xs[e]'he))[j]'hj)) : VRel r w (.slice (some ⟨b, o, none⟩) n cap) (.sl st fl sz xs)
  | ms0 {id ver off sz full a} : VRel r w (.slice a 0 0) (.ms id ver off 0 sz full)
  | ms {id ver b o off n cap sz full} (h : r.ρ id ver = some (b, o)) (hcap : ∃ c t f, w.heap[b]? = some (.cells c t f) ∧ o + off + cap * sz ≤ c.size) (hn : n ≤ cap)
      (hf : full = true → cap = n) : VRel r w (.slice (some ⟨b, o + off, none⟩) n cap) (.ms id ver off n sz full)
  | nilm : VRel r w (.map none) .nilm
  | map {id ver b o} (h : r.ρ id ver = some (b, o)) : VRel r w (.map (some b)) (.map id ver)
  | func {fn first captured fs bs} (h1 : first.size = fs.length) (hf : ∀ i (h : i < fs.length), VRel r w (first.getD i undef) fs[i])
      (h2 : captured.size = bs.length) (hb : ∀ i (h : i < bs.length), VRel r w (captured.getD i undef) bs[i]) : VRel r w (.func fn first captured) (.func fn fs bs)
  | nilf : VRel r w .nilFunc .nilf
  | iface {t v a} (h : VRel r w v a) : VRel r w (.iface t v) (.iface t a)
  | nili : VRel r w .nilIface .nili
  | agg {cs az} (hn : cs.size = az.length) (h : ∀ i (hi : i < az.length), VRel r w (cs.getD i undef) az[i]) : VRel r w (.agg cs) (.agg az)
  | tup {vs az} (hn : vs.size = az.length) (h : ∀ i (hi : i < az.length), VRel r w (vs.getD i undef) az[i]) : VRel r w (.tuple vs) (.tup az)
  | mark {v vs} : VRel r w v (.mark vs)
structure Grow (r : Rl) (w : World) (r' : Rl) (w' : World) : Prop where
  S : ∀ b, r.S b → r'.S b
  I : ∀ b, r.I b → r'.I b
  ρ : ∀ id ver p, r.ρ id ver = some p → r'.ρ id ver = some p
  same : ∀ b, r.I b → w'.heap[b]? = w.heap[b]?
  size : ∀ (b : Nat) (c : Array Value) (t : TypeId) (f : Nat × Nat), w.heap[b]? = some (Obj.cells c t f) → ∃ (c' : Array Value) (f' : Nat × Nat), w'.heap[b]? = some (Obj.cells c' t f') ∧ c'.size = c.size
theorem cell_of_same {w w' : World} {b o : Nat} (h : w'.heap[b]? = w.heap[b]?) : w'.cell? ⟨b, o, none⟩ = w.cell? ⟨b, o, none⟩ := by
  simp [World.cell?, h]
theorem VRel.mono {r r' : Rl} {w w' : World} (g : Grow r w r' w') {v : Value} {a : AV} (h : VRel r w v a) : VRel r' w' v a := by
  induction h with
  | top => exact .top
  | bool => exact .bool
  | int => exact .int
  | str h => exact .str h
  | nilp => exact .nilp
  | ptr h => exact .ptr (g.ρ _ _ _ h)
  | eptr h => exact .eptr (g.ρ _ _ _ h)
  | rp hI hS f hc _ ih => exact .rp (g.I _ hI) (fun h => g.S _ (hS h)) f (fun i hi => by rw [cell_of_same (g.same _ hI)]; exact hc i hi) ih
  | nils => exact .nils
  | sl0 h => exact .sl0 h
  | sl hn hc0 hf hI hS hsz f hc _ ih => exact .sl hn hc0 hf (g.I _ hI) (fun h => g.S _ (hS h)) hsz f (fun e he j hj => by rw [cell_of_same (g.same _ hI)]; exact hc e he j hj) ih
  | ms0 => exact .ms0
  | ms h hcap hn hf =>
    obtain ⟨c, t, f, h1, h2⟩ := hcap
    obtain ⟨c', f', h3, h4⟩ := g.size _ _ _ _ h1
    exact .ms (g.ρ _ _ _ h) ⟨c', t, f', h3, by omega⟩ hn hf
  | nilm => exact .nilm
  | map h => exact .map (g.ρ _ _ _ h)
  | func h1 _ h2 _ ih1 ih2 => exact .func h1 ih1 h2 ih2
  | nilf => exact .nilf
  | iface _ ih => exact .iface ih
  | nili => exact .nili
  | agg hn _ ih => exact .agg hn ih
  | tup hn _ ih => exact .tup hn ih
  | mark => exact .mark
theorem VRel.one {r : Rl} {w : World} {v : Value} {a : AV} (h : VRel r w v a) (ha : a.one = true) : v.oneCell' = true := by
  cases h <;> first | rfl | simp [AV.one] at ha
def isU8 (P : Program) (e : TypeId) : Bool := match P.underlying e with | some (.int .u8) => true | _ => false
def tyU8 (P : Program) (e : TypeId) : Option TypeId := match isU8 P e with | true => some e | false => none
def BoxRel (P : Program) (r : Rl) (w : World) (b o : Nat) : Box → Prop
  | .cells cs ro => ∃ c t lo hi, w.heap[b]? = some (.cells c t (lo, hi)) ∧ (∀ i (h : i < cs.length), ∃ v, c[o + i]? = some v ∧ VRel r w v cs[i]) ∧
      (∀ x ∈ cs, x.one = true) ∧ (∀ i, lo ≤ i → i < hi → i < c.size → ro.ro = true ∧ i < o + cs.length) ∧ (∀ T, ro.ty = some T → t = T ∧ o = 0 ∧ (ro.ro = false → tyU8 P T = none → hi ≤ lo))
  | .map kvs st => o = 0 ∧ ∃ es clock, w.heap[b]? = some (.map es clock) ∧ es.size = kvs.length ∧
      (∀ i (h : i < kvs.length), ∃ e, es[i]? = some e ∧ VRel r w e.key kvs[i].1 ∧ VRel r w e.val kvs[i].2) ∧
      (∀ (i j : Nat) (e f : MapEntry), es[i]? = some e → es[j]? = some f → e.born = f.born → i = j) ∧ (∀ (i : Nat) (e : MapEntry), es[i]? = some e → e.born < clock) ∧ (∀ bs c, st = some (bs, c) → es.toList.map MapEntry.born = bs ∧ clock = c)
  | .siter s pos => o = 0 ∧ ∃ bs : ByteArray, bs.data.toList = s ∧ w.heap[b]? = some (.stringIter bs pos)
  | .miter id ver since seen last => o = 0 ∧ ∃ mb : Nat, r.ρ id ver = some (mb, 0) ∧ w.heap[b]? = some (.mapIter (some mb) since seen.toArray last)
theorem BoxRel.mono {P : Program} {r r' : Rl} {w w' : World} {b o : Nat} {x : Box} (g : Grow r w r' w') (hb : w'.heap[b]? = w.heap[b]?) (h : BoxRel P r w b o x) : BoxRel P r' w' b o x := by
  cases x with
  | cells cs ro =>
    obtain ⟨c, t, lo, hi, h1, h2, h3, h4⟩ := h
    refine ⟨c, t, lo, hi, by rw [hb, h1], fun i hi => ?_, h3, h4⟩
    obtain ⟨v, hv, hr⟩ := h2 i hi
    exact ⟨v, hv, hr.mono g⟩
  | map kvs st =>
    obtain ⟨h0, es, clock, h1, h2, h3, h4⟩ := h
    refine ⟨h0, es, clock, by rw [hb, h1], h2, fun i hi => ?_, h4⟩
    obtain ⟨e, he, hk, hv⟩ := h3 i hi
    exact ⟨e, he, hk.mono g, hv.mono g⟩
  | siter s pos =>
    obtain ⟨h0, bs, h1, h2⟩ := h
    exact ⟨h0, bs, h1, by rw [hb, h2]⟩
  | miter id ver since seen last =>
    obtain ⟨h0, mb, h1, h2⟩ := h
    exact ⟨h0, mb, g.ρ _ _ _ h1, by rw [hb, h2]⟩
structure Cx where
  P : Program
  G : Nat → Option (List AV)
  U : Nat → Bool := fun _ => false
  X : Nat → Option (Array Value) := fun _ => none
def Live (r : Rl) (σ : Heap) (b : Nat) : Prop := ∃ (id ver : Nat) (x : Box) (o : Nat), σ[id]? = some (ver, some x) ∧ r.ρ id ver = some (b, o)
inductive Free (st : Bool) : AV → Prop
  | top : Free st .top
  | bool {b} : Free st (.bool b)
  | int {k n} : Free st (.int k n)
  | str {s} : Free st (.str s)
  | nilp : Free st .nilp
  | nils : Free st .nils
  | nilm : Free st .nilm
  | nilf : Free st .nilf
  | nili : Free st .nili
  | rp {b cs} (h : st = true → b = true) (hx : ∀ x ∈ cs, Free st x) : Free st (.rp b cs)
  | sl {b fl sz xs} (h : st = true → b = true) (hx : ∀ x ∈ xs, Free st x) : Free st (.sl b fl sz xs)
  | iface {t v} (h : Free st v) : Free st (.iface t v)
  | agg {cs} (h : ∀ x ∈ cs, Free st x) : Free st (.agg cs)
  | tup {cs} (h : ∀ x ∈ cs, Free st x) : Free st (.tup cs)
  | func {fn a b} (h : ∀ x ∈ a, Free st x) (h' : ∀ x ∈ b, Free st x) : Free st (.func fn a b)
theorem Free.cells {st : Bool} {a : AV} (h : Free st a) : ∀ x ∈ a.cells, Free st x := by
  cases a with
  | agg cs => cases h; assumption
  | _ => intro x hx; simp only [AV.cells, List.mem_singleton] at hx; subst hx; exact h
theorem VRel.free {st : Bool} {r r' : Rl} {w : World} {v : Value} {a : AV} (h : VRel r w v a) (hf : Free st a) (hS : ∀ b, r.S b → r'.S b) (hSI : ∀ b, r'.S b → r'.I b) (hI : st = false → ∀ b, r.I b → r'.I b) : VRel r' w v a := by
  induction h with
  | top => exact .top
  | mark => exact .mark
  | bool => exact .bool
  | int => exact .int
  | str h => exact .str h
  | nilp => exact .nilp
  | ptr h => cases hf
  | eptr h => cases hf
  | rp hI' hS' f hc _ ih =>
    cases hf with
    | rp hb hx =>
      refine .rp ?_ (fun h => hS _ (hS' h)) f hc (fun i hi => ih i hi (hx _ (List.getElem_mem hi)))
      cases hst : st with
      | true => exact hSI _ (hS _ (hS' (hb hst)))
      | false => exact hI hst _ hI'
  | nils => exact .nils
  | sl0 h => exact .sl0 h
  | sl hn hc0 hf' hI' hS' hsz f hc _ ih =>
    cases hf with
    | sl hb hx =>
      refine .sl hn hc0 hf' ?_ (fun h => hS _ (hS' h)) hsz f hc (fun e he j hj => ih e he j hj ((hx _ (List.getElem_mem he)).cells _ (List.getElem_mem hj)))
      cases hst : st with
      | true => exact hSI _ (hS _ (hS' (hb hst)))
      | false => exact hI hst _ hI'
  | ms0 => cases hf
  | ms h hcap hn hf' => cases hf
  | nilm => exact .nilm
  | map h => cases hf
  | func h1 _ h2 _ ih1 ih2 =>
    cases hf with
    | func ha hb => exact .func h1 (fun i hi => ih1 i hi (ha _ (List.getElem_mem hi))) h2 (fun i hi => ih2 i hi (hb _ (List.getElem_mem hi)))
  | nilf => exact .nilf
  | iface _ ih => cases hf with | iface h => exact .iface (ih h)
  | nili => exact .nili
  | agg hn _ ih => cases hf with | agg h => exact .agg hn (fun i hi => ih i hi (h _ (List.getElem_mem hi)))
  | tup hn _ ih => cases hf with | tup h => exact .tup hn (fun i hi => ih i hi (h _ (List.getElem_mem hi)))
structure Globs (cx : Cx) (r : Rl) (w : World) : Prop where
  G : ∀ g cs, cx.G g = some cs → r.S g ∧ ∀ i (h : i < cs.length), ∃ v, w.cell? ⟨g, i, none⟩ = some v ∧ VRel r w v cs[i] ∧ Free true cs[i]
  U : ∀ g, cx.U g = true → r.S g ∧ ∃ m, w.cell? ⟨g, 0, none⟩ = some (.int .i64 m)
  X : ∀ g vs, cx.X g = some vs → r.S g ∧ ∃ (t : TypeId) (f : Nat × Nat), w.heap[g]? = some (Obj.cells vs t f)
theorem Globs.mono {cx : Cx} {r r' : Rl} {w w' : World} (h : Globs cx r w) (g : Grow r w r' w') (hSI : ∀ b, r.S b → r.I b) : Globs cx r' w' where
  G k cs hk := by
    obtain ⟨h1, h2⟩ := h.G k cs hk
    refine ⟨g.S _ h1, fun i hl => ?_⟩
    obtain ⟨v, h3, h4, h5⟩ := h2 i hl
    exact ⟨v, by rw [cell_of_same (g.same k (hSI k h1))]; exact h3, h4.mono g, h5⟩
  U k hk := by
    obtain ⟨h1, m, h2⟩ := h.U k hk
    exact ⟨g.S _ h1, m, by rw [cell_of_same (g.same k (hSI k h1))]; exact h2⟩
  X k vs hk := by
    obtain ⟨h1, t, f, h2⟩ := h.X k vs hk
    exact ⟨g.S _ h1, t, f, by rw [g.same k (hSI k h1)]; exact h2⟩
theorem Globs.free {cx : Cx} {r r' : Rl} {w : World} (h : Globs cx r w) (hS : ∀ b, r.S b → r'.S b) (hSI : ∀ b, r'.S b → r'.I b) : Globs cx r' w where
  G k cs hk := by
    obtain ⟨h1, h2⟩ := h.G k cs hk
    refine ⟨hS _ h1, fun i hl => ?_⟩
    obtain ⟨v, h3, h4, h5⟩ := h2 i hl
    exact ⟨v, h3, h4.free h5 hS hSI (fun h => by cases h), h5⟩
  U k hk := by
    obtain ⟨h1, h2⟩ := h.U k hk
    exact ⟨hS _ h1, h2⟩
  X k vs hk := by
    obtain ⟨h1, h2⟩ := h.X k vs hk
    exact ⟨hS _ h1, h2⟩
structure Inv (cx : Cx) (r : Rl) (σ : Heap) (w : World) : Prop where
  box : ∀ (id ver : Nat) x, σ[id]? = some (ver, some x) → (∃ b o, r.ρ id ver = some (b, o) ∧ BoxRel cx.P r w b o x) ∨ (r.ρ id ver = none ∧ ∃ ro, x = .cells [] ro)
  lt : ∀ (id ver : Nat) b o, r.ρ id ver = some (b, o) → (∃ cur x, σ[id]? = some (cur, x) ∧ ver ≤ cur) ∧ b < w.heap.size
  inj : ∀ (id id' ver ver' : Nat) x x' b o o', σ[id]? = some (ver, some x) → σ[id']? = some (ver', some x') → r.ρ id ver = some (b, o) → r.ρ id' ver' = some (b, o') → id = id'
  imm : ∀ b, Live r σ b → ¬ r.I b
  Ilt : ∀ b, r.I b → b < w.heap.size
  SI : ∀ b, r.S b → r.I b
  glob : Globs cx r w
structure Ext (r : Rl) (σ : Heap) (w : World) (r' : Rl) (σ' : Heap) (w' : World) : Prop where
  S : ∀ b, r.S b → r'.S b
  I : ∀ b, r.I b → r'.I b
  Sf : ∀ b, r'.S b → r.S b ∨ w.heap.size ≤ b
  If : ∀ b, r'.I b → r.I b ∨ Live r σ b ∨ w.heap.size ≤ b
  ρ : ∀ id ver p, r.ρ id ver = some p → r'.ρ id ver = some p
  hs : w.heap.size ≤ w'.heap.size
  σl : σ.length ≤ σ'.length
  same : ∀ b, b < w.heap.size → ¬ Live r σ b → w'.heap[b]? = w.heap[b]?
  liv : ∀ b, Live r' σ' b → Live r σ b ∨ w.heap.size ≤ b
  size : ∀ (b : Nat) (c : Array Value) (t : TypeId) (f : Nat × Nat), w.heap[b]? = some (Obj.cells c t f) → ∃ (c' : Array Value) (f' : Nat × Nat), w'.heap[b]? = some (Obj.cells c' t f') ∧ c'.size = c.size
  os : w'.os = w.os
  output : w'.output = w.output
  tape : w'.tape = w.tape
  blk : ∀ (id ver b o : Nat), r'.ρ id ver = some (b, o) → (∃ ver' o' : Nat, r.ρ id ver' = some (b, o')) ∨ w.heap.size ≤ b
theorem Ext.refl (r : Rl) (σ : Heap) (w : World) : Ext r σ w r σ w :=
  ⟨fun _ h => h, fun _ h => h, fun _ h => .inl h, fun _ h => .inl h, fun _ _ _ h => h, Nat.le_refl _, Nat.le_refl _, fun _ _ _ => rfl, fun _ h => .inl h,
    fun _ c _ f h => ⟨c, f, h, rfl⟩, rfl, rfl, rfl, fun id ver b o h => .inl ⟨ver, o, h⟩⟩
theorem Ext.grow {cx : Cx} {r r' : Rl} {σ σ' : Heap} {w w' : World} (hi : Inv cx r σ w) (h : Ext r σ w r' σ' w') : Grow r w r' w' :=
  ⟨h.S, h.I, h.ρ, fun b hb => h.same b (hi.Ilt b hb) (fun hl => hi.imm b hl hb), h.size⟩
theorem Ext.trans {r₀ r₁ r₂ : Rl} {σ₀ σ₁ σ₂ : Heap} {w₀ w₁ w₂ : World} (h : Ext r₀ σ₀ w₀ r₁ σ₁ w₁) (k : Ext r₁ σ₁ w₁ r₂ σ₂ w₂) : Ext r₀ σ₀ w₀ r₂ σ₂ w₂ where
  S b hb := k.S b (h.S b hb)
  I b hb := k.I b (h.I b hb)
  Sf b hb := by
    rcases k.Sf b hb with h1 | h1
    · exact h.Sf b h1
    · exact .inr (Nat.le_trans h.hs h1)
  If b hb := by
    rcases k.If b hb with h1 | h1 | h1
    · exact h.If b h1
    · exact .inr (h.liv b h1)
    · exact .inr (.inr (Nat.le_trans h.hs h1))
  ρ id ver p hp := k.ρ id ver p (h.ρ id ver p hp)
  hs := Nat.le_trans h.hs k.hs
  σl := Nat.le_trans h.σl k.σl
  same b hb hl := by
    have h1 : ¬ Live r₁ σ₁ b := fun hl' => by
      rcases h.liv b hl' with h2 | h2
      · exact hl h2
      · omega
    rw [k.same b (Nat.lt_of_lt_of_le hb h.hs) h1, h.same b hb hl]
  liv b hb := by
    rcases k.liv b hb with h1 | h1
    · exact h.liv b h1
    · exact .inr (Nat.le_trans h.hs h1)
  size b c t f hb := by
    obtain ⟨c', f', h1, h2⟩ := h.size b c t f hb
    obtain ⟨c'', f'', h3, h4⟩ := k.size b c' t f' h1
    exact ⟨c'', f'', h3, by omega⟩
  os := k.os.trans h.os
  output := k.output.trans h.output
  tape := k.tape.trans h.tape
  blk id ver b o hb := by
    rcases k.blk id ver b o hb with ⟨v1, o1, h1⟩ | h1
    · exact h.blk id v1 b o1 h1
    · exact .inr (Nat.le_trans h.hs h1)
def DRel (r : Rl) (w : World) (ds : List Deferred) (vs : List AV) : Prop :=
  ds.length = vs.length ∧ ∀ i (h : i < ds.length) (h' : i < vs.length), ∃ fv cap, (ds[i]).target = .fn fv cap ∧ VRel r w (.func fv (ds[i]).args cap) vs[i]
theorem DRel.mono {r r' : Rl} {w w' : World} (g : Grow r w r' w') {ds : List Deferred} {vs : List AV} (h : DRel r w ds vs) : DRel r' w' ds vs :=
  ⟨h.1, fun i h1 h2 => let ⟨fv, cap, e, v⟩ := h.2 i h1 h2; ⟨fv, cap, e, v.mono g⟩⟩
structure FRel (r : Rl) (w : World) (n : Nat) (fr : Fr) (a : Act) : Prop where
  size : a.tmps.size = n
  get : ∀ t, VRel r w (a.tmps.getD t undef) (fr.get t)
  defs : ∀ vs, fr.get n = .mark vs → DRel r w a.defers vs
theorem FRel.mono {r r' : Rl} {w w' : World} {n : Nat} {fr : Fr} {a : Act} (g : Grow r w r' w') (h : FRel r w n fr a) : FRel r' w' n fr a :=
  ⟨h.size, fun t => (h.get t).mono g, fun vs hv => (h.defs vs hv).mono g⟩
theorem getD_setIfInBounds {tmps : Array Value} {d t : Nat} {v : Value} (h : d < tmps.size) : (tmps.setIfInBounds d v).getD t undef = if d = t then v else tmps.getD t undef := by
  simp only [Array.getD_eq_getD_getElem?, Array.getElem?_setIfInBounds]
  split
  · rename_i h1; subst h1; simp [h]
  · rfl
theorem Fr.get_cons (s : Nat) (v : AV) (fr : Fr) (t : Nat) : Fr.get ((s, v) :: fr) t = if s = t then v else Fr.get fr t := by
  simp only [Fr.get]
  by_cases h : s = t
  · subst h; simp
  · have : Nat.beq s t = false := by
      cases hb : Nat.beq s t
      · rfl
      · exact absurd (Nat.eq_of_beq_eq_true hb) h
    simp [this, h]
theorem FRel.set {r : Rl} {w : World} {n : Nat} {fr : Fr} {a : Act} {d : Nat} {v : Value} {x : AV} (h : FRel r w n fr a) (hd : d < n) (hv : VRel r w v x) :
    FRel r w n ((d, x) :: fr) (a.put (some d) v) := by
  refine ⟨by simp [Act.put, h.size], fun t => ?_, fun vs hm => ?_⟩
  · simp only [Act.put]
    rw [getD_setIfInBounds (by rw [h.size]; exact hd), Fr.get_cons]
    split
    · exact hv
    · exact h.get t
  · rw [Fr.get_cons, if_neg (by omega)] at hm
    exact h.defs vs hm
def Weak (fr fr' : Fr) : Prop := ∀ t, fr'.get t = .top ∨ fr'.get t = fr.get t
theorem FRel.weak {r : Rl} {w : World} {n : Nat} {fr fr' : Fr} {a : Act} (h : FRel r w n fr a) (hw : Weak fr fr') : FRel r w n fr' a :=
  ⟨h.size, fun t => by rcases hw t with h1 | h1 <;> rw [h1]; exact .top; exact h.get t, fun vs hv => by rcases hw n with h1 | h1 <;> rw [h1] at hv; cases hv; exact h.defs vs hv⟩
end Go.Ab
end
section
set_option linter.unusedVariables false
set_option linter.unusedSimpArgs false
namespace Go.Ab
open Go
def Rl.bind (r : Rl) (id ver : Nat) (p : Nat × Nat) : Rl := { r with ρ := fun i v => if i = id ∧ v = ver then some p else r.ρ i v }
theorem BoxRel.lt {P : Program} {r : Rl} {w : World} {b o : Nat} {x : Box} (h : BoxRel P r w b o x) : b < w.heap.size := by
  have : ∃ y, w.heap[b]? = some y := by
    cases x with
    | cells cs ro => obtain ⟨c, t, lo, hi, h1, _⟩ := h; exact ⟨_, h1⟩
    | map kvs st => obtain ⟨_, es, clock, h1, _⟩ := h; exact ⟨_, h1⟩
    | miter id ver since seen last => obtain ⟨_, mb, _, h1⟩ := h; exact ⟨_, h1⟩
    | siter s pos => obtain ⟨_, bs, _, h1⟩ := h; exact ⟨_, h1⟩
  obtain ⟨y, hy⟩ := this
  rcases Nat.lt_or_ge b w.heap.size with h | h
  · exact h
  · simp [Array.getElem?_eq_none h] at hy
theorem Inv.update {cx : Cx} {r : Rl} {σ σ' : Heap} {w w' : World} {id ver b o : Nat} {x : Box} (hi : Inv cx r σ w)
    (hσ : σ'[id]? = some (ver, some x)) (hσo : ∀ j, j ≠ id → σ'[j]? = σ[j]?)
    (hold : ∀ cur y, σ[id]? = some (cur, y) → (cur < ver) ∨ (cur = ver ∧ r.ρ id ver = some (b, o)))
    (hb : w.heap.size ≤ b ∨ ∃ cur y o', σ[id]? = some (cur, some y) ∧ r.ρ id cur = some (b, o'))
    (hsame : ∀ k, k < w.heap.size → k ≠ b → w'.heap[k]? = w.heap[k]?) (hs : w.heap.size ≤ w'.heap.size)
    (hsize : ∀ c t f, w.heap[b]? = some (Obj.cells c t f) → ∃ (c' : Array Value) (f' : Nat × Nat), w'.heap[b]? = some (Obj.cells c' t f') ∧ c'.size = c.size)
    (hos : w'.os = w.os) (hout : w'.output = w.output) (htape : w'.tape = w.tape)
    (hx : Grow r w (r.bind id ver (b, o)) w' → BoxRel cx.P (r.bind id ver (b, o)) w' b o x) :
    Inv cx (r.bind id ver (b, o)) σ' w' ∧ Ext r σ w (r.bind id ver (b, o)) σ' w' := by
  have hnI : ¬ r.I b := by
    rcases hb with h | ⟨cur, y, o', h1, h2⟩
    · intro h3; have := hi.Ilt b h3; omega
    · exact hi.imm b ⟨id, cur, y, o', h1, h2⟩
  have hρ : ∀ i v p, r.ρ i v = some p → (r.bind id ver (b, o)).ρ i v = some p := by
    intro i v p hp
    simp only [Rl.bind]
    split
    · rename_i h
      obtain ⟨rfl, rfl⟩ := h
      obtain ⟨⟨cur, y, h1, h2⟩, h3⟩ := hi.lt _ _ _ _ hp
      rcases hold _ _ h1 with h4 | ⟨_, h4⟩
      · omega
      · rw [h4] at hp; exact hp
    · exact hp
  have hgsize : ∀ (b' : Nat) (c : Array Value) (t : TypeId) (f : Nat × Nat), w.heap[b']? = some (Obj.cells c t f) → ∃ (c' : Array Value) (f' : Nat × Nat), w'.heap[b']? = some (Obj.cells c' t f') ∧ c'.size = c.size := by
    intro b' c t f h
    by_cases hbb : b' = b
    · subst hbb; exact hsize c t f h
    · have hlt : b' < w.heap.size := by
        rcases Nat.lt_or_ge b' w.heap.size with h' | h'
        · exact h'
        · simp [Array.getElem?_eq_none h'] at h
      exact ⟨c, f, by rw [hsame b' hlt hbb, h], rfl⟩
  have g : Grow r w (r.bind id ver (b, o)) w' :=
    ⟨fun _ h => h, fun _ h => h, hρ, fun k hk => hsame k (hi.Ilt k hk) (fun e => hnI (e ▸ hk)), hgsize⟩
  have hbx := hx g
  have hbl := hbx.lt
  have hlenle : σ.length ≤ σ'.length := by
    rcases Nat.lt_or_ge σ'.length σ.length with h | h
    · exfalso
      by_cases hid : σ'.length = id
      · have := List.getElem?_eq_none (l := σ') (i := id) (by omega)
        rw [this] at hσ; cases hσ
      · have h1 := hσo _ hid
        rw [List.getElem?_eq_none (Nat.le_refl _)] at h1
        rw [List.getElem?_eq_getElem h] at h1
        cases h1
    · exact h
  have hother : ∀ (j v : Nat) (y : Box) (k o' : Nat), j ≠ id → σ[j]? = some (v, some y) → r.ρ j v = some (k, o') → k ≠ b := by
    intro j v y k o' hj h1 h2 hk
    subst hk
    rcases hb with h | ⟨cur, z, o'', h3, h4⟩
    · have := (hi.lt _ _ _ _ h2).2; omega
    · exact hj (hi.inj _ _ _ _ _ _ _ _ _ h1 h3 h2 h4)
  constructor
  · refine ⟨?_, ?_, ?_, ?_, ?_, hi.SI, ?_⟩
    · intro j v y h
      by_cases hj : j = id
      · subst hj
        rw [hσ] at h
        simp only [Option.some.injEq, Prod.mk.injEq] at h
        obtain ⟨rfl, rfl⟩ := h
        exact .inl ⟨b, o, by simp [Rl.bind], hbx⟩
      · rw [hσo j hj] at h
        rcases hi.box j v y h with ⟨k, o', h1, h2⟩ | ⟨h1, h2⟩
        · have hk := hother j v y k o' hj h h1
          exact .inl ⟨k, o', hρ _ _ _ h1, h2.mono g (hsame k (hi.lt _ _ _ _ h1).2 hk)⟩
        · exact .inr ⟨by simp [Rl.bind, hj, h1], h2⟩
    · intro j v k o' h
      simp only [Rl.bind] at h
      split at h
      · rename_i hjv
        obtain ⟨rfl, rfl⟩ := hjv
        simp only [Option.some.injEq, Prod.mk.injEq] at h
        obtain ⟨rfl, rfl⟩ := h
        exact ⟨⟨v, _, hσ, Nat.le_refl _⟩, hbl⟩
      · obtain ⟨⟨cur, y, h1, h2⟩, h3⟩ := hi.lt _ _ _ _ h
        refine ⟨?_, Nat.lt_of_lt_of_le h3 hs⟩
        by_cases hj : j = id
        · subst hj
          refine ⟨ver, _, hσ, ?_⟩
          rcases hold _ _ h1 with h4 | ⟨h4, _⟩ <;> omega
        · exact ⟨cur, y, by rw [hσo j hj, h1], h2⟩
    · intro j j' v v' y y' k o1 o2 h1 h2 h3 h4
      by_cases hj : j = id
      · by_cases hj' : j' = id
        · rw [hj, hj']
        · exfalso
          subst hj
          rw [hσ] at h1
          simp only [Option.some.injEq, Prod.mk.injEq] at h1
          obtain ⟨rfl, rfl⟩ := h1
          simp only [Rl.bind, and_self, if_true, Option.some.injEq, Prod.mk.injEq] at h3
          rw [hσo j' hj'] at h2
          simp only [Rl.bind, hj', false_and, if_false] at h4
          exact hother j' v' y' k o2 hj' h2 h4 h3.1.symm
      · rw [hσo j hj] at h1
        simp only [Rl.bind, hj, false_and, if_false] at h3
        by_cases hj' : j' = id
        · exfalso
          subst hj'
          rw [hσ] at h2
          simp only [Option.some.injEq, Prod.mk.injEq] at h2
          obtain ⟨rfl, rfl⟩ := h2
          simp only [Rl.bind, and_self, if_true, Option.some.injEq, Prod.mk.injEq] at h4
          exact hother j v y k o1 hj h1 h3 h4.1.symm
        · rw [hσo j' hj'] at h2
          simp only [Rl.bind, hj', false_and, if_false] at h4
          exact hi.inj _ _ _ _ _ _ _ _ _ h1 h2 h3 h4
    · rintro k ⟨j, v, y, o', h1, h2⟩ hk
      by_cases hj : j = id
      · subst hj
        rw [hσ] at h1
        simp only [Option.some.injEq, Prod.mk.injEq] at h1
        obtain ⟨rfl, rfl⟩ := h1
        simp only [Rl.bind, and_self, if_true, Option.some.injEq, Prod.mk.injEq] at h2
        exact hnI (h2.1 ▸ hk)
      · rw [hσo j hj] at h1
        simp only [Rl.bind, hj, false_and, if_false] at h2
        exact hi.imm k ⟨j, v, y, o', h1, h2⟩ hk
    · intro k hk; exact Nat.lt_of_lt_of_le (hi.Ilt k hk) hs
    · exact hi.glob.mono g hi.SI
  · refine ⟨fun _ h => h, fun _ h => h, fun _ h => .inl h, fun _ h => .inl h, hρ, hs, hlenle, ?_, ?_, hgsize, hos, hout, htape, ?_⟩
    rotate_right
    · intro i v k o' h
      simp only [Rl.bind] at h
      split at h
      · rename_i hiv
        obtain ⟨rfl, rfl⟩ := hiv
        cases h
        rcases hb with h1 | ⟨cur, y, o2, h1, h2⟩
        · exact .inr h1
        · exact .inl ⟨cur, o2, h2⟩
      · exact .inl ⟨v, o', h⟩
    · intro k hk hnl
      refine hsame k hk (fun e => ?_)
      subst e
      rcases hb with h | ⟨cur, y, o', h1, h2⟩
      · omega
      · exact hnl ⟨id, cur, y, o', h1, h2⟩
    · rintro k ⟨j, v, y, o', h1, h2⟩
      by_cases hj : j = id
      · subst hj
        rw [hσ] at h1
        simp only [Option.some.injEq, Prod.mk.injEq] at h1
        obtain ⟨rfl, rfl⟩ := h1
        simp only [Rl.bind, and_self, if_true, Option.some.injEq, Prod.mk.injEq] at h2
        obtain ⟨rfl, rfl⟩ := h2
        rcases hb with h | ⟨cur, z, o'', h3, h4⟩
        · exact .inr h
        · exact .inl ⟨j, cur, z, o'', h3, h4⟩
      · rw [hσo j hj] at h1
        simp only [Rl.bind, hj, false_and, if_false] at h2
        exact .inl ⟨j, v, y, o', h1, h2⟩
theorem Inv.heap_eq {cx : Cx} {r : Rl} {σ : Heap} {w w' : World} (hi : Inv cx r σ w) (h : w'.heap = w.heap) (hos : w'.os = w.os) (hout : w'.output = w.output) (htape : w'.tape = w.tape) :
    Inv cx r σ w' ∧ Ext r σ w r σ w' := by
  have g : Grow r w r w' := ⟨fun _ h => h, fun _ h => h, fun _ _ _ h => h, fun _ _ => by rw [h], fun b c t f hc => ⟨c, f, by rw [h, hc], rfl⟩⟩
  refine ⟨⟨?_, by rw [h]; exact hi.lt, hi.inj, hi.imm, by rw [h]; exact hi.Ilt, hi.SI, ?_⟩, ?_⟩
  · intro id ver x hx
    rcases hi.box id ver x hx with ⟨b, o, h1, h2⟩ | h1
    · exact .inl ⟨b, o, h1, h2.mono g (by rw [h])⟩
    · exact .inr h1
  · exact hi.glob.mono g hi.SI
  · exact ⟨fun _ h => h, fun _ h => h, fun _ h => .inl h, fun _ h => .inl h, fun _ _ _ h => h, by rw [h]; exact Nat.le_refl _, Nat.le_refl _, fun _ _ _ => by rw [h], fun _ h => .inl h, g.size, hos, hout, htape, fun id ver b o h => .inl ⟨ver, o, h⟩⟩
def Rl.add (r : Rl) (b : Nat) : Rl := { r with S := fun k => r.S k ∨ k = b, I := fun k => r.I k ∨ k = b }
theorem Inv.stable {cx : Cx} {r : Rl} {σ : Heap} {w : World} (hi : Inv cx r σ w) (ob : Obj) :
    Inv cx (r.add w.heap.size) σ (w.alloc ob) ∧ Ext r σ w (r.add w.heap.size) σ (w.alloc ob) ∧ Grow r w (r.add w.heap.size) (w.alloc ob) := by
  have hh : ∀ k, k < w.heap.size → (w.alloc ob).heap[k]? = w.heap[k]? := by
    intro k hk
    simp only [World.alloc, Array.getElem?_push]
    rw [if_neg (by omega)]
  have hsz : (w.alloc ob).heap.size = w.heap.size + 1 := by simp
  have hgsize : ∀ (b : Nat) (c : Array Value) (t : TypeId) (f : Nat × Nat), w.heap[b]? = some (Obj.cells c t f) → ∃ (c' : Array Value) (f' : Nat × Nat), (w.alloc ob).heap[b]? = some (Obj.cells c' t f') ∧ c'.size = c.size := by
    intro b c t f h
    have hlt : b < w.heap.size := by
      rcases Nat.lt_or_ge b w.heap.size with h' | h'
      · exact h'
      · simp [Array.getElem?_eq_none h'] at h
    exact ⟨c, f, by rw [hh b hlt, h], rfl⟩
  have g : Grow r w (r.add w.heap.size) (w.alloc ob) := ⟨fun _ h => .inl h, fun _ h => .inl h, fun _ _ _ h => h, fun b hb => hh b (hi.Ilt b hb), hgsize⟩
  refine ⟨⟨?_, ?_, hi.inj, ?_, ?_, ?_, ?_⟩, ⟨g.S, g.I, ?_, ?_, g.ρ, by rw [hsz]; omega, Nat.le_refl _, fun b hb _ => hh b hb, fun b h => .inl h, hgsize, rfl, rfl, rfl, fun id ver b o h => .inl ⟨ver, o, h⟩⟩, g⟩
  · intro id ver x hx
    rcases hi.box id ver x hx with ⟨b, o, h1, h2⟩ | h1
    · exact .inl ⟨b, o, h1, h2.mono g (hh b h2.lt)⟩
    · exact .inr h1
  · intro id ver b o h
    obtain ⟨h1, h2⟩ := hi.lt id ver b o h
    exact ⟨h1, by rw [hsz]; omega⟩
  · rintro b ⟨id, ver, x, o, h1, h2⟩ hb
    rcases hb with hb | hb
    · exact hi.imm b ⟨id, ver, x, o, h1, h2⟩ hb
    · have := (hi.lt _ _ _ _ h2).2; omega
  · intro b hb
    rw [hsz]
    rcases hb with hb | hb
    · have := hi.Ilt b hb; omega
    · omega
  · intro b hb
    rcases hb with hb | hb
    · exact .inl (hi.SI b hb)
    · exact .inr hb
  · exact hi.glob.mono g hi.SI
  · intro b hb
    rcases hb with hb | hb
    · exact .inl hb
    · exact .inr (by omega)
  · intro b hb
    rcases hb with hb | hb
    · exact .inl hb
    · exact .inr (.inr (by omega))
def firstDead : Heap → Nat → Option (Nat × Nat)
  | [], _ => none
  | (v, none) :: _, i => some (i, v)
  | (_, some _) :: r, i => firstDead r (i + 1)
def allocH (σ : Heap) (x : Box) : Nat × Nat × Heap :=
  match firstDead σ 0 with
  | some (i, v) => (i, v + 1, σ.set i (v + 1, some x))
  | none => (σ.length, 0, σ ++ [(0, some x)])
theorem firstDead_spec : ∀ (σ : Heap) (k i v : Nat), firstDead σ k = some (i, v) → k ≤ i ∧ σ[i - k]? = some (v, none)
  | [], _, _, _, h => by simp [firstDead] at h
  | (u, none) :: r, k, i, v, h => by
    simp only [firstDead, Option.some.injEq, Prod.mk.injEq] at h
    obtain ⟨rfl, rfl⟩ := h
    simp
  | (u, some y) :: r, k, i, v, h => by
    simp only [firstDead] at h
    obtain ⟨h1, h2⟩ := firstDead_spec r (k + 1) i v h
    refine ⟨by omega, ?_⟩
    rw [show i - k = (i - (k + 1)) + 1 by omega, List.getElem?_cons_succ]
    exact h2
theorem allocH_spec {σ : Heap} {x : Box} {id ver : Nat} {σ' : Heap} (h : allocH σ x = (id, ver, σ')) :
    σ'[id]? = some (ver, some x) ∧ (∀ j, j ≠ id → σ'[j]? = σ[j]?) ∧ (∀ cur y, σ[id]? = some (cur, y) → cur < ver) := by
  unfold allocH at h
  split at h
  · rename_i i v hd
    simp only [Prod.mk.injEq] at h
    obtain ⟨rfl, rfl, rfl⟩ := h
    obtain ⟨_, h2⟩ := firstDead_spec σ 0 i v hd
    simp only [Nat.sub_zero] at h2
    have hl : i < σ.length := by
      rcases Nat.lt_or_ge i σ.length with h | h
      · exact h
      · rw [List.getElem?_eq_none h] at h2; cases h2
    refine ⟨by simp [hl], fun j hj => by rw [List.getElem?_set]; simp [Ne.symm hj], fun cur y hc => ?_⟩
    rw [h2] at hc
    simp only [Option.some.injEq, Prod.mk.injEq] at hc
    omega
  · simp only [Prod.mk.injEq] at h
    obtain ⟨rfl, rfl, rfl⟩ := h
    refine ⟨by simp, fun j hj => ?_, fun cur y hc => ?_⟩
    · rcases Nat.lt_or_ge j σ.length with h | h
      · rw [List.getElem?_append_left h]
      · rw [List.getElem?_eq_none h, List.getElem?_eq_none]
        simp; omega
    · rw [List.getElem?_eq_none (Nat.le_refl _)] at hc; cases hc
theorem Inv.new {cx : Cx} {r : Rl} {σ σ' : Heap} {w : World} {id ver : Nat} {x : Box} {ob : Obj} (hi : Inv cx r σ w) (ha : allocH σ x = (id, ver, σ'))
    (hx : Grow r w (r.bind id ver (w.heap.size, 0)) (w.alloc ob) → BoxRel cx.P (r.bind id ver (w.heap.size, 0)) (w.alloc ob) w.heap.size 0 x) :
    Inv cx (r.bind id ver (w.heap.size, 0)) σ' (w.alloc ob) ∧ Ext r σ w (r.bind id ver (w.heap.size, 0)) σ' (w.alloc ob) := by
  obtain ⟨h1, h2, h3⟩ := allocH_spec ha
  refine hi.update h1 h2 (fun cur y h => .inl (h3 cur y h)) (.inl (Nat.le_refl _)) ?_ (by simp) ?_ rfl rfl rfl hx
  · intro k hk _
    simp only [World.alloc, Array.getElem?_push]
    rw [if_neg (by omega)]
  · intro c t f h
    simp [Array.getElem?_eq_none (Nat.le_refl w.heap.size)] at h
theorem heap_alloc_self (w : World) (ob : Obj) : (w.alloc ob).heap[w.heap.size]? = some ob := by
  show (w.heap.push ob)[w.heap.size]? = some ob
  simp
end Go.Ab
end
section
set_option linter.unusedVariables false
set_option linter.unusedSimpArgs false
namespace Go.Ab
open Go
def AllP : List Prop → Prop
  | [] => True
  | p :: r => p ∧ AllP r
def cst1 : Value → AV
  | .bool b => .bool b
  | .int k n => .int k n
  | .string s => .str s.data.toList
  | .pointer none => .nilp
  | .slice none 0 0 => .nils
  | .map none => .nilm
  | .nilFunc => .nilf
  | .nilIface => .nili
  | _ => .top
def cst : Value → AV
  | .agg cs => .agg (cs.toList.map cst1)
  | .tuple cs => .tup (cs.toList.map cst1)
  | .iface t v => .iface t (cst1 v)
  | v => cst1 v
theorem cst1_rel (r : Rl) (w : World) (v : Value) : VRel r w v (cst1 v) := by
  unfold cst1
  split <;> first | exact .bool | exact .int | exact .str rfl | exact .nilp | exact .nils | exact .nilm | exact .nilf | exact .nili | exact .top
theorem cst_rel (r : Rl) (w : World) (v : Value) : VRel r w v (cst v) := by
  unfold cst
  split
  · refine .agg (by simp) (fun i hi => ?_)
    simp only [List.length_map, Array.length_toList] at hi
    simp only [List.getElem_map, Array.getElem_toList]
    have : ∀ (cs : Array Value) (h : i < cs.size), cs.getD i undef = cs[i] := fun cs h => by simp [Array.getD, h]
    rw [this _ hi]; exact cst1_rel r w _
  · refine .tup (by simp) (fun i hi => ?_)
    simp only [List.length_map, Array.length_toList] at hi
    simp only [List.getElem_map, Array.getElem_toList]
    have : ∀ (cs : Array Value) (h : i < cs.size), cs.getD i undef = cs[i] := fun cs h => by simp [Array.getD, h]
    rw [this _ hi]; exact cst1_rel r w _
  · exact .iface (cst1_rel r w _)
  · exact cst1_rel r w _
def ev (cx : Cx) (fr : Fr) : Operand → AV
  | .tmp t => fr.get t
  | .const v => cst v
  | .global g => match cx.G g with | some cs => .rp true cs | none => .top
  | .func f => .func (.func f) [] []
theorem ev_rel {cx : Cx} {r : Rl} {σ : Heap} {w : World} {n : Nat} {fr : Fr} {a : Act} (hi : Inv cx r σ w) (hf : FRel r w n fr a) (x : Operand) : VRel r w (a.eval x) (ev cx fr x) := by
  cases x with
  | tmp t => exact hf.get t
  | const v => exact cst_rel r w v
  | global g =>
    simp only [ev, Act.eval]
    split
    · rename_i cs h
      obtain ⟨h1, h2⟩ := hi.glob.G g cs h
      have h3 : ∀ i, ∃ v, i < cs.length → w.cell? ⟨g, i, none⟩ = some v := fun i => by
        by_cases hl : i < cs.length
        · obtain ⟨v, hv, _⟩ := h2 i hl; exact ⟨v, fun _ => hv⟩
        · exact ⟨undef, fun h => absurd h hl⟩
      refine .rp (hi.SI _ h1) (fun _ => h1) (fun i => (h3 i).choose) (fun i hl => ?_) (fun i hl => ?_)
      · rw [Nat.zero_add]; exact (h3 i).choose_spec hl
      · obtain ⟨v, hv, hr, _⟩ := h2 i hl
        have h4 := (h3 i).choose_spec hl
        have h5 : (h3 i).choose = v := Option.some.inj (h4.symm.trans hv)
        exact h5.symm ▸ hr
    · exact .top
  | func f => exact .func rfl (fun i h => absurd h (by simp)) rfl (fun i h => absurd h (by simp))
def kindEq : IntKind → IntKind → Bool
  | .i8, .i8 | .i16, .i16 | .i32, .i32 | .i64, .i64 | .u8, .u8 | .u16, .u16 | .u32, .u32 | .u64, .u64 => true
  | _, _ => false
theorem kindEq_eq {a b : IntKind} (h : kindEq a b = true) : a = b := by cases a <;> cases b <;> first | rfl | simp [kindEq] at h
def bitsA (op : BinOp) (k : IntKind) (x y : Int) : Int :=
  let a := BitVec.ofInt k.bits x
  let b := BitVec.ofInt k.bits y
  k.wrap (match op with
    | .and => (a &&& b).toNat
    | .or => (a ||| b).toNat
    | .xor => (a ^^^ b).toNat
    | _ => (a &&& ~~~b).toNat)
def aInt (op : BinOp) (k : IntKind) (a b : Int) : Option (List Prop × AV) :=
  match op with
  | .add => some ([], .int k (k.wrap (a + b)))
  | .sub => some ([], .int k (k.wrap (a - b)))
  | .mul => some ([], .int k (k.wrap (a * b)))
  | .quo => some ([b ≠ 0], .int k (k.wrap (a.tdiv b)))
  | .rem => some ([b ≠ 0], .int k (a.tmod b))
  | .and => some ([], .int k (bitsA .and k a b))
  | .or => some ([], .int k (bitsA .or k a b))
  | .xor => some ([], .int k (bitsA .xor k a b))
  | .andNot => some ([], .int k (bitsA .andNot k a b))
  | .eql => some ([], .bool (a == b))
  | .neq => some ([], .bool (a != b))
  | .lss => some ([], .bool (decide (a < b)))
  | .leq => some ([], .bool (decide (a ≤ b)))
  | .gtr => some ([], .bool (decide (a > b)))
  | .geq => some ([], .bool (decide (a ≥ b)))
  | _ => none
def aStr (op : BinOp) (a b : List UInt8) : Option (List Prop × AV) :=
  match op with
  | .add => some ([((a.length + b.length : Nat) : Int) ≤ 9223372036854775807], .str (a ++ b))
  | .eql => some ([], .bool (a == b))
  | .neq => some ([], .bool !(a == b))
  | .lss => some ([], .bool (Op.bytesLess a b))
  | .leq => some ([], .bool (Op.bytesLess a b || a == b))
  | .gtr => some ([], .bool !(Op.bytesLess a b || a == b))
  | .geq => some ([], .bool !(Op.bytesLess a b))
  | _ => none
def isPtrT (P : Program) (t : TypeId) : Bool :=
  match P.underlying t with
  | some (.pointer e) => match P.info? e with | some i => !(Nat.beq i.size 0) | none => false
  | _ => false
def isIfaceT (P : Program) (t : TypeId) : Bool := match P.underlying t with | some (.interface _) => true | _ => false
def isBoolT (P : Program) (t : TypeId) : Bool := match P.underlying t with | some .bool => true | _ => false
def isFuncT (P : Program) (t : TypeId) : Bool := match P.underlying t with | some (.func ..) => true | _ => false
def isMapT (P : Program) (t : TypeId) : Bool := match P.underlying t with | some (.map ..) => true | _ => false
def aEq (P : Program) (t : TypeId) : AV → AV → Option (List Prop × Bool)
  | .bool a, .bool b => if isBoolT P t then some ([], a == b) else none
  | .nilp, .nilp => if isPtrT P t then some ([], true) else none
  | .ptr .., .nilp => if isPtrT P t then some ([], false) else none
  | .nilp, .ptr .. => if isPtrT P t then some ([], false) else none
  | .ptr i v o, .ptr j u p => if isPtrT P t && Nat.beq i j then some ([v = u], Nat.beq o p) else none
  | .iface .., .nili => if isIfaceT P t then some ([], false) else none
  | .nili, .iface .. => if isIfaceT P t then some ([], false) else none
  | .nilf, .nilf => if isFuncT P t then some ([], true) else none
  | .func .., .nilf => if isFuncT P t then some ([], false) else none
  | .map .., .nilm => if isMapT P t then some ([], false) else none
  | .nilm, .nilm => if isMapT P t then some ([], true) else none
  | _, _ => none
def aBin (P : Program) (op : BinOp) (t : TypeId) (x y : AV) : Option (List Prop × AV) :=
  match x, y with
  | .int k a, .int k' b =>
    match op with
    | .shl => some ([0 ≤ b], .int k (k.wrap (a * 2 ^ (min b.toNat k.bits))))
    | .shr => some ([0 ≤ b], .int k (a.fdiv (2 ^ (min b.toNat k.bits))))
    | op => if kindEq k k' then aInt op k a b else none
  | .str a, .str b => aStr op a b
  | x, y =>
    match op with
    | .eql => match aEq P t x y with | some (c, b) => some (c, .bool b) | none => none
    | .neq => match aEq P t x y with | some (c, b) => some (c, .bool !b) | none => none
    | _ => none
theorem run_binOp_int (P : Program) (w : World) (op : BinOp) (t : TypeId) (k : IntKind) (a b : Int) (C : List Prop) (v : AV) (r : Rl)
    (h : aInt op k a b = some (C, v)) (hC : AllP C) : ∃ v', (binOp op t (.int k a) (.int k b)).run P w = .ok v' w ∧ VRel r w v' v := by
  have q : ∀ {s : Sem Value} {x : Value} {y : AV}, s.run P w = .ok x w → VRel r w x y → ∃ v', s.run P w = .ok v' w ∧ VRel r w v' y := fun h1 h2 => ⟨_, h1, h2⟩
  cases op <;> simp only [aInt, Option.some.injEq, Prod.mk.injEq, reduceCtorEq] at h <;> (try (obtain ⟨rfl, rfl⟩ := h))
  case add => exact q (by simp [binOp, Op.intArith]) .int
  case sub => exact q (by simp [binOp, Op.intArith]) .int
  case mul => exact q (by simp [binOp, Op.intArith]) .int
  case quo => exact q (by have hb : b ≠ 0 := hC.1; simp [binOp, Op.intDiv, hb]) .int
  case rem => exact q (by have hb : b ≠ 0 := hC.1; simp [binOp, Op.intDiv, hb]) .int
  case and => exact q (by simp only [binOp, ne_eq, not_true, if_false, Op.intBits]; rfl) .int
  case or => exact q (by simp only [binOp, ne_eq, not_true, if_false, Op.intBits]; rfl) .int
  case xor => exact q (by simp only [binOp, ne_eq, not_true, if_false, Op.intBits]; rfl) .int
  case andNot => exact q (by simp only [binOp, ne_eq, not_true, if_false, Op.intBits]; rfl) .int
  case eql => exact q (by simp [binOp, Op.intCmp]) .bool
  case neq => exact q (by simp [binOp, Op.intCmp]) .bool
  case lss => exact q (by simp [binOp, Op.intCmp]) .bool
  case leq => exact q (by simp [binOp, Op.intCmp]) .bool
  case gtr => exact q (by simp [binOp, Op.intCmp]) .bool
  case geq => exact q (by simp [binOp, Op.intCmp]) .bool
theorem list_beq_toList (a b : ByteArray) : (a.toList == b.toList) = (a.data.toList == b.data.toList) := by rw [ByteArray.toList_eq, ByteArray.toList_eq]
theorem run_binOp_str (P : Program) (w : World) (op : BinOp) (t : TypeId) (s u : ByteArray) (C : List Prop) (v : AV) (r : Rl)
    (h : aStr op s.data.toList u.data.toList = some (C, v)) (hC : AllP C) : ∃ v', (binOp op t (.string s) (.string u)).run P w = .ok v' w ∧ VRel r w v' v := by
  have q : ∀ {z : Sem Value} {x : Value} {y : AV}, z.run P w = .ok x w → VRel r w x y → ∃ v', z.run P w = .ok v' w ∧ VRel r w v' y := fun h1 h2 => ⟨_, h1, h2⟩
  cases op <;> simp only [aStr, Option.some.injEq, Prod.mk.injEq, reduceCtorEq] at h <;> (try (obtain ⟨rfl, rfl⟩ := h))
  case add =>
    have hb : ((s.data.toList.length + u.data.toList.length : Nat) : Int) ≤ 9223372036854775807 := hC.1
    refine q (x := .string (s ++ u)) ?_ (.str (by simp))
    have hb' : ¬ (((s.size + u.size : Nat) : Int) > IntKind.i64.max) := by
      simp only [IntKind.max_i64]
      simp only [Array.length_toList] at hb
      show ¬ (((s.data.size + u.data.size : Nat) : Int) > 9223372036854775807)
      omega
    simp only [binOp, Op.stringOp]
    rw [if_neg hb']
    rfl
  case eql => exact q (by simp only [binOp, Op.stringOp, ByteArray.toList_eq]; rfl) .bool
  case neq => exact q (by simp only [binOp, Op.stringOp, ByteArray.toList_eq]; rfl) .bool
  case lss => exact q (by simp only [binOp, Op.stringOp, ByteArray.toList_eq]; rfl) .bool
  case leq => exact q (by simp only [binOp, Op.stringOp, ByteArray.toList_eq]; rfl) .bool
  case gtr => exact q (by simp only [binOp, Op.stringOp, ByteArray.toList_eq]; rfl) .bool
  case geq => exact q (by simp only [binOp, Op.stringOp, ByteArray.toList_eq]; rfl) .bool
theorem sameAddr_same (P : Program) (w : World) (b o p : Nat) : (sameAddr ⟨b, o, none⟩ ⟨b, p, none⟩).run P w = .ok (Nat.beq o p) w := by
  unfold sameAddr
  simp only [BEq.rfl, if_true, Sem.run_pure]
  congr 1
  by_cases h : o = p
  · subst h
    simp
  · have : Nat.beq o p = false := by
      cases hb : Nat.beq o p
      · rfl
      · exact absurd (Nat.eq_of_beq_eq_true hb) h
    rw [this]
    have : ¬ ((⟨b, o, none⟩ : Addr) = ⟨b, p, none⟩) := by simp [h]
    exact beq_false_of_ne this
theorem natBeq_add (a b c : Nat) : Nat.beq (c + a) (c + b) = Nat.beq a b := by
  cases h : Nat.beq a b
  · cases h2 : Nat.beq (c + a) (c + b)
    · rfl
    · have h3 := Nat.eq_of_beq_eq_true h2
      have h4 : a = b := by omega
      rw [h4] at h
      simp at h
  · rw [Nat.eq_of_beq_eq_true h]
    simp
theorem run_equalIn (P : Program) (w : World) (r : Rl) (d : Nat) (t : TypeId) (x y : Value) (x' y' : AV) (C : List Prop) (b : Bool)
    (h : aEq P t x' y' = some (C, b)) (hC : AllP C) (hx : VRel r w x x') (hy : VRel r w y y') : (Op.equalIn (d + 1) t x y).run P w = .ok b w := by
  have hpt : isPtrT P t = true → ∃ e i, P.underlying t = some (.pointer e) ∧ P.info? e = some i ∧ i.size ≠ 0 := by
    unfold isPtrT
    intro h
    split at h
    · rename_i e he
      split at h
      · rename_i i hii
        refine ⟨e, i, he, hii, fun h0 => ?_⟩
        rw [h0] at h; simp at h
      · cases h
    · cases h
  unfold aEq at h
  split at h <;> try (cases h; done)
  all_goals (split at h <;> try (cases h; done))
  all_goals (rename_i hcond; simp only [Option.some.injEq, Prod.mk.injEq] at h; obtain ⟨rfl, rfl⟩ := h)
  · cases hx; cases hy
    unfold isBoolT at hcond
    split at hcond
    · rename_i he; simp [Op.equalIn, run_underlying he]
    · cases hcond
  · cases hx; cases hy
    obtain ⟨e, i, he, _, _⟩ := hpt hcond
    simp [Op.equalIn, run_underlying he]
  · cases hx; cases hy
    obtain ⟨e, i, he, _, _⟩ := hpt hcond
    simp [Op.equalIn, run_underlying he]
  · cases hx; cases hy
    obtain ⟨e, i, he, _, _⟩ := hpt hcond
    simp [Op.equalIn, run_underlying he]
  · simp only [Bool.and_eq_true] at hcond
    obtain ⟨hc1, hc2⟩ := hcond
    obtain ⟨e, i, he, hii, h0⟩ := hpt hc1
    have hij := Nat.eq_of_beq_eq_true hc2
    have hv := hC.1
    cases hx with
    | ptr h1 =>
      cases hy with
      | ptr h2 =>
        subst hij
        rw [hv] at h1
        rw [h1] at h2
        simp only [Option.some.injEq, Prod.mk.injEq] at h2
        obtain ⟨rfl, rfl⟩ := h2
        simp only [Op.equalIn, Sem.run_bind, run_underlying he, Result.andThen_ok, sizeOf, typeInfo, run_program, hii, Sem.run_pure, ne_eq, h0, not_false_eq_true, if_true, sameAddr_same, natBeq_add]
  all_goals
    first
      | (cases hx; cases hy
         unfold isIfaceT at hcond
         split at hcond
         · rename_i he; simp [Op.equalIn, run_underlying he]
         · cases hcond)
      | (cases hx; cases hy
         unfold isFuncT at hcond
         split at hcond
         · rename_i he; simp [Op.equalIn, run_underlying he]
         · cases hcond)
      | (cases hx; cases hy
         unfold isMapT at hcond
         split at hcond
         · rename_i he; simp [Op.equalIn, run_underlying he]
         · cases hcond)
theorem run_equal (P : Program) (w : World) (r : Rl) (t : TypeId) (x y : Value) (x' y' : AV) (C : List Prop) (b : Bool)
    (h : aEq P t x' y' = some (C, b)) (hC : AllP C) (hx : VRel r w x x') (hy : VRel r w y y') : (Op.equal t x y).run P w = .ok b w :=
  run_equalIn P w r 9999 t x y x' y' C b h hC hx hy
end Go.Ab
end
section
set_option linter.unusedVariables false
set_option linter.unusedSimpArgs false
namespace Go.Ab
open Go
def szOf (P : Program) (t : TypeId) : Option Nat := match P.info? t with | some i => some i.size | none => none
def aggT (P : Program) (t : TypeId) : Option Bool :=
  match P.underlying t with
  | some (.struct _) => some true
  | some (.array ..) => some true
  | some _ => some false
  | none => none
theorem run_sizeOf' {P : Program} {t : TypeId} {n : Nat} (h : szOf P t = some n) (w : World) : (sizeOf t).run P w = .ok n w := by
  unfold szOf at h
  split at h
  · rename_i i hi
    simp only [Option.some.injEq] at h
    simp [sizeOf, typeInfo, hi, h]
  · cases h
theorem run_isAgg {P : Program} {t : TypeId} {b : Bool} (h : aggT P t = some b) (w : World) : (isAgg t).run P w = .ok b w := by
  unfold aggT at h
  split at h
  · rename_i hu; simp only [Option.some.injEq] at h; subst h; simp [isAgg, run_underlying hu]
  · rename_i hu; simp only [Option.some.injEq] at h; subst h; simp [isAgg, run_underlying hu]
  · rename_i d h1 h2 hu
    simp only [Option.some.injEq] at h; subst h
    simp only [isAgg, Sem.run_bind, run_underlying hu, Result.andThen_ok, Sem.run_pure]
  · cases h
def Cells (r : Rl) (w : World) (b o : Nat) (cs : List AV) : Prop := ∀ i (h : i < cs.length), ∃ v, w.cell? ⟨b, o + i, none⟩ = some v ∧ VRel r w v cs[i]
theorem Cells.drop {r : Rl} {w : World} {b o : Nat} {cs : List AV} (h : Cells r w b o cs) (k : Nat) : Cells r w b (o + k) (cs.drop k) := by
  intro i hi
  simp only [List.length_drop] at hi
  obtain ⟨v, h1, h2⟩ := h (k + i) (by omega)
  exact ⟨v, by rw [show o + k + i = o + (k + i) by omega]; exact h1, by simpa using h2⟩
theorem Cells.take {r : Rl} {w : World} {b o : Nat} {cs : List AV} (h : Cells r w b o cs) (k : Nat) : Cells r w b o (cs.take k) := by
  intro i hi
  simp only [List.length_take] at hi
  obtain ⟨v, h1, h2⟩ := h i (by omega)
  exact ⟨v, h1, by simpa using h2⟩
theorem Cells.of_rp {r : Rl} {w : World} {st : Bool} {a : Option Addr} {cs : List AV} (h : VRel r w (.pointer a) (.rp st cs)) :
    ∃ b o, a = some ⟨b, o, none⟩ ∧ r.I b ∧ (st = true → r.S b) ∧ Cells r w b o cs := by
  cases h with
  | rp hI hS f hc hv => exact ⟨_, _, rfl, hI, hS, fun i hi => ⟨f i, hc i hi, hv i hi⟩⟩
theorem Cells.rp {r : Rl} {w : World} {st : Bool} {b o : Nat} {cs : List AV} (hI : r.I b) (hS : st = true → r.S b) (h : Cells r w b o cs) :
    VRel r w (.pointer (some ⟨b, o, none⟩)) (.rp st cs) := by
  have h3 : ∀ i, ∃ v, i < cs.length → w.cell? ⟨b, o + i, none⟩ = some v := fun i => by
    by_cases hl : i < cs.length
    · obtain ⟨v, hv, _⟩ := h i hl; exact ⟨v, fun _ => hv⟩
    · exact ⟨undef, fun h => absurd h hl⟩
  refine .rp hI hS (fun i => (h3 i).choose) (fun i hl => (h3 i).choose_spec hl) (fun i hl => ?_)
  obtain ⟨v, hv, hr⟩ := h i hl
  have h4 := (h3 i).choose_spec hl
  have h5 : (h3 i).choose = v := Option.some.inj (h4.symm.trans hv)
  exact h5.symm ▸ hr
theorem Cells.load {P : Program} {r : Rl} {w : World} {b o n : Nat} {cs : List AV} (h : Cells r w b o cs) (hn : cs.length = n) :
    ∃ vs : Array Value, (loadCells ⟨b, o, none⟩ n).run P w = .ok vs w ∧ VRel r w (.agg vs) (.agg cs) ∧ vs.size = n := by
  subst hn
  have h3 : ∀ i, ∃ v, i < cs.length → w.cell? ⟨b, o + i, none⟩ = some v := fun i => by
    by_cases hl : i < cs.length
    · obtain ⟨v, hv, _⟩ := h i hl; exact ⟨v, fun _ => hv⟩
    · exact ⟨undef, fun h => absurd h hl⟩
  have hrun := run_loadCells (P := P) w ⟨b, o, none⟩ cs.length (fun i => (h3 i).choose) (fun j hj => by rw [Addr.add_lit]; exact (h3 j).choose_spec hj)
  refine ⟨_, hrun, .agg (by simp) (fun i hi => ?_), by simp⟩
  obtain ⟨v, hv, hr⟩ := h i hi
  have h4 := (h3 i).choose_spec hi
  have h5 : (h3 i).choose = v := Option.some.inj (h4.symm.trans hv)
  have h6 : (((List.range cs.length).map fun i => (h3 i).choose).toArray).getD i undef = v := by
    simp only [Array.getD_eq_getD_getElem?, List.getElem?_toArray, List.getElem?_map, List.getElem?_range hi, Option.map_some, Option.getD_some]
    exact h5
  rw [h6]; exact hr
def aLoad (P : Program) (t : TypeId) (cs : List AV) : Option AV :=
  match aggT P t with
  | some true => match szOf P t with
    | some n => bif Nat.ble n cs.length then some (.agg (cs.take n)) else none
    | none => none
  | some false => match cs with | v :: _ => some v | [] => none
  | none => none
theorem aLoad_run {P : Program} {r : Rl} {w : World} {b o : Nat} {cs : List AV} {t : TypeId} {v : AV} (hc : Cells r w b o cs) (h : aLoad P t cs = some v) :
    ∃ v', (loadVar t ⟨b, o, none⟩).run P w = .ok v' w ∧ VRel r w v' v := by
  unfold aLoad at h
  split at h
  · rename_i ha
    split at h
    · rename_i n hn
      cases hb : Nat.ble n cs.length with
      | true =>
        simp only [hb, cond_true, Option.some.injEq] at h
        subst h
        have hle := Nat.le_of_ble_eq_true hb
        obtain ⟨vs, h1, h2, _⟩ := (hc.take n).load (P := P) (n := n) (by simp; omega)
        exact ⟨.agg vs, by simp [loadVar, run_isAgg ha, run_sizeOf' hn, h1], h2⟩
      | false => simp [hb] at h
    · cases h
  · rename_i ha
    split at h
    · rename_i v0 r0
      simp only [Option.some.injEq] at h
      subst h
      obtain ⟨u, h1, h2⟩ := hc 0 (by simp)
      refine ⟨u, ?_, h2⟩
      simp only [Nat.add_zero] at h1
      simp [loadVar, run_isAgg ha, h1]
    · cases h
  · cases h
def boxAt (σ : Heap) (id : Nat) : Option (Nat × List AV × Tag) :=
  match σ[id]? with
  | some (cur, some (.cells cs ro)) => some (cur, cs, ro)
  | _ => none
theorem boxAt_some {σ : Heap} {id cur : Nat} {cs : List AV} {ro : Tag} (h : boxAt σ id = some (cur, cs, ro)) : σ[id]? = some (cur, some (.cells cs ro)) := by
  unfold boxAt at h
  split at h
  · rename_i h1; simp only [Option.some.injEq, Prod.mk.injEq] at h; obtain ⟨rfl, rfl, rfl⟩ := h; exact h1
  · cases h
theorem BoxRel.cells' {P : Program} {r : Rl} {w : World} {b o : Nat} {cs : List AV} {ro : Tag} (h : BoxRel P r w b o (.cells cs ro)) : Cells r w b o cs := by
  obtain ⟨c, t, lo, hi, h1, h2, _⟩ := h
  intro i hi
  obtain ⟨v, h3, h4⟩ := h2 i hi
  exact ⟨v, by simp [World.cell?, h1, h3], h4⟩
theorem Inv.cells {cx : Cx} {r : Rl} {σ : Heap} {w : World} {id ver cur b o : Nat} {cs : List AV} {ro : Tag} (hi : Inv cx r σ w) (h : boxAt σ id = some (cur, cs, ro))
    (hv : ver = cur) (hρ : r.ρ id ver = some (b, o)) : BoxRel cx.P r w b o (.cells cs ro) := by
  subst hv
  rcases hi.box id ver _ (boxAt_some h) with ⟨b', o', h1, h2⟩ | ⟨h1, _⟩
  · rw [hρ] at h1
    simp only [Option.some.injEq, Prod.mk.injEq] at h1
    obtain ⟨rfl, rfl⟩ := h1
    exact h2
  · rw [hρ] at h1; cases h1
def aUn (op : UnOp) (x : AV) : Option AV :=
  match op, x with
  | .neg, .int k n => some (.int k (k.wrap (0 - n)))
  | .xor, .int k n => some (.int k (bitsA .xor k (if k.signed then -1 else k.max) n))
  | .not, .bool b => some (.bool !b)
  | _, _ => none
theorem aUn_run {P : Program} {r : Rl} {w : World} {op : UnOp} {x : Value} {x' v : AV} (h : aUn op x' = some v) (hx : VRel r w x x') :
    ∃ v', (Op.unary op x).run P w = .ok v' w ∧ VRel r w v' v := by
  unfold aUn at h
  split at h
  · simp only [Option.some.injEq] at h; subst h; cases hx; exact ⟨_, by simp [Op.unary, Op.intArith], .int⟩
  · simp only [Option.some.injEq] at h; subst h; cases hx; exact ⟨_, by simp only [Op.unary, Op.intBits]; rfl, .int⟩
  · simp only [Option.some.injEq] at h; subst h; cases hx; exact ⟨_, by simp [Op.unary], .bool⟩
  · cases h
def isByte : AV → Prop
  | .int .u8 n => True
  | _ => False
def byteOf : AV → UInt8
  | .int _ n => UInt8.ofNat n.toNat
  | _ => 0
theorem tyU8_eq {P : Program} {e T : TypeId} (h : tyU8 P e = some T) : e = T := by
  unfold tyU8 at h
  split at h
  · exact Option.some.inj h
  · cases h
def tyS (P : Program) (t : TypeId) : Option TypeId := match P.underlying t with | some (.struct _) => some t | _ => none
theorem tyS_eq {P : Program} {e T : TypeId} (h : tyS P e = some T) : e = T := by
  unfold tyS at h
  split at h
  · exact Option.some.inj h
  · cases h
def tagOn (P : Program) (e : TypeId) (off : Nat) (g : Tag) : Tag :=
  ⟨g.ro, match off with
    | 0 => match g.ty with
      | some T => match tyU8 P e with
        | some U => match Nat.beq T U with | true => some T | false => none
        | none => none
      | none => none
    | _ + 1 => none⟩
theorem tagOn_ty {P : Program} {e T : TypeId} {off : Nat} {g : Tag} (h : (tagOn P e off g).ty = some T) : off = 0 ∧ g.ty = some T ∧ e = T := by
  unfold tagOn at h
  simp only at h
  split at h
  · split at h
    · rename_i T' hg
      split at h
      · rename_i U hU
        split at h
        · rename_i hb
          obtain rfl : T' = T := Option.some.inj h
          exact ⟨rfl, hg, (tyU8_eq hU).trans (Nat.eq_of_beq_eq_true hb).symm⟩
        · cases h
      · cases h
    · cases h
  · cases h
theorem isU8_eq {P : Program} {e : TypeId} (h : isU8 P e = true) : P.underlying e = some (.int .u8) := by
  unfold isU8 at h
  split at h
  · assumption
  · cases h
def aConv (P : Program) (src dst : TypeId) (x : AV) (σ : Heap) : Option (List Prop × AV) :=
  match P.underlying src, P.underlying dst, x with
  | some _, some (.int k), .int _ n => some ([], .int k (k.wrap n))
  | some _, some .string, .int _ n => some ([], .str (Utf8.encode n).data.toList)
  | some _, some .string, .str s => some ([], .str s)
  | some (.slice e), some .string, x => bif isU8 P e then
      match x with
      | .nils => some ([], .str [])
      | .sl _ _ sz xs => some ([sz = 1, ∀ x ∈ xs, isByte x], .str (xs.map byteOf))
      | .ms id ver off len sz _ => match boxAt σ id with
        | some (cur, cs, _) => some ([ver = cur, sz = 1, off + len ≤ cs.length, ∀ x ∈ (cs.drop off).take len, isByte x], .str (((cs.drop off).take len).map byteOf))
        | none => none
      | _ => none
    else none
  | _, _, _ => none
theorem isByte_eq {r : Rl} {w : World} {v : Value} {a : AV} (h : isByte a) (hv : VRel r w v a) : ∃ n, v = .int .u8 n ∧ byteOf a = UInt8.ofNat n.toNat := by
  cases hv <;> simp only [isByte] at h
  rename_i k n
  cases k <;> simp only [isByte] at h
  exact ⟨n, rfl, rfl⟩
theorem foldl_push_toList (ns : List Int) : ∀ s : ByteArray, (ns.foldl (fun r n => r.push (UInt8.ofNat n.toNat)) s).data.toList = s.data.toList ++ ns.map fun n => UInt8.ofNat n.toNat := by
  induction ns with
  | nil => intro s; simp
  | cons n ns ih => intro s; simp [ih]
theorem Cells.bytes {P : Program} {r : Rl} {w : World} {b o cap n : Nat} {cs : List AV} (h : Cells r w b o cs) (hb : ∀ x ∈ cs, isByte x) (hn : cs.length = n) :
    ∃ s : ByteArray, (Conv.bytesToString (.slice (some ⟨b, o, none⟩) n cap)).run P w = .ok (.string s) w ∧ s.data.toList = cs.map byteOf := by
  subst hn
  have h3 : ∀ i, ∃ m : Int, ∀ hl : i < cs.length, w.cell? ⟨b, o + i, none⟩ = some (.int .u8 m) ∧ byteOf cs[i] = UInt8.ofNat m.toNat := fun i => by
    by_cases hl : i < cs.length
    · obtain ⟨v, hv, hr⟩ := h i hl
      obtain ⟨m, h1, h2⟩ := isByte_eq (hb _ (List.getElem_mem hl)) hr
      exact ⟨m, fun _ => ⟨by rw [hv, h1], h2⟩⟩
    · exact ⟨0, fun h => absurd h hl⟩
  have hrun := run_loadCells (P := P) w ⟨b, o, none⟩ cs.length (fun i => Value.int .u8 (h3 i).choose) (fun j hj => by rw [Addr.add_lit]; exact ((h3 j).choose_spec hj).1)
  rw [show (List.range cs.length).map (fun i => Value.int .u8 (h3 i).choose) = ((List.range cs.length).map fun i => (h3 i).choose).map (Value.int .u8) by rw [List.map_map]; rfl] at hrun
  refine ⟨_, run_bytesToString w _ _ cap _ hrun, ?_⟩
  rw [foldl_push_toList]
  simp only [ByteArray.data_empty, List.nil_append, List.map_map]
  apply List.ext_getElem
  · simp
  · intro i h1 h2
    simp only [List.length_map, List.length_range] at h1
    simp only [List.getElem_map, List.getElem_range, Function.comp]
    exact (((h3 i).choose_spec h1).2).symm
theorem Cells.of_sl {r : Rl} {w : World} {st fl : Bool} {a : Option Addr} {n cap : Nat} {xs : List AV} (h : VRel r w (.slice a n cap) (.sl st fl 1 xs)) (h1 : ∀ x ∈ xs, x.one = true) :
    (xs = [] ∧ n = 0) ∨ ∃ b o, a = some ⟨b, o, none⟩ ∧ n = xs.length ∧ Cells r w b o xs := by
  cases h with
  | sl0 => exact .inl ⟨rfl, rfl⟩
  | sl hn hc0 hf hI hS hsz f hc hv =>
    refine .inr ⟨_, _, rfl, hn, fun i hi => ?_⟩
    have hx : (xs[i]).cells = [xs[i]] := by
      have := h1 _ (List.getElem_mem hi)
      generalize xs[i] = y at this ⊢
      cases y <;> first | rfl | simp [AV.one] at this
    have h2 := hv i hi 0 (by rw [hx]; simp)
    simp only [hx, List.getElem_cons_zero] at h2
    exact ⟨f i 0, by have := hc i hi 0 (by omega); simpa using this, h2⟩
theorem isByte_one {x : AV} (h : isByte x) : x.one = true := by
  cases x <;> simp only [isByte] at h
  rfl
theorem aConv_run {cx : Cx} {r : Rl} {σ : Heap} {w : World} {src dst : TypeId} {x : Value} {x' v : AV} {C : List Prop} (hi : Inv cx r σ w) (h : aConv cx.P src dst x' σ = some (C, v))
    (hC : AllP C) (hx : VRel r w x x') : ∃ v', (convert src dst x).run cx.P w = .ok v' w ∧ VRel r w v' v := by
  unfold aConv at h
  split at h
  · rename_i d h1 h2
    simp only [Option.some.injEq, Prod.mk.injEq] at h; obtain ⟨rfl, rfl⟩ := h
    cases hx
    exact ⟨_, by simp [convert, run_underlying h1, run_underlying h2, Conv.intToInt], .int⟩
  · rename_i d h1 h2
    simp only [Option.some.injEq, Prod.mk.injEq] at h; obtain ⟨rfl, rfl⟩ := h
    cases hx
    exact ⟨_, by simp [convert, run_underlying h1, run_underlying h2, Conv.intToString], .str rfl⟩
  · rename_i d h1 h2
    simp only [Option.some.injEq, Prod.mk.injEq] at h; obtain ⟨rfl, rfl⟩ := h
    cases hx with
    | str hs => exact ⟨_, by simp [convert, run_underlying h1, run_underlying h2], .str hs⟩
  · rename_i e h1 h2 hn1 hn2
    cases hu : isU8 cx.P e with
    | false => simp [hu] at h
    | true =>
      simp only [hu, cond_true] at h
      have he := isU8_eq hu
      have hconv : ∀ a l c, (convert src dst (.slice a l c)).run cx.P w = (Conv.bytesToString (.slice a l c)).run cx.P w :=
        fun a l c => run_convert_bytes_string w src dst e a l c h1 he h2
      split at h
      · simp only [Option.some.injEq, Prod.mk.injEq] at h; obtain ⟨rfl, rfl⟩ := h
        cases hx
        exact ⟨.string .empty, by rw [hconv]; simp [Conv.bytesToString], .str rfl⟩
      · simp only [Option.some.injEq, Prod.mk.injEq] at h; obtain ⟨rfl, rfl⟩ := h
        obtain ⟨hs1, hby, _⟩ := hC
        subst hs1
        cases x with
        | slice a n cap =>
          rcases Cells.of_sl hx (fun x hx => isByte_one (hby x hx)) with ⟨rfl, rfl⟩ | ⟨b, o, rfl, rfl, hc⟩
          · rw [hconv]
            cases a with
            | none => exact ⟨.string .empty, by simp [Conv.bytesToString], .str rfl⟩
            | some a =>
              have := run_bytesToString (P := cx.P) w a 0 cap [] (by simp [loadCells, loadCellsFrom])
              exact ⟨_, this, .str rfl⟩
          · obtain ⟨s, h3, h4⟩ := hc.bytes (P := cx.P) (cap := cap) hby rfl
            exact ⟨_, by rw [hconv]; exact h3, .str h4⟩
        | _ => cases hx
      · split at h
        · rename_i id ver off len sz fl cur cs ro hbx
          simp only [Option.some.injEq, Prod.mk.injEq] at h; obtain ⟨rfl, rfl⟩ := h
          obtain ⟨hv, hs1, hle, hby, _⟩ := hC
          subst hs1
          cases hx with
          | ms0 =>
            rename_i a
            rw [hconv]
            simp only [List.take_zero, List.map_nil]
            cases a with
            | none => exact ⟨.string .empty, by simp [Conv.bytesToString], .str rfl⟩
            | some a =>
              have := run_bytesToString (P := cx.P) w a 0 0 [] (by simp [loadCells, loadCellsFrom])
              exact ⟨_, this, .str rfl⟩
          | ms hρ hcap hn hf =>
            obtain ⟨s, h3, h4⟩ := (((hi.cells hbx hv hρ).cells'.drop _).take _).bytes (P := cx.P) (cap := _) hby (n := off) (by rw [List.length_take, List.length_drop]; omega)
            exact ⟨_, by rw [hconv]; exact h3, .str h4⟩
        · cases h
      · cases h
  · cases h
end Go.Ab
end
section
set_option linter.unusedVariables false
set_option linter.unusedSimpArgs false
namespace Go.Ab
open Go
theorem run_sliceBound (P : Program) (w : World) (k : IntKind) (i : Int) (y : Nat) (c : BoundsCode) (h0 : 0 ≤ i) (h1 : i ≤ y) : (Instr.sliceBound (.int k i) y c).run P w = .ok i.toNat w := by
  simp [Instr.sliceBound, asIntOf, h0, h1]
inductive Bd (r : Rl) (w : World) : Option Value → Option Int → Prop
  | none : Bd r w none none
  | some {k n} : Bd r w (some (.int k n)) (some n)
def bInt : Option AV → Option (Option Int)
  | none => some none
  | some (.int _ n) => some (some n)
  | _ => none
theorem bInt_bd {r : Rl} {w : World} {x : Option Value} {x' : Option AV} {n : Option Int} (h : bInt x' = some n) (hx : ∀ v, x = some v → ∃ v', x' = some v' ∧ VRel r w v v') (hn : x = none → x' = none) : Bd r w x n := by
  cases x with
  | none =>
    rw [hn rfl] at h
    simp only [bInt, Option.some.injEq] at h
    subst h; exact .none
  | some v =>
    obtain ⟨v', rfl, hv⟩ := hx v rfl
    cases hv <;> simp only [bInt, Option.some.injEq, reduceCtorEq] at h
    subst h; exact .some
theorem run_bounds (P : Program) (w : World) (r : Rl) (isSlice : Bool) (len cap : Nat) (lo hi mx : Option Value) (l h m : Option Int) (hl : Bd r w lo l) (hh : Bd r w hi h) (hm : Bd r w mx m)
    (h1 : 0 ≤ l.getD 0) (h2 : l.getD 0 ≤ h.getD len) (h3 : h.getD len ≤ m.getD cap) (h4 : m.getD cap ≤ cap) (h5 : h = none → m = none) :
    (Instr.sliceBounds isSlice len cap lo hi mx).run P w = .ok ((l.getD 0).toNat, (h.getD len).toNat, (m.getD cap).toNat) w := by
  have hm' : ∀ x, m = some x → 0 ≤ x ∧ x ≤ cap := fun x hx => by subst hx; simp only [Option.getD_some] at *; omega
  cases hm with
  | none =>
    cases hh with
    | none =>
      cases hl with
      | none => simp [Instr.sliceBounds]
      | some => simp only [Option.getD_some, Option.getD_none] at *; simp [Instr.sliceBounds, run_sliceBound P w _ _ _ _ h1 h2]
    | some =>
      simp only [Option.getD_some, Option.getD_none] at h2 h3
      cases hl with
      | none => simp only [Option.getD_none] at h2; simp [Instr.sliceBounds, run_sliceBound P w _ _ _ _ h2 h3]
      | some =>
        simp only [Option.getD_some] at h1 h2
        rename_i k1 n1 k2 n2
        have h2' : n2 ≤ (n1.toNat : Int) := by omega
        simp [Instr.sliceBounds, run_sliceBound P w _ _ _ _ (Int.le_trans h1 h2) h3, run_sliceBound P w _ _ _ _ h1 h2']
  | some =>
    rename_i km nm
    cases hh with
    | none => exact absurd (h5 rfl) (by simp)
    | some =>
      simp only [Option.getD_some] at *
      rename_i k1 n1
      cases hl with
      | none =>
        simp only [Option.getD_none] at h2
        have h3' : n1 ≤ (nm.toNat : Int) := by omega
        simp [Instr.sliceBounds, run_sliceBound P w _ _ _ _ (Int.le_trans h2 h3) h4, run_sliceBound P w _ _ _ _ h2 h3']
      | some =>
        simp only [Option.getD_some] at h1 h2
        rename_i k2 n2
        have h3' : n1 ≤ (nm.toNat : Int) := by omega
        have h2' : n2 ≤ (n1.toNat : Int) := by omega
        simp [Instr.sliceBounds, run_sliceBound P w _ _ _ _ (Int.le_trans (Int.le_trans h1 h2) h3) h4, run_sliceBound P w _ _ _ _ (Int.le_trans h1 h2) h3', run_sliceBound P w _ _ _ _ h1 h2']
def cutL {α : Type} (l h : Option Int) (s : List α) : List α :=
  match l, h with
  | none, none => s
  | some l, none => s.drop l.toNat
  | none, some h => s.take h.toNat
  | some l, some h => (s.take h.toNat).drop l.toNat
theorem cutL_eq {α : Type} (l h : Option Int) (s : List α) (h1 : 0 ≤ l.getD 0) (h2 : l.getD 0 ≤ h.getD s.length) (h3 : h.getD s.length ≤ s.length) :
    cutL l h s = (s.take (h.getD s.length).toNat).drop (l.getD 0).toNat := by
  cases l <;> cases h <;> simp [cutL]
def cutC (l h : Option Int) (n : Nat) : List Prop :=
  match l, h with
  | none, none => []
  | some l, none => [0 ≤ l, l ≤ n]
  | none, some h => [0 ≤ h, h ≤ n]
  | some l, some h => [0 ≤ l, l ≤ h, h ≤ n]
theorem cutC_all {l h : Option Int} {n : Nat} {D : List Prop} (hc : AllP (cutC l h n ++ D)) : (0 ≤ l.getD 0 ∧ l.getD 0 ≤ h.getD n ∧ h.getD n ≤ n) ∧ AllP D := by
  cases l <;> cases h <;> simp only [cutC, List.nil_append, List.cons_append, AllP, Option.getD_none, Option.getD_some] at hc ⊢
  · exact ⟨⟨Int.le_refl _, by omega, Int.le_refl _⟩, hc⟩
  · exact ⟨⟨Int.le_refl _, hc.1, hc.2.1⟩, hc.2.2⟩
  · exact ⟨⟨hc.1, hc.2.1, Int.le_refl _⟩, hc.2.2⟩
  · exact ⟨⟨hc.1, hc.2.1, hc.2.2.1⟩, hc.2.2.2⟩
def aSlice (P : Program) (t : TypeId) (x : AV) (lo hi mx : Option AV) (σ : Heap) : Option (List Prop × AV) :=
  match bInt lo, bInt hi, bInt mx with
  | some l, some h, some m =>
    match P.underlying t with
    | some .string => match x, m with
      | .str s, none => some (cutC l h s.length ++ [], .str (cutL l h s))
      | _, _ => none
    | some (.slice e) => match szOf P e with
      | some n => match x with
        | .nils => match l, h, m with
          | none, none, none => some ([], .nils)
          | _, _, _ => none
        | .sl st fl sz xs => match m with
          | none => some (cutC l h xs.length ++ [sz = n], .sl st (match h with | none => fl | some _ => false) sz (cutL l h xs))
          | some m => match h with
            | some hh => some (cutC l h xs.length ++ [sz = n, m = hh], .sl st true sz (cutL l h xs))
            | none => none
        | .ms id ver off len sz fl => match m with
          | none => some (cutC l h len ++ [sz = n], .ms id ver (off + (l.getD 0).toNat * sz) ((h.getD len).toNat - (l.getD 0).toNat) sz (match h with | none => fl | some _ => false))
          | some m => match h with
            | some hh => some (cutC l h len ++ [sz = n, m = hh], .ms id ver (off + (l.getD 0).toNat * sz) (hh.toNat - (l.getD 0).toNat) sz true)
            | none => none
        | _ => none
      | none => none
    | some (.array n e) => match szOf P e with
      | some sz => match x, m with
        | .ptr id ver off, none => match boxAt σ id with
          | some (cur, cs, _) => some (cutC l h n ++ [ver = cur, off + n * sz ≤ cs.length, 0 < sz], .ms id ver (off + (l.getD 0).toNat * sz) ((h.getD n).toNat - (l.getD 0).toNat) sz false)
          | none => none
        | _, _ => none
      | none => none
    | _ => none
  | _, _, _ => none
theorem extract_toList (s : ByteArray) (l h : Nat) : (s.extract l h).data.toList = (s.data.toList.take h).drop l := by
  rw [ByteArray.data_extract, Array.toList_extract, List.extract_eq_take_drop]
  rw [List.drop_take]
theorem sl_cut {r : Rl} {w : World} {st fl fl' : Bool} {a : Option Addr} {sz n cap l h m : Nat} {xs : List AV} (hx : VRel r w (.slice a n cap) (.sl st fl sz xs)) (h1 : l ≤ h) (h2 : h ≤ xs.length) (h3 : h ≤ m)
    (hf : fl' = true → m = h) : VRel r w (.slice (if m = l then a else a.map (·.add (l * sz))) (h - l) (m - l)) (.sl st fl' sz ((xs.take h).drop l)) := by
  by_cases he : l = h
  · subst he
    have : (xs.take l).drop l = [] := by simp
    rw [this, Nat.sub_self]
    exact .sl0 (fun h => by rw [hf h]; omega)
  · cases hx with
    | sl0 => simp at h2; omega
    | sl hn hc0 hff hI hS hsz f hc hv =>
      rename_i b o
      rw [if_neg (by omega)]
      simp only [Option.map_some, Addr.add_lit]
      have hlen : ((xs.take h).drop l).length = h - l := by simp; omega
      have hget : ∀ e (he : e < ((xs.take h).drop l).length), ((xs.take h).drop l)[e] = xs[l + e]'(by rw [hlen] at he; omega) := by
        intro e he; simp
      refine .sl hlen.symm (by omega) (fun h => by rw [hf h]) hI hS (fun x hx => hsz x (List.mem_of_mem_take (List.mem_of_mem_drop hx))) (fun e j => f (l + e) j) (fun e he' j hj => ?_) (fun e he' j hj => ?_)
      · rw [hlen] at he'
        have := hc (l + e) (by omega) j hj
        rw [show o + l * sz + e * sz + j = o + (l + e) * sz + j by rw [Nat.add_mul]; omega]
        exact this
      · rw [hlen] at he'
        have h5 := hget e (by rw [hlen]; exact he')
        have h6 := hv (l + e) (by omega) j (by rw [← h5]; exact hj)
        simp only [h5]; exact h6
theorem aSlice_run {cx : Cx} {r : Rl} {σ : Heap} {w : World} {t : TypeId} {x : Value} {x' v : AV} {lo hi mx : Option Value} {lo' hi' mx' : Option AV} {C : List Prop} (hinv : Inv cx r σ w)
    (h : aSlice cx.P t x' lo' hi' mx' σ = some (C, v)) (hC : AllP C) (hx : VRel r w x x') (hlo : ∀ n, bInt lo' = some n → Bd r w lo n) (hhi : ∀ n, bInt hi' = some n → Bd r w hi n) (hmx : ∀ n, bInt mx' = some n → Bd r w mx n) :
    ∃ v', (Instr.sliceAt t x lo hi mx).run cx.P w = .ok v' w ∧ VRel r w v' v := by
  unfold aSlice at h
  split at h
  case h_2 => cases h
  rename_i l hh m h1 h2 h3
  have hl := hlo l h1
  have hhb := hhi hh h2
  have hm := hmx m h3
  split at h
  ·
    rename_i hu
    split at h
    case h_2 => cases h
    simp only [Option.some.injEq, Prod.mk.injEq] at h; obtain ⟨rfl, rfl⟩ := h
    obtain ⟨⟨c1, c2, c3⟩, _⟩ := cutC_all hC
    cases hx with
    | str hs =>
      rename_i s
      subst hs
      have hsz : s.size = s.data.toList.length := by rw [Array.length_toList]; rfl
      rw [← hsz] at c2 c3
      cases hm with
      | none =>
        have hb := run_bounds cx.P w r false s.size s.size lo hi none l hh none hl hhb .none c1 c2 (by rw [Option.getD_none]; exact c3) (Int.le_refl _) (fun _ => rfl)
        refine ⟨.string (s.extract (l.getD 0).toNat (hh.getD s.size).toNat), ?_, .str ?_⟩
        · simp only [Instr.sliceAt, Instr.slice, Sem.run_bind, run_underlying hu, Result.andThen_ok, Option.isSome_none, Bool.false_eq_true, if_false, hb, Sem.run_pure]
        · rw [extract_toList, cutL_eq l hh _ c1 (by rw [← hsz]; exact c2) (by rw [← hsz]; exact c3), hsz]
  ·
    rename_i e hu
    split at h
    case h_2 => cases h
    rename_i n hn
    have hrun : ∀ (a : Option Addr) (len cap M : Nat), 0 ≤ l.getD 0 → l.getD 0 ≤ hh.getD (len : Int) → hh.getD (len : Int) ≤ m.getD (cap : Int) → m.getD (cap : Int) ≤ (cap : Int) → (hh = none → m = none) → (m.getD (cap : Int)).toNat = M →
        (Instr.sliceAt t (.slice a len cap) lo hi mx).run cx.P w = .ok (.slice (if M = (l.getD 0).toNat then a else a.map (·.add ((l.getD 0).toNat * n))) ((hh.getD (len : Int)).toNat - (l.getD 0).toNat) (M - (l.getD 0).toNat)) w := by
      intro a len cap M c1 c2 c3 c4 c5 hM
      have hb := run_bounds cx.P w r true len cap lo hi mx l hh m hl hhb hm c1 c2 c3 c4 c5
      rw [hM] at hb
      simp only [Instr.sliceAt, Instr.slice, Sem.run_bind, run_underlying hu, Result.andThen_ok, hb, run_sizeOf' hn, Sem.run_pure]
    split at h
    ·
      split at h
      case h_2 => cases h
      simp only [Option.some.injEq, Prod.mk.injEq] at h; obtain ⟨rfl, rfl⟩ := h
      cases hx
      have := hrun none 0 0 0 (by simp) (by simp) (by simp) (by simp) (fun _ => rfl) rfl
      exact ⟨_, this, by simpa using VRel.nils⟩
    ·
      rename_i st fl sz xs
      split at h
      · simp only [Option.some.injEq, Prod.mk.injEq] at h; obtain ⟨rfl, rfl⟩ := h
        obtain ⟨⟨c1, c2, c3⟩, c4, _⟩ := cutC_all hC
        subst c4
        rename_i hsz0
        cases x with
        | slice a len cap =>
          have hlen : len = xs.length ∧ len ≤ cap ∧ (fl = true → cap = len) := by
            cases hx with
            | sl0 hf => exact ⟨rfl, Nat.zero_le _, hf⟩
            | sl hn hc0 hf => exact ⟨hn, hc0, hf⟩
          obtain ⟨rfl, hcap, hfl⟩ := hlen
          have hr := hrun a xs.length cap cap c1 c2 (by simp; omega) (by simp) (fun _ => rfl) (by simp)
          refine ⟨_, hr, ?_⟩
          rw [cutL_eq l hh xs c1 c2 c3]
          refine sl_cut hx (by omega) (by omega) (by omega) (fun hf => ?_)
          cases hh with
          | none => simp only at hf; have := hfl hf; simp; omega
          | some y => simp at hf
        | _ => cases hx
      · rename_i m'
        split at h
        case h_2 => cases h
        rename_i y
        simp only [Option.some.injEq, Prod.mk.injEq] at h; obtain ⟨rfl, rfl⟩ := h
        obtain ⟨⟨c1, c2, c3⟩, c4, c5, _⟩ := cutC_all hC
        subst c4; subst c5
        cases x with
        | slice a len cap =>
          have hlen : len = xs.length ∧ len ≤ cap := by
            cases hx with
            | sl0 hf => exact ⟨rfl, Nat.zero_le _⟩
            | sl hn hc0 hf => exact ⟨hn, hc0⟩
          obtain ⟨rfl, hcap⟩ := hlen
          simp only [Option.getD_some] at c2 c3
          have hr := hrun a xs.length cap m'.toNat c1 c2 (by simp) (by simp; omega) (fun h => by simp at h) (by simp)
          refine ⟨_, hr, ?_⟩
          rw [cutL_eq l (some m') xs c1 c2 c3]
          exact sl_cut hx (by simp; omega) (by simp; omega) (by simp) (fun _ => by simp)
        | _ => cases hx
    ·
      rename_i id ver off len sz fl
      split at h
      · simp only [Option.some.injEq, Prod.mk.injEq] at h; obtain ⟨rfl, rfl⟩ := h
        obtain ⟨⟨c1, c2, c3⟩, c4, _⟩ := cutC_all hC
        subst c4
        cases hx with
        | ms0 =>
          rename_i a
          have hr := hrun a 0 0 0 c1 c2 (by simpa using c3) (by simp) (fun _ => rfl) (by simp)
          have e1 : (hh.getD ((0 : Nat) : Int)).toNat = 0 := by omega
          have e2 : (l.getD 0).toNat = 0 := by omega
          refine ⟨_, hr, ?_⟩
          rw [e1, e2]
          simpa using VRel.ms0
        | ms hρ hcap hn hf =>
          rename_i b o cap
          have hr := hrun (some ⟨b, o + off, none⟩) len cap cap c1 c2 (by simp; omega) (by simp) (fun _ => rfl) (by simp)
          refine ⟨_, hr, ?_⟩
          by_cases hm' : cap = (l.getD 0).toNat
          · have e1 : (hh.getD (len : Int)).toNat - (l.getD 0).toNat = 0 := by omega
            rw [e1, if_pos hm', hm', Nat.sub_self]
            exact .ms0
          · rw [if_neg hm']
            simp only [Option.map_some, Addr.add_lit, Nat.add_assoc]
            obtain ⟨c, t', f, q1, q2⟩ := hcap
            refine .ms hρ ⟨c, t', f, q1, ?_⟩ (by omega) (fun hf' => ?_)
            · have : (l.getD 0).toNat * sz + (cap - (l.getD 0).toNat) * sz = cap * sz := by rw [← Nat.add_mul]; congr 1; omega
              omega
            · cases hh with
              | none => simp only at hf'; have := hf hf'; simp; omega
              | some y => simp at hf'
      · rename_i m'
        split at h
        case h_2 => cases h
        rename_i y
        simp only [Option.some.injEq, Prod.mk.injEq] at h; obtain ⟨rfl, rfl⟩ := h
        obtain ⟨⟨c1, c2, c3⟩, c4, c5, _⟩ := cutC_all hC
        subst c4; subst c5
        simp only [Option.getD_some] at c2 c3
        cases hx with
        | ms0 =>
          rename_i a
          have hr := hrun a 0 0 m'.toNat c1 c2 (by simp) (by simpa using c3) (fun h => by simp at h) (by simp)
          have e1 : m'.toNat = 0 := by omega
          have e2 : (l.getD 0).toNat = 0 := by omega
          refine ⟨_, hr, ?_⟩
          simp only [Option.getD_some, e1, e2]
          simpa using VRel.ms0
        | ms hρ hcap hn hf =>
          rename_i b o cap
          have hr := hrun (some ⟨b, o + off, none⟩) len cap m'.toNat c1 c2 (by simp) (by simp; omega) (fun h => by simp at h) (by simp)
          refine ⟨_, hr, ?_⟩
          simp only [Option.getD_some]
          by_cases hm' : m'.toNat = (l.getD 0).toNat
          · rw [if_pos hm', hm', Nat.sub_self]
            exact .ms0
          · rw [if_neg hm']
            simp only [Option.map_some, Addr.add_lit, Nat.add_assoc]
            obtain ⟨c, t', f, q1, q2⟩ := hcap
            refine .ms hρ ⟨c, t', f, q1, ?_⟩ (by omega) (fun hf' => rfl)
            have : (l.getD 0).toNat * sz + (cap - (l.getD 0).toNat) * sz = cap * sz := by rw [← Nat.add_mul]; congr 1; omega
            have : (m'.toNat - (l.getD 0).toNat) * sz ≤ (cap - (l.getD 0).toNat) * sz := Nat.mul_le_mul_right _ (by omega)
            omega
    · cases h
  ·
    rename_i n e hu
    split at h
    case h_2 => cases h
    rename_i sz hsz
    split at h
    case h_2 => cases h
    split at h
    case h_2 => cases h
    rename_i cur cs ro hbx
    simp only [Option.some.injEq, Prod.mk.injEq] at h; obtain ⟨rfl, rfl⟩ := h
    obtain ⟨⟨c1, c2, c3⟩, c4, c5, c6, _⟩ := cutC_all hC
    cases hm with
    | none =>
    cases hx with
    | ptr hρ =>
      rename_i b o
      have hbr := hinv.cells hbx c4 hρ
      have hb := run_bounds cx.P w r false n n lo hi none l hh none hl hhb .none c1 c2 (by simpa using c3) (by simp) (fun _ => rfl)
      obtain ⟨c, t', lo', hi', q1, q2, q3⟩ := hbr
      have hsz' : cs.length = 0 ∨ o + cs.length ≤ c.size := by
        rcases Nat.eq_zero_or_pos cs.length with h0 | h0
        · exact .inl h0
        · obtain ⟨v, hv, _⟩ := q2 (cs.length - 1) (by omega)
          rcases Nat.lt_or_ge (o + (cs.length - 1)) c.size with h | h
          · right; omega
          · rw [Array.getElem?_eq_none h] at hv; cases hv
      refine ⟨_, by
        simp only [Instr.sliceAt, Instr.sureAddr, Sem.run_bind, run_underlying hu, Result.andThen_ok, Sem.run_pure, hb, run_sizeOf' hsz]
        rfl, ?_⟩
      simp only [Option.getD_none, Int.toNat_natCast]
      by_cases hm' : n = (l.getD 0).toNat
      · have e1 : (hh.getD (n : Int)).toNat - (l.getD 0).toNat = 0 := by omega
        rw [e1, if_pos hm', ← hm', Nat.sub_self]
        exact .ms0
      · rw [if_neg hm', Addr.add_lit, Nat.add_assoc]
        refine .ms hρ ⟨c, t', _, q1, ?_⟩ (by omega) (fun h => by simp at h)
        have h6 : (l.getD 0).toNat * sz + (n - (l.getD 0).toNat) * sz = n * sz := by rw [← Nat.add_mul]; congr 1; omega
        have h7 : 0 < n * sz := Nat.mul_pos (by omega) c6
        omega
  · cases h
end Go.Ab
end
section
set_option linter.unusedVariables false
set_option linter.unusedSimpArgs false
namespace Go.Ab
open Go
def notIface (P : Program) (t : TypeId) : Bool :=
  match P.underlying t with
  | some (.interface _) => false
  | some _ => true
  | none => false
def fieldOf (P : Program) (s : TypeId) (f : Nat) : Option (Nat × TypeId) :=
  match P.underlying s with
  | some (.struct fs) => match fs[f]? with
    | some f => some (f.offset, f.type)
    | none => none
  | _ => none
theorem fieldOf_some {P : Program} {s : TypeId} {f o : Nat} {t : TypeId} (h : fieldOf P s f = some (o, t)) :
    ∃ fs g, P.underlying s = some (.struct fs) ∧ fs[f]? = some g ∧ g.offset = o ∧ g.type = t := by
  unfold fieldOf at h
  split at h
  · rename_i fs hu
    split at h
    · rename_i g hg
      simp only [Option.some.injEq, Prod.mk.injEq] at h
      exact ⟨fs, g, hu, hg, h.1, h.2⟩
    · cases h
  · cases h
def aLen (P : Program) (t : TypeId) (x : AV) (σ : Heap) : Option (List Prop × AV) :=
  match P.underlying t, x with
  | some .string, .str s => some ([], .int .i64 s.length)
  | some (.slice _), .nils => some ([], .int .i64 0)
  | some (.slice _), .sl _ _ _ xs => some ([], .int .i64 xs.length)
  | some (.slice _), .ms _ _ _ len _ _ => some ([], .int .i64 len)
  | some (.array n _), _ => some ([], .int .i64 n)
  | some (.map ..), .nilm => some ([], .int .i64 0)
  | some (.map ..), .map id ver => match σ[id]? with
    | some (cur, some (.map kvs _)) => some ([ver = cur], .int .i64 kvs.length)
    | _ => none
  | _, _ => none
theorem slice_len {r : Rl} {w : World} {a : Option Addr} {n cap : Nat} {st fl : Bool} {sz : Nat} {xs : List AV} (h : VRel r w (.slice a n cap) (.sl st fl sz xs)) : n = xs.length := by
  cases h with
  | sl0 => rfl
  | sl hn => exact hn
theorem aLen_run {cx : Cx} {r : Rl} {σ : Heap} {w : World} {t ty : TypeId} {x : Value} {x' v : AV} {C : List Prop} (hi : Inv cx r σ w) (h : aLen cx.P t x' σ = some (C, v)) (hC : AllP C)
    (hx : VRel r w x x') : ∃ v', (Builtin.len_ #[t] ty #[x]).run cx.P w = .ok v' w ∧ VRel r w v' v := by
  unfold aLen at h
  split at h
  · rename_i hu
    simp only [Option.some.injEq, Prod.mk.injEq] at h; obtain ⟨rfl, rfl⟩ := h
    cases hx with
    | str hs =>
      rename_i s
      subst hs
      refine ⟨.int .i64 s.size, by simp [Builtin.len_, run_underlying hu, goInt], ?_⟩
      rw [show s.size = s.data.toList.length by rw [Array.length_toList]; rfl]
      exact .int
  · rename_i hu
    simp only [Option.some.injEq, Prod.mk.injEq] at h; obtain ⟨rfl, rfl⟩ := h
    cases hx
    exact ⟨.int .i64 0, by simp [Builtin.len_, run_underlying hu, goInt], .int⟩
  · rename_i hu
    simp only [Option.some.injEq, Prod.mk.injEq] at h; obtain ⟨rfl, rfl⟩ := h
    cases x with
    | slice a n cap =>
      have := slice_len hx
      subst this
      exact ⟨_, by simp [Builtin.len_, run_underlying hu, goInt], .int⟩
    | _ => cases hx
  · rename_i hu
    simp only [Option.some.injEq, Prod.mk.injEq] at h; obtain ⟨rfl, rfl⟩ := h
    cases hx with
    | ms0 => exact ⟨.int .i64 0, by simp [Builtin.len_, run_underlying hu, goInt], .int⟩
    | ms => exact ⟨_, by simp [Builtin.len_, run_underlying hu, goInt], .int⟩
  · rename_i hu
    simp only [Option.some.injEq, Prod.mk.injEq] at h; obtain ⟨rfl, rfl⟩ := h
    exact ⟨_, by simp [Builtin.len_, run_underlying hu, goInt], .int⟩
  · rename_i hu
    simp only [Option.some.injEq, Prod.mk.injEq] at h; obtain ⟨rfl, rfl⟩ := h
    cases hx
    exact ⟨.int .i64 0, by simp [Builtin.len_, run_underlying hu, goInt], .int⟩
  · rename_i hu
    split at h
    · rename_i cur kvs hb
      simp only [Option.some.injEq, Prod.mk.injEq] at h; obtain ⟨rfl, rfl⟩ := h
      obtain ⟨hv, _⟩ := hC
      subst hv
      cases hx with
      | map hρ =>
        rcases hi.box _ _ _ hb with ⟨b', o', h1, h2⟩ | ⟨h1, _⟩
        · rw [hρ] at h1
          simp only [Option.some.injEq, Prod.mk.injEq] at h1
          obtain ⟨rfl, rfl⟩ := h1
          obtain ⟨h0, es, clock, h3, h4, _⟩ := h2
          refine ⟨.int .i64 es.size, by simp [Builtin.len_, run_underlying hu, goInt, getObj, Sem.run, h3], ?_⟩
          rw [h4]; exact .int
        · rw [hρ] at h1; cases h1
    · cases h
  · cases h
def eqOne (P : Program) (t : TypeId) : AV → AV → Option Bool
  | .int k a, .int k' b => match P.underlying t with
    | some (.int _) => match kindEq k k' with | true => some (a == b) | false => none
    | _ => none
  | .str a, .str b => match P.underlying t with
    | some .string => some (a == b)
    | _ => none
  | .bool a, .bool b => match P.underlying t with
    | some .bool => some (a == b)
    | _ => none
  | _, _ => none
def eqFs (P : Program) : List Field → List AV → List AV → Option Bool
  | [], _, _ => some true
  | f :: r, xs, ys => match aLoad P f.type (xs.drop f.offset), aLoad P f.type (ys.drop f.offset) with
    | some a, some b => match eqOne P f.type a b with
      | some c => match eqFs P r xs ys with
        | some d => some (c && d)
        | none => none
      | none => none
    | _, _ => none
def cmpOk (P : Program) (t : TypeId) : Bool :=
  match P.underlying t with
  | some (.struct fs) => !(P.stoodInHeld t) && !(P.eqGuardType P.depth t) && fs.toList.all (fun f => f.name != "_")
  | _ => false
def eqSt (P : Program) (op : BinOp) (t : TypeId) (xs ys : List AV) : Option (List Prop × AV) :=
  match P.underlying t with
  | some (.struct fs) => match eqFs P fs.toList xs ys with
    | some b => match op with
      | .eql => some ([cmpOk P t = true], .bool b)
      | .neq => some ([cmpOk P t = true], .bool !b)
      | _ => none
    | none => none
  | _ => none
def aBin2 (P : Program) (op : BinOp) (t : TypeId) (x y : AV) : Option (List Prop × AV) :=
  match x, y with
  | .agg xs, .agg ys => eqSt P op t xs ys
  | x, y => aBin P op t x y
theorem eqOne_run {P : Program} {r : Rl} {w : World} {t : TypeId} {x y : Value} {a b : AV} {c : Bool} (d : Nat) (h : eqOne P t a b = some c) (hx : VRel r w x a) (hy : VRel r w y b) : (Op.equalIn (d + 1) t x y).run P w = .ok c w := by
  unfold eqOne at h
  split at h
  · split at h
    · rename_i ht
      split at h
      · rename_i hk
        have := kindEq_eq hk
        subst this
        cases h; cases hx; cases hy
        simp [Op.equalIn, run_underlying ht]
      · cases h
    · cases h
  · split at h
    · rename_i ht
      cases h
      cases hx with
      | str h1 =>
        cases hy with
        | str h2 =>
          subst h1; subst h2
          rw [run_equalIn_string w d t _ _ ht, list_beq_toList]
    · cases h
  · split at h
    · rename_i ht
      cases h; cases hx; cases hy
      simp [Op.equalIn, run_underlying ht]
    · cases h
  · cases h
def zeroV (P : Program) (t : TypeId) : Option AV :=
  match P.info? t with
  | some i => match i.zero with
    | some z => some (cst z)
    | none => none
  | none => none
theorem zeroV_run {P : Program} {t : TypeId} {v : AV} (h : zeroV P t = some v) (r : Rl) (w : World) : ∃ z, (zeroValue t).run P w = .ok z w ∧ VRel r w z v := by
  unfold zeroV at h
  split at h
  case h_2 => cases h
  rename_i i hi
  split at h
  case h_2 => cases h
  rename_i z hz
  cases h
  refine ⟨z, ?_, cst_rel r w z⟩
  simp [zeroValue, typeInfo, hi, hz]
def nilCmp (P : Program) (op : BinOp) (t : TypeId) (y : Operand) (x : AV) : Option AV :=
  match y, x with
  | .const .nilIface, .nili => match isIfaceT P t with
    | true => match op with
      | .eql => some (.bool true)
      | .neq => some (.bool false)
      | _ => none
    | false => none
  | _, _ => none
theorem nilCmp_some {P : Program} {op : BinOp} {t : TypeId} {y : Operand} {x v : AV} (h : nilCmp P op t y x = some v) :
    y = .const .nilIface ∧ x = .nili ∧ (∃ ms, P.underlying t = some (.interface ms)) ∧ ((op = .eql ∧ v = .bool true) ∨ (op = .neq ∧ v = .bool false)) := by
  unfold nilCmp at h
  split at h
  · split at h
    · rename_i hi
      refine ⟨rfl, rfl, ?_, ?_⟩
      · unfold isIfaceT at hi
        split at hi
        · exact ⟨_, by assumption⟩
        · cases hi
      · split at h
        · cases h; exact .inl ⟨rfl, rfl⟩
        · cases h; exact .inr ⟨rfl, rfl⟩
        · cases h
    · cases h
  · cases h
theorem run_nil_nil {P : Program} {w : World} {t : TypeId} {ms} (h : P.underlying t = some (.interface ms)) (X : Operand) :
    (do eqGuard .eql t X (.const .nilIface) .nilIface .nilIface; binOp .eql t .nilIface .nilIface : Sem Value).run P w = .ok (.bool true) w ∧
    (do eqGuard .neq t X (.const .nilIface) .nilIface .nilIface; binOp .neq t .nilIface .nilIface : Sem Value).run P w = .ok (.bool false) w := by
  have hE : (Op.equal t .nilIface .nilIface).run P w = .ok true w := by
    have hd : ∀ d, (Op.equalIn (d + 1) t .nilIface .nilIface).run P w = .ok true w := fun d => by simp [Op.equalIn, run_underlying h]
    exact hd 9999
  have g1 : eqGuard .eql t X (.const .nilIface) .nilIface .nilIface = pure () := by cases X <;> rfl
  have g2 : eqGuard .neq t X (.const .nilIface) .nilIface .nilIface = pure () := by cases X <;> rfl
  have b1 : binOp .eql t .nilIface .nilIface = (do pure (.bool (← Op.equal t .nilIface .nilIface))) := rfl
  have b2 : binOp .neq t .nilIface .nilIface = (do pure (.bool (!(← Op.equal t .nilIface .nilIface)))) := rfl
  constructor
  · rw [g1, b1]; simp [hE]
  · rw [g2, b2]; simp [hE]
def aPure (cx : Cx) (o : Op) (fr : Fr) (σ : Heap) : Option (List Prop × AV) :=
  match o with
  | .move x => some ([], ev cx fr x)
  | .assign x => some ([], ev cx fr x)
  | .pick c a b => match ev cx fr c with
    | .bool t => match t with
      | true => some ([], ev cx fr a)
      | false => some ([], ev cx fr b)
    | _ => none
  | .load t a => match ev cx fr a with
    | .ptr id ver off => match boxAt σ id with
      | some (cur, cs, _) => match aLoad cx.P t (cs.drop off) with
        | some v => some ([ver = cur], v)
        | none => none
      | none => none
    | .rp _ cs => match aLoad cx.P t cs with
      | some v => some ([], v)
      | none => none
    | _ => none
  | .nilCheck x => match ev cx fr x with
    | .ptr id ver off => some ([], .ptr id ver off)
    | .eptr id ver off => some ([], .eptr id ver off)
    | .rp st cs => some ([], .rp st cs)
    | _ => none
  | .binOp op t x y _ => match nilCmp cx.P op t y (ev cx fr x) with
    | some v => some ([], v)
    | none => aBin2 cx.P op t (ev cx fr x) (ev cx fr y)
  | .unOp op _ x => match aUn op (ev cx fr x) with
    | some v => some ([], v)
    | none => none
  | .convert s d x => aConv cx.P s d (ev cx fr x) σ
  | .makeInterface t x => bif notIface cx.P t then some ([], .iface t (ev cx fr x)) else none
  | .makeFunc fn first captured => some ([], .func fn (first.toList.map (ev cx fr)) (captured.toList.map (ev cx fr)))
  | .slice t x lo hi mx => aSlice cx.P t (ev cx fr x) (lo.map (ev cx fr)) (hi.map (ev cx fr)) (mx.map (ev cx fr)) σ
  | .fieldAddr s x f => match fieldOf cx.P s f with
    | some (off, t) => match szOf cx.P t with
      | some n => bif Nat.beq n 0 then none else match ev cx fr x with
        | .ptr id ver o => some ([], .ptr id ver (o + off))
        | .eptr id ver o => some ([], .eptr id ver (o + off))
        | .rp st cs => some ([], .rp st (cs.drop off))
        | _ => none
      | none => none
    | none => none
  | .field s x f => match fieldOf cx.P s f with
    | some (off, t) => match ev cx fr x with
      | .agg cs => match aLoad cx.P t (cs.drop off) with
        | some v => some ([], v)
        | none => none
      | _ => none
    | none => none
  | .index t x i => match cx.P.underlying t, ev cx fr x, ev cx fr i with
    | some .string, .str s, .int _ n => some ([0 ≤ n, n < s.length], .int .u8 ((s.getD n.toNat 0).toNat))
    | _, _, _ => none
  | .typeAssert x _ t ok => match ev cx fr x with
    | .iface u v => match notIface cx.P t with
      | true => match Nat.beq u t with
        | true => some ([], bif ok then .tup [v, .bool true] else v)
        | false => match ok, zeroV cx.P t with
          | true, some z => some ([], .tup [z, .bool false])
          | _, _ => none
      | false => none
    | .nili => match notIface cx.P t with
      | true => match ok, zeroV cx.P t with
        | true, some z => some ([], .tup [z, .bool false])
        | _, _ => none
      | false => none
    | _ => none
  | .extract x i => match ev cx fr x with
    | .tup vs => match vs[i]? with
      | some v => some ([], v)
      | none => none
    | _ => none
  | .call { callee := .builtin .len, args := args, argTypes := ts } => match args.toList, ts.toList with
    | [x], [t] => aLen cx.P t (ev cx fr x) σ
    | _, _ => none
  | .call { callee := .builtin .unsafeSliceData, args := args, .. } => match args.toList with
    | [x] => match ev cx fr x with
      | .ms id ver off len _ _ => some ([0 < len], .eptr id ver off)
      | .nils => some ([], .nilp)
      | _ => none
    | _ => none
  | .call { callee := .builtin .min, args := args, .. } => match args.toList with
    | [x, y] => match ev cx fr x, ev cx fr y with
      | .int k a, .int _ b => some ([], .int k (min a b))
      | _, _ => none
    | _ => none
  | .call { callee := .builtin .max, args := args, .. } => match args.toList with
    | [x, y] => match ev cx fr x, ev cx fr y with
      | .int k a, .int _ b => some ([], .int k (max a b))
      | _, _ => none
    | [x, y, z] => match ev cx fr x, ev cx fr y, ev cx fr z with
      | .int k a, .int _ b, .int _ c => some ([], .int k (max (max a b) c))
      | _, _, _ => none
    | _ => none
  | _ => none
theorem getD_of_lt {α : Type} (cs : Array α) (i : Nat) (d : α) (h : i < cs.size) : cs.getD i d = cs[i] := by simp [Array.getD, h]
theorem agg_getElem? {r : Rl} {w : World} {cs : Array Value} {az : List AV} (h : VRel r w (.agg cs) (.agg az)) (i : Nat) (hi : i < az.length) : ∃ v, cs[i]? = some v ∧ VRel r w v az[i] := by
  cases h with
  | agg hn h =>
    have h1 := h i hi
    have h2 : i < cs.size := by omega
    exact ⟨cs[i], by simp [h2], by rw [getD_of_lt _ _ _ h2] at h1; exact h1⟩
theorem tup_getElem? {r : Rl} {w : World} {cs : Array Value} {az : List AV} (h : VRel r w (.tuple cs) (.tup az)) (i : Nat) (v : AV) (hv : az[i]? = some v) : ∃ v', cs[i]? = some v' ∧ VRel r w v' v := by
  cases h with
  | tup hn h =>
    have hi : i < az.length := by
      rcases Nat.lt_or_ge i az.length with h' | h'
      · exact h'
      · rw [List.getElem?_eq_none h'] at hv; cases hv
    have h1 := h i hi
    have h2 : i < cs.size := by omega
    refine ⟨cs[i], by simp [h2], ?_⟩
    rw [getD_of_lt _ _ _ h2] at h1
    rw [List.getElem?_eq_getElem hi] at hv
    cases hv; exact h1
theorem part_run {P : Program} {r : Rl} {w : World} {cs : Array Value} {az : List AV} {t : TypeId} {off : Nat} {v : AV} (h : VRel r w (.agg cs) (.agg az)) (hv : aLoad P t (az.drop off) = some v) :
    ∃ v', (part t cs off).run P w = .ok v' w ∧ VRel r w v' v := by
  have hsz : cs.size = az.length := by cases h; assumption
  unfold aLoad at hv
  split at hv
  · rename_i ha
    split at hv
    · rename_i n hn
      cases hb : Nat.ble n (az.drop off).length with
      | true =>
        simp only [hb, cond_true, Option.some.injEq] at hv
        subst hv
        have hle := Nat.le_of_ble_eq_true hb
        simp only [List.length_drop] at hle
        refine ⟨.agg (cs.extract off (off + n)), by simp [part, run_isAgg ha, run_sizeOf' hn], .agg ?_ (fun i hi => ?_)⟩
        · simp; omega
        · simp only [List.length_take, List.length_drop] at hi
          obtain ⟨u, h1, h2⟩ := agg_getElem? h (off + i) (by omega)
          have h3 : (cs.extract off (off + n)).getD i undef = u := by
            have h4 : off + i < cs.size := by omega
            have h5 : i < (cs.extract off (off + n)).size := by simp; omega
            rw [getD_of_lt _ _ _ h5]
            simp only [Array.getElem_extract]
            rw [Array.getElem?_eq_getElem h4] at h1
            exact Option.some.inj h1
          rw [h3]
          simpa using h2
      | false => rw [hb] at hv; cases hv
    · cases hv
  · rename_i ha
    split at hv
    · rename_i v0 r0 hd
      simp only [Option.some.injEq] at hv
      subst hv
      have hlt : off < az.length := by
        rcases Nat.lt_or_ge off az.length with h' | h'
        · exact h'
        · rw [List.drop_eq_nil_of_le h'] at hd; cases hd
      obtain ⟨u, h1, h2⟩ := agg_getElem? h off hlt
      have : az[off] = v0 := by
        rw [List.drop_eq_getElem_cons hlt] at hd
        exact (List.cons.inj hd).1
      rw [this] at h2
      exact ⟨u, by simp [part, run_isAgg ha, h1], h2⟩
    · cases hv
  · cases hv
theorem exec_v {P : Program} {w : World} {s : Sem Value} {v : Value} (h : s.run P w = .ok v w) : (do let x ← s; pure (Next.value x) : Sem Next).run P w = .ok (.value v) w := by
  simp [h]
theorem run_eq_guarded {P : Program} {w : World} {r : Rl} {t : TypeId} {X Y : Operand} {x y : Value} {x' y' : AV} {C : List Prop} {b : Bool}
    (h : aEq P t x' y' = some (C, b)) (hC : AllP C) (hx : VRel r w x x') (hy : VRel r w y y') :
    (do eqGuard .eql t X Y x y; binOp .eql t x y : Sem Value).run P w = .ok (.bool b) w ∧ (do eqGuard .neq t X Y x y; binOp .neq t x y : Sem Value).run P w = .ok (.bool !b) w := by
  have h1 := run_equal P w r t x y x' y' C b h hC hx hy
  have h2 : (eqGuard .eql t X Y x y = pure () ∧ eqGuard .neq t X Y x y = pure ()) ∧
      binOp .eql t x y = (do pure (.bool (← Op.equal t x y))) ∧ binOp .neq t x y = (do pure (.bool (!(← Op.equal t x y)))) := by
    unfold aEq at h
    split at h <;> try (cases h; done)
    all_goals (cases hx; cases hy; exact ⟨⟨rfl, rfl⟩, rfl, rfl⟩)
  obtain ⟨⟨h3, h4⟩, h5, h6⟩ := h2
  constructor
  · rw [h3, h5]; simp [h1]
  · rw [h4, h6]; simp [h1]
theorem run_len_call (P : Program) (w : World) (ρ : Operand → Value) (b : Builtin) (args : Array Operand) (ts : Array TypeId) (dst : Option Tmp) (ty : TypeId) (pos : String) (after : Array Edge) (guard : Option (Nat × Bool)) :
    ∃ cs, (execOp ρ ⟨dst, .call ⟨.builtin b, args, ts⟩, ty, pos, after, guard⟩).run P w = (builtin b ts ty cs (args.map ρ)).run P w := by
  refine ⟨args.map fun | .const _ => true | _ => false, ?_⟩
  simp only [execOp, resolve, invoke, Sem.run_bind, Sem.run_pure, Result.andThen_ok]
  rfl
theorem notIface_run {P : Program} {t : TypeId} (h : notIface P t = true) : ∃ d, P.underlying t = some d ∧ ∀ ms, d ≠ .interface ms := by
  unfold notIface at h
  split at h
  · cases h
  · rename_i d hn hu; exact ⟨d, hu, hn⟩
  · cases h
theorem eqFs_run {P : Program} {r : Rl} {w : World} {xs ys : Array Value} {az bs : List AV} (d : Nat) (hx : VRel r w (.agg xs) (.agg az)) (hy : VRel r w (.agg ys) (.agg bs)) : ∀ (fs : List Field) {c : Bool}, eqFs P fs az bs = some c → (∀ f ∈ fs, f.name ≠ "_") →
    (Op.eqFields (d + 1) xs ys fs).run P w = .ok c w
  | [], c, h, _ => by
    cases h
    simp [Op.eqFields]
  | f :: fs, c, h, hn => by
    rw [eqFs] at h
    split at h
    case h_2 => cases h
    rename_i a b ha hb
    split at h
    case h_2 => cases h
    rename_i c1 h1
    split at h
    case h_2 => cases h
    rename_i c2 h2
    cases h
    obtain ⟨va, k1, k2⟩ := part_run hx ha
    obtain ⟨vb, k3, k4⟩ := part_run hy hb
    have k5 := eqOne_run d h1 k2 k4
    have ih := eqFs_run d hx hy fs h2 (fun f hf => hn f (List.mem_cons_of_mem _ hf))
    rw [Op.eqFields, if_pos (hn f (List.mem_cons_self ..))]
    simp only [Sem.run_bind, k1, k3, k5, Result.andThen_ok]
    cases c1
    · simp
    · simp [ih]
theorem eqSt_run {P : Program} {r : Rl} {w : World} {op : BinOp} {t : TypeId} {X Y : Operand} {x y : Value} {az bs : List AV} {C : List Prop} {v : AV} (h : eqSt P op t az bs = some (C, v)) (hC : AllP C) (hx : VRel r w x (.agg az)) (hy : VRel r w y (.agg bs)) :
    ∃ v', (do eqGuard op t X Y x y; binOp op t x y : Sem Value).run P w = .ok v' w ∧ VRel r w v' v := by
  unfold eqSt at h
  split at h
  case h_2 => cases h
  rename_i fs ht
  split at h
  case h_2 => cases h
  rename_i b hb
  have hfo : P.fieldsOf t = fs := by simp [Program.fieldsOf, ht]
  have hxa : ∃ xs, x = .agg xs := by cases hx; exact ⟨_, rfl⟩
  have hya : ∃ xs, y = .agg xs := by cases hy; exact ⟨_, rfl⟩
  obtain ⟨xs, rfl⟩ := hxa
  obtain ⟨ys, rfl⟩ := hya
  have main : cmpOk P t = true → (Op.equal t (.agg xs) (.agg ys)).run P w = .ok b w ∧ (P.eqGuardType P.depth t) = false := by
    intro hc
    unfold cmpOk at hc
    rw [ht] at hc
    simp only [Bool.and_eq_true, Bool.not_eq_true', List.all_eq_true, bne_iff_ne] at hc
    refine ⟨?_, hc.1.2⟩
    show (Op.equalIn (9998 + 1 + 1) t _ _).run P w = _
    rw [run_equalIn_struct w (9998 + 1) t xs ys (by rw [hfo]; exact ht) hc.1.1, hfo]
    exact eqFs_run 9998 hx hy fs.toList hb hc.2
  split at h
  · cases h
    obtain ⟨h1, h2⟩ := main hC.1
    refine ⟨.bool b, ?_, .bool⟩
    simp [eqGuard, h2, binOp, h1]
  · cases h
    obtain ⟨h1, h2⟩ := main hC.1
    refine ⟨.bool !b, ?_, .bool⟩
    simp [eqGuard, h2, binOp, h1]
  · cases h
theorem run_max3 {P : Program} (w : World) (ts : Array TypeId) (t : TypeId) (k k' k'' : IntKind) (x y z : Int) :
    (Builtin.max_ ts t #[.int k x, .int k' y, .int k'' z]).run P w = .ok (.int k (max (max x y) z)) w := by
  have e : ∀ x y : Int, (if y > x then y else x) = max x y := by
    intro x y
    rw [Int.max_def]
    split <;> split <;> omega
  simp [Builtin.max_, Builtin.max2, e]
theorem aPure_run {cx : Cx} {r : Rl} {σ : Heap} {w : World} {n : Nat} {fr : Fr} {a : Act} {o : Oper} {C : List Prop} {v : AV} (hi : Inv cx r σ w) (hf : FRel r w n fr a)
    (h : aPure cx o.op fr σ = some (C, v)) (hC : AllP C) : ∃ v', (execOp a.eval o).run cx.P w = .ok (.value v') w ∧ VRel r w v' v := by
  have he : ∀ x, VRel r w (a.eval x) (ev cx fr x) := fun x => ev_rel hi hf x
  generalize a.eval = ρ at he
  obtain ⟨dst, op, ty, pos, after, guard⟩ := o
  unfold aPure at h
  simp only at h
  have q : ∀ {s : Sem Value}, (∃ v', s.run cx.P w = .ok v' w ∧ VRel r w v' v) → ∃ v', (do let x ← s; pure (Next.value x) : Sem Next).run cx.P w = .ok (.value v') w ∧ VRel r w v' v := by
    rintro s ⟨v', h1, h2⟩
    exact ⟨v', exec_v h1, h2⟩
  split at h
  · simp only [Option.some.injEq, Prod.mk.injEq] at h; obtain ⟨rfl, rfl⟩ := h
    exact ⟨_, rfl, he _⟩
  · simp only [Option.some.injEq, Prod.mk.injEq] at h; obtain ⟨rfl, rfl⟩ := h
    exact ⟨_, rfl, he _⟩
  · rename_i c x y
    have hc := he c
    split at h
    · rename_i t ht
      rw [ht] at hc
      have hc' : ρ c = .bool t := by generalize ρ c = z at hc; cases hc; rfl
      split at h
      · simp only [Option.some.injEq, Prod.mk.injEq] at h; obtain ⟨rfl, rfl⟩ := h
        exact ⟨ρ x, by simp [execOp, hc', asBool], he _⟩
      · simp only [Option.some.injEq, Prod.mk.injEq] at h; obtain ⟨rfl, rfl⟩ := h
        exact ⟨ρ y, by simp [execOp, hc', asBool], he _⟩
    · cases h
  ·
    rename_i t x
    have hx := he x
    unfold execOp
    refine q ?_
    generalize ρ x = y at hx ⊢
    split at h
    · rename_i id ver off hxe
      rw [hxe] at hx
      split at h
      · rename_i cur cs ro hb
        split at h
        · rename_i u hl
          simp only [Option.some.injEq, Prod.mk.injEq] at h; obtain ⟨rfl, rfl⟩ := h
          cases hx
          rename_i b o hρ
          have hc := ((hi.cells hb hC.1 hρ).cells'.drop off)
          obtain ⟨v', h1, h2⟩ := aLoad_run (P := cx.P) hc hl
          exact ⟨v', by simpa [Instr.loadAt, Instr.sureAddr] using h1, h2⟩
        · cases h
      · cases h
    · rename_i st cs hxe
      rw [hxe] at hx
      split at h
      · rename_i u hl
        simp only [Option.some.injEq, Prod.mk.injEq] at h; obtain ⟨rfl, rfl⟩ := h
        cases y <;> try (cases hx; done)
        obtain ⟨b, o, rfl, _, _, hc⟩ := Cells.of_rp hx
        obtain ⟨v', h1, h2⟩ := aLoad_run (P := cx.P) hc hl
        exact ⟨v', by simpa [Instr.loadAt, Instr.sureAddr] using h1, h2⟩
      · cases h
    · cases h
  ·
    rename_i x
    have hx := he x
    unfold execOp
    try simp only
    generalize ρ x = y at hx ⊢
    split at h
    · rename_i id ver off hxe
      simp only [Option.some.injEq, Prod.mk.injEq] at h; obtain ⟨rfl, rfl⟩ := h
      rw [hxe] at hx
      cases hx
      exact ⟨_, rfl, .ptr (by assumption)⟩
    · rename_i id ver off hxe
      simp only [Option.some.injEq, Prod.mk.injEq] at h; obtain ⟨rfl, rfl⟩ := h
      rw [hxe] at hx
      cases hx
      exact ⟨_, rfl, .eptr (by assumption)⟩
    · rename_i st cs hxe
      simp only [Option.some.injEq, Prod.mk.injEq] at h; obtain ⟨rfl, rfl⟩ := h
      rw [hxe] at hx
      cases y <;> try (cases hx; done)
      obtain ⟨b, o, rfl, h1, h2, hc⟩ := Cells.of_rp hx
      exact ⟨_, rfl, Cells.rp h1 h2 hc⟩
    · cases h
  ·
    rename_i op t x y yt
    have hx := he x
    have hy := he y
    unfold execOp
    refine q ?_
    try simp only
    split at h
    · rename_i u hnil
      simp only [Option.some.injEq, Prod.mk.injEq] at h; obtain ⟨rfl, rfl⟩ := h
      obtain ⟨rfl, hxn, ⟨ms, hms⟩, hop⟩ := nilCmp_some hnil
      rw [hxn] at hx
      have hy' : VRel r w (ρ (.const .nilIface)) .nili := hy
      generalize ρ x = x' at hx ⊢
      generalize ρ (.const .nilIface) = y' at hy' ⊢
      cases hx
      cases hy'
      rcases hop with ⟨rfl, rfl⟩ | ⟨rfl, rfl⟩
      · exact ⟨.bool true, (run_nil_nil hms x).1, .bool⟩
      · exact ⟨.bool false, (run_nil_nil hms x).2, .bool⟩
    generalize ρ x = x' at hx ⊢
    generalize ρ y = y' at hy ⊢
    unfold aBin2 at h
    split at h
    · rename_i az bs hx1 hy1
      rw [hx1] at hx; rw [hy1] at hy
      exact eqSt_run h hC hx hy
    unfold aBin at h
    split at h
    · rename_i k1 n1 k2 n2 hx1 hy1
      rw [hx1] at hx; rw [hy1] at hy
      cases hx
      cases hy
      have hg : ∀ op, eqGuard op t x y (.int k1 n1) (.int k2 n2) = pure () := fun op => by cases op <;> rfl
      split at h
      · simp only [Option.some.injEq, Prod.mk.injEq] at h; obtain ⟨rfl, rfl⟩ := h
        have h0 : ¬ n2 < 0 := by have := hC.1; omega
        exact ⟨_, by simp [hg, binOp, Op.shift, h0], .int⟩
      · simp only [Option.some.injEq, Prod.mk.injEq] at h; obtain ⟨rfl, rfl⟩ := h
        have h0 : ¬ n2 < 0 := by have := hC.1; omega
        exact ⟨_, by simp [hg, binOp, Op.shift, h0], .int⟩
      · split at h
        · rename_i hk
          have := kindEq_eq hk
          subst this
          obtain ⟨v', h1, h2⟩ := run_binOp_int cx.P w _ t k1 n1 n2 C v r h hC
          exact ⟨v', by simp [hg, h1], h2⟩
        · cases h
    · rename_i s1 s2 hx1 hy1
      rw [hx1] at hx; rw [hy1] at hy
      cases x' <;> try (cases hx; done)
      cases y' <;> try (cases hy; done)
      rename_i u1 u2
      have hg : ∀ op, eqGuard op t x y (.string u1) (.string u2) = pure () := fun op => by cases op <;> rfl
      cases hx with
      | str hs1 =>
        cases hy with
        | str hs2 =>
          subst hs1; subst hs2
          obtain ⟨v', h1, h2⟩ := run_binOp_str cx.P w _ t u1 u2 C v r h hC
          exact ⟨v', by simp [hg, h1], h2⟩
    · split at h
      · split at h
        · rename_i C' b hb
          simp only [Option.some.injEq, Prod.mk.injEq] at h; obtain ⟨rfl, rfl⟩ := h
          exact ⟨_, (run_eq_guarded hb hC hx hy).1, .bool⟩
        · cases h
      · split at h
        · rename_i C' b hb
          simp only [Option.some.injEq, Prod.mk.injEq] at h; obtain ⟨rfl, rfl⟩ := h
          exact ⟨_, (run_eq_guarded hb hC hx hy).2, .bool⟩
        · cases h
      · cases h
  ·
    rename_i op t x
    have hx := he x
    split at h
    · rename_i u hu
      simp only [Option.some.injEq, Prod.mk.injEq] at h; obtain ⟨rfl, rfl⟩ := h
      unfold execOp
      exact q (aUn_run hu hx)
    · cases h
  · unfold execOp
    exact q (aConv_run hi h hC (he _))
  ·
    rename_i t x
    cases hn : notIface cx.P t with
    | false => rw [hn] at h; cases h
    | true =>
      rw [hn] at h
      simp only [cond_true, Option.some.injEq, Prod.mk.injEq] at h; obtain ⟨rfl, rfl⟩ := h
      obtain ⟨d, hd, hni⟩ := notIface_run hn
      unfold execOp
      refine q ⟨.iface t (ρ x), ?_, .iface (he x)⟩
      unfold Instr.makeInterface
      simp only [Sem.run_bind, run_underlying hd, Result.andThen_ok]
      cases d <;> first | rfl | exact absurd rfl (hni _)
  ·
    rename_i fn first captured
    simp only [Option.some.injEq, Prod.mk.injEq] at h; obtain ⟨rfl, rfl⟩ := h
    refine ⟨.func fn (first.map ρ) (captured.map ρ), rfl, .func (by simp) (fun i hi => ?_) (by simp) (fun i hi => ?_)⟩
    · simp only [List.length_map, Array.length_toList] at hi
      rw [getD_of_lt _ _ _ (by simpa using hi)]
      simpa using he _
    · simp only [List.length_map, Array.length_toList] at hi
      rw [getD_of_lt _ _ _ (by simpa using hi)]
      simpa using he _
  ·
    rename_i t x lo hi' mx
    unfold execOp
    refine q ?_
    have hb : ∀ (z : Option Operand) (m : Option Int), bInt (z.map (ev cx fr)) = some m → Bd r w (z.map ρ) m := by
      intro z m hz
      refine bInt_bd hz ?_ ?_
      · intro v hv
        cases z with
        | none => cases hv
        | some y => simp only [Option.map_some, Option.some.injEq] at hv; subst hv; exact ⟨_, rfl, he y⟩
      · intro hv
        cases z with
        | none => rfl
        | some y => cases hv
    exact aSlice_run hi h hC (he x) (hb lo) (hb hi') (hb mx)
  ·
    rename_i s x f
    have hx := he x
    split at h
    · rename_i off t hfo
      obtain ⟨fs, g, hu, hg, rfl, rfl⟩ := fieldOf_some hfo
      split at h
      · rename_i m hm
        cases hz : Nat.beq m 0 with
        | true => rw [hz] at h; cases h
        | false =>
          rw [hz] at h
          have hm0 : m ≠ 0 := fun e => by subst e; simp at hz
          have hrun : ∀ b o, (Instr.fieldAt s (.pointer (some ⟨b, o, none⟩)) f).run cx.P w = .ok (.pointer (some ⟨b, o + g.offset, none⟩)) w := by
            intro b o
            simp [Instr.fieldAt, run_underlying hu, hg, Instr.sureAddr, fieldPlace, run_sizeOf' hm, hm0, Addr.add_lit]
          unfold execOp
          refine q ?_
          try simp only
          generalize ρ x = y at hx ⊢
          simp only [cond_false] at h
          split at h
          · rename_i id ver o hxe
            simp only [Option.some.injEq, Prod.mk.injEq] at h; obtain ⟨rfl, rfl⟩ := h
            rw [hxe] at hx
            cases hx
            exact ⟨_, hrun _ _, by rw [Nat.add_assoc]; exact .ptr (by assumption)⟩
          · rename_i id ver o hxe
            simp only [Option.some.injEq, Prod.mk.injEq] at h; obtain ⟨rfl, rfl⟩ := h
            rw [hxe] at hx
            cases hx
            exact ⟨_, hrun _ _, by rw [Nat.add_assoc]; exact .eptr (by assumption)⟩
          · rename_i st cs hxe
            simp only [Option.some.injEq, Prod.mk.injEq] at h; obtain ⟨rfl, rfl⟩ := h
            rw [hxe] at hx
            cases y <;> try (cases hx; done)
            obtain ⟨b, o, rfl, h1, h2, hc⟩ := Cells.of_rp hx
            exact ⟨_, hrun _ _, Cells.rp h1 h2 (hc.drop _)⟩
          · cases h
      · cases h
    · cases h
  ·
    rename_i s x f
    have hx := he x
    split at h
    · rename_i off t hfo
      obtain ⟨fs, g, hu, hg, rfl, rfl⟩ := fieldOf_some hfo
      unfold execOp
      refine q ?_
      try simp only
      generalize ρ x = y at hx ⊢
      split at h
      · rename_i cs hxe
        rw [hxe] at hx
        split at h
        · rename_i u hl
          simp only [Option.some.injEq, Prod.mk.injEq] at h; obtain ⟨rfl, rfl⟩ := h
          cases y <;> try (cases hx; done)
          obtain ⟨v', h1, h2⟩ := part_run (P := cx.P) hx hl
          exact ⟨v', by simp [Instr.field, run_underlying hu, hg, asAgg, h1], h2⟩
        · cases h
      · cases h
    · cases h
  ·
    rename_i t x i
    have hx := he x
    have hy := he i
    unfold execOp
    refine q ?_
    try simp only
    generalize ρ x = x' at hx ⊢
    generalize ρ i = y' at hy ⊢
    split at h
    · rename_i s k m hu hx1 hy1
      rw [hx1] at hx; rw [hy1] at hy
      simp only [Option.some.injEq, Prod.mk.injEq] at h; obtain ⟨rfl, rfl⟩ := h
      obtain ⟨h0, h1, _⟩ := hC
      cases hy
      cases hx with
      | str hs =>
        rename_i u
        subst hs
        have hlt : m.toNat < u.data.size := by simp only [Array.length_toList] at h1; omega
        have hget : u[m.toNat]? = some (u.data[m.toNat]) := by
          exact dif_pos (c := m.toNat < u.size) hlt
        refine ⟨.int .u8 (u.data[m.toNat]).toNat, by simp [Instr.index, asIntOf, run_underlying hu, h0, hget], ?_⟩
        have : u.data.toList.getD m.toNat 0 = u.data[m.toNat] := by
          simp [List.getD, Array.getElem?_eq_getElem hlt]
        rw [this]
        exact .int
    · cases h
  ·
    rename_i x xt t ok
    have hx := he x
    unfold execOp
    refine q ?_
    try simp only
    generalize ρ x = x' at hx ⊢
    split at h
    · rename_i u y hx1
      rw [hx1] at hx
      split at h
      case h_2 => cases h
      rename_i hn1
      obtain ⟨d, hd, hni⟩ := notIface_run hn1
      split at h
      · rename_i hn2
        simp only [Option.some.injEq, Prod.mk.injEq] at h; obtain ⟨rfl, rfl⟩ := h
        have hut := Nat.eq_of_beq_eq_true hn2
        subst hut
        cases hx with
        | iface hv =>
          rename_i v0
          refine ⟨if ok then .tuple #[v0, .bool true] else v0, ?_, ?_⟩
          · unfold Instr.typeAssert
            simp only [Sem.run_bind, run_underlying hd, Result.andThen_ok]
            cases d <;> first | exact absurd rfl (hni _) | simp
          · cases ok
            · exact hv
            · refine .tup rfl (fun i hi => ?_)
              simp only [List.length_cons, List.length_nil] at hi
              rcases i with _ | _ | i
              · exact hv
              · exact .bool
              · omega
      · rename_i hn2
        split at h
        case h_2 => cases h
        rename_i z hz
        simp only [Option.some.injEq, Prod.mk.injEq] at h; obtain ⟨rfl, rfl⟩ := h
        obtain ⟨z', hz1, hz2⟩ := zeroV_run hz r w
        have hut : u ≠ t := fun e => by subst e; simp at hn2
        cases hx with
        | iface hv =>
          rename_i v0
          refine ⟨.tuple #[z', .bool false], ?_, ?_⟩
          · unfold Instr.typeAssert
            simp only [Sem.run_bind, run_underlying hd, Result.andThen_ok]
            cases d <;> first | exact absurd rfl (hni _) | simp [hut, hz1]
          · refine .tup rfl (fun i hi => ?_)
            simp only [List.length_cons, List.length_nil] at hi
            rcases i with _ | _ | i
            · exact hz2
            · exact .bool
            · omega
    · rename_i hx1
      rw [hx1] at hx
      split at h
      case h_2 => cases h
      rename_i hn1
      obtain ⟨d, hd, hni⟩ := notIface_run hn1
      split at h
      case h_2 => cases h
      rename_i z hz
      simp only [Option.some.injEq, Prod.mk.injEq] at h; obtain ⟨rfl, rfl⟩ := h
      obtain ⟨z', hz1, hz2⟩ := zeroV_run hz r w
      cases hx
      refine ⟨.tuple #[z', .bool false], ?_, ?_⟩
      · unfold Instr.typeAssert
        simp only [Sem.run_bind, run_underlying hd, Result.andThen_ok]
        cases d <;> first | exact absurd rfl (hni _) | simp [hz1]
      · refine .tup rfl (fun i hi => ?_)
        simp only [List.length_cons, List.length_nil] at hi
        rcases i with _ | _ | i
        · exact hz2
        · exact .bool
        · omega
    · cases h
  ·
    rename_i x i
    have hx := he x
    unfold execOp
    refine q ?_
    try simp only
    generalize ρ x = x' at hx ⊢
    split at h
    · rename_i vs hx1
      rw [hx1] at hx
      split at h
      · rename_i u hu
        simp only [Option.some.injEq, Prod.mk.injEq] at h; obtain ⟨rfl, rfl⟩ := h
        cases x' <;> try (cases hx; done)
        obtain ⟨v', h1, h2⟩ := tup_getElem? hx i _ hu
        exact ⟨v', by simp [Instr.extract, h1], h2⟩
      · cases h
    · cases h
  ·
    rename_i args ts
    obtain ⟨bs, hbs⟩ := run_len_call cx.P w ρ .len args ts dst ty pos after guard
    rw [hbs]
    split at h
    · rename_i x t hargs hts
      have h1 : args = #[x] := by rw [← Array.toArray_toList (xs := args), hargs]
      have h2 : ts = #[t] := by rw [← Array.toArray_toList (xs := ts), hts]
      subst h1; subst h2
      obtain ⟨v', h3, h4⟩ := aLen_run (ty := ty) hi h hC (he x)
      refine ⟨v', ?_, h4⟩
      simp only [builtin, List.map_toArray, List.map_cons, List.map_nil]
      exact exec_v h3
    · cases h
  ·
    rename_i args ts
    obtain ⟨bs, hbs⟩ := run_len_call cx.P w ρ .unsafeSliceData args ts dst ty pos after guard
    rw [hbs]
    split at h
    · rename_i x hargs
      have h1 : args = #[x] := by rw [← Array.toArray_toList (xs := args), hargs]
      subst h1
      have hx := he x
      split at h
      · rename_i id ver off len sz fl hxe
        simp only [Option.some.injEq, Prod.mk.injEq] at h; obtain ⟨rfl, rfl⟩ := h
        rw [hxe] at hx
        simp only [builtin, List.map_toArray, List.map_cons, List.map_nil]
        generalize ρ x = z at hx ⊢
        cases hx with
        | ms0 => exact absurd hC.1 (by omega)
        | ms hρ hcap hn hff =>
          rename_i b o cap
          refine ⟨.pointer (some ⟨b, o + off, none⟩), exec_v ?_, .eptr hρ⟩
          have h0 : 0 < len := hC.1
          obtain ⟨k, rfl⟩ : ∃ k, cap = k + 1 := ⟨cap - 1, by omega⟩
          rfl
      · rename_i hxe
        simp only [Option.some.injEq, Prod.mk.injEq] at h; obtain ⟨rfl, rfl⟩ := h
        rw [hxe] at hx
        simp only [builtin, List.map_toArray, List.map_cons, List.map_nil]
        generalize ρ x = z at hx ⊢
        cases hx
        exact ⟨.pointer none, exec_v rfl, .nilp⟩
      · cases h
    · cases h
  ·
    rename_i args ts
    obtain ⟨bs, hbs⟩ := run_len_call cx.P w ρ .min args ts dst ty pos after guard
    rw [hbs]
    split at h
    · rename_i x y hargs
      have h1 : args = #[x, y] := by rw [← Array.toArray_toList (xs := args), hargs]
      subst h1
      have hx := he x
      have hy := he y
      split at h
      · rename_i k a k' b hxe hye
        simp only [Option.some.injEq, Prod.mk.injEq] at h; obtain ⟨rfl, rfl⟩ := h
        rw [hxe] at hx
        rw [hye] at hy
        simp only [builtin, List.map_toArray, List.map_cons, List.map_nil]
        generalize ρ x = z at hx ⊢
        generalize ρ y = z' at hy ⊢
        cases hx
        cases hy
        exact ⟨_, exec_v (Lib.run_min_ints w ts ty k k' a b), .int⟩
      · cases h
    · cases h
  ·
    rename_i args ts
    obtain ⟨bs, hbs⟩ := run_len_call cx.P w ρ .max args ts dst ty pos after guard
    rw [hbs]
    split at h
    · rename_i x y hargs
      have h1 : args = #[x, y] := by rw [← Array.toArray_toList (xs := args), hargs]
      subst h1
      have hx := he x
      have hy := he y
      split at h
      · rename_i k a k' b hxe hye
        simp only [Option.some.injEq, Prod.mk.injEq] at h; obtain ⟨rfl, rfl⟩ := h
        rw [hxe] at hx
        rw [hye] at hy
        simp only [builtin, List.map_toArray, List.map_cons, List.map_nil]
        generalize ρ x = z at hx ⊢
        generalize ρ y = z' at hy ⊢
        cases hx
        cases hy
        exact ⟨_, exec_v (Lib.run_max_ints w ts ty k k' a b), .int⟩
      · cases h
    · rename_i x y u hargs
      have h1 : args = #[x, y, u] := by rw [← Array.toArray_toList (xs := args), hargs]
      subst h1
      have hx := he x
      have hy := he y
      have hu := he u
      split at h
      · rename_i k a k' b k'' c hxe hye hue
        simp only [Option.some.injEq, Prod.mk.injEq] at h; obtain ⟨rfl, rfl⟩ := h
        rw [hxe] at hx
        rw [hye] at hy
        rw [hue] at hu
        simp only [builtin, List.map_toArray, List.map_cons, List.map_nil]
        generalize ρ x = z at hx ⊢
        generalize ρ y = z' at hy ⊢
        generalize ρ u = z'' at hu ⊢
        cases hx
        cases hy
        cases hu
        exact ⟨_, exec_v (run_max3 w ts ty k k' k'' a b c), .int⟩
      · cases h
    · cases h
  · cases h
end Go.Ab
end
section
set_option linter.unusedVariables false
set_option linter.unusedSimpArgs false
namespace Go.Ab
open Go
def OpRes (cx : Cx) (r : Rl) (σ : Heap) (w : World) (rr : Result Next) (v : AV) (σ' : Heap) : Prop :=
  ∃ r' w' v', (rr = .ok (.value v') w' ∨ (rr = .ok .skip w' ∧ v' = undef)) ∧ VRel r' w' v' v ∧ Inv cx r' σ' w' ∧ Ext r σ w r' σ' w'
def AV.blank : AV → Bool
  | .top => true
  | .mark _ => true
  | _ => false
theorem AV.blank_of {a : AV} (h : ∀ y ∈ a.cells, y.one = true) : a.blank = false := by
  cases a <;> first | rfl | (have := h _ (List.mem_cons_self ..); simp [AV.one] at this)
theorem VRel.cells {r : Rl} {w : World} {v : Value} {a : AV} (h : VRel r w v a) (ht : a.blank = false) : v.cells.size = a.cells.length ∧ ∀ i (hi : i < a.cells.length), ∃ u, v.cells[i]? = some u ∧ VRel r w u a.cells[i] := by
  cases h
  case top => cases ht
  case mark => cases ht
  case agg hn h =>
    refine ⟨hn, fun i hi => ?_⟩
    exact agg_getElem? (.agg hn h) i hi
  all_goals
    refine ⟨rfl, fun i hi => ⟨_, by
      simp only [AV.cells, List.length_cons, List.length_nil] at hi
      obtain rfl : i = 0 := by omega
      rfl, ?_⟩⟩
    simp only [AV.cells, List.length_cons, List.length_nil] at hi
    obtain rfl : i = 0 := by omega
    simp only [AV.cells, List.getElem_cons_zero]
  case bool => exact .bool
  case int => exact .int
  case str h => exact .str h
  case nilp => exact .nilp
  case ptr h => exact .ptr h
  case eptr h => exact .eptr h
  case rp hI hS f hc hv => exact .rp hI hS f hc hv
  case nils => exact .nils
  case sl0 h => exact .sl0 h
  case sl h1 h2 h3 h4 h5 h6 f h7 h8 => exact .sl h1 h2 h3 h4 h5 h6 f h7 h8
  case ms0 => exact .ms0
  case ms h1 h2 h3 h4 => exact .ms h1 h2 h3 h4
  case nilm => exact .nilm
  case map h => exact .map h
  case func h1 h2 h3 h4 => exact .func h1 h2 h3 h4
  case nilf => exact .nilf
  case iface h => exact .iface h
  case nili => exact .nili
  case tup h1 h2 => exact .tup h1 h2
theorem Inv.newCells {cx : Cx} {gT : Option TypeId} {r : Rl} {σ σ' : Heap} {w : World} {id ver : Nat} {cs : List AV} {c : Array Value} {t : TypeId} (hi : Inv cx r σ w) (ha : allocH σ (.cells cs ⟨false, gT⟩) = (id, ver, σ'))
    (h1 : ∀ i (h : i < cs.length), ∃ v, c[i]? = some v ∧ VRel r w v cs[i]) (h2 : ∀ x ∈ cs, x.one = true) (hT : ∀ T, gT = some T → t = T) :
    ∃ r', Inv cx r' σ' (w.alloc (.cells c t)) ∧ Ext r σ w r' σ' (w.alloc (.cells c t)) ∧ r'.ρ id ver = some (w.heap.size, 0) ∧ r'.I = r.I ∧ r'.S = r.S := by
  have h := hi.new (ob := .cells c t) ha (fun g => ⟨c, t, 0, 0, heap_alloc_self w _, fun i hl => by
    obtain ⟨v, h3, h4⟩ := h1 i hl
    exact ⟨v, by rw [Nat.zero_add]; exact h3, h4.mono g⟩, h2, fun i h3 h4 => by omega, fun T h => ⟨hT T h, rfl, fun _ _ => Nat.le_refl _⟩⟩)
  exact ⟨_, h.1, h.2, by simp [Rl.bind], rfl, rfl⟩
def zeroA (P : Program) (t : TypeId) : Option (List AV) :=
  match P.info? t with
  | some i => match i.zero with
    | some z => some (z.cells.toList.map cst1)
    | none => none
  | none => none
theorem zeroA_some {P : Program} {t : TypeId} {cs : List AV} (h : zeroA P t = some cs) : ∃ i z, P.info? t = some i ∧ i.zero = some z ∧ cs = z.cells.toList.map cst1 := by
  unfold zeroA at h
  split at h
  · rename_i i hi
    split at h
    · rename_i z hz
      simp only [Option.some.injEq] at h
      exact ⟨i, z, hi, hz, h.symm⟩
    · cases h
  · cases h
theorem run_zeroValue {P : Program} {t : TypeId} {i : TypeInfo} {z : Value} (hi : P.info? t = some i) (hz : i.zero = some z) (w : World) : (zeroValue t).run P w = .ok z w := by
  simp [zeroValue, typeInfo, hi, hz]
theorem cst1_cells (r : Rl) (w : World) (z : Value) : ∀ i (h : i < (z.cells.toList.map cst1).length), ∃ v, z.cells[i]? = some v ∧ VRel r w v (z.cells.toList.map cst1)[i] := by
  intro i h
  simp only [List.length_map, Array.length_toList] at h
  exact ⟨z.cells[i], by simp [h], by simpa using cst1_rel r w _⟩
def allOne (cs : List AV) : Bool := cs.all AV.one
theorem allOne_mem {cs : List AV} (h : allOne cs = true) : ∀ x ∈ cs, x.one = true := List.all_eq_true.1 h
def setRange {α : Type} (cs : List α) (off : Nat) (vs : List α) : List α :=
  match vs with
  | [v] => cs.set off v
  | vs => cs.take off ++ vs ++ cs.drop (off + vs.length)
theorem setRange_length {α : Type} (cs : List α) (off : Nat) (vs : List α) (h : off + vs.length ≤ cs.length) : (setRange cs off vs).length = cs.length := by
  unfold setRange
  split
  · simp
  · simp only [List.length_append, List.length_take, List.length_drop]; omega
theorem setRange_get {α : Type} (cs : List α) (off : Nat) (vs : List α) (h : off + vs.length ≤ cs.length) (i : Nat) :
    (setRange cs off vs)[i]? = if off ≤ i ∧ i < off + vs.length then vs[i - off]? else cs[i]? := by
  unfold setRange
  split
  · rename_i v
    simp only [List.length_singleton] at h ⊢
    rw [List.getElem?_set]
    by_cases hi : off = i
    · subst hi
      rw [if_pos rfl, if_pos (by omega), if_pos (by omega)]
      simp
    · rw [if_neg hi, if_neg (by omega)]
  · by_cases h1 : i < off
    · rw [if_neg (by omega), List.append_assoc, List.getElem?_append_left (by rw [List.length_take]; omega), List.getElem?_take, if_pos h1]
    · by_cases h2 : i < off + vs.length
      · rw [if_pos (by omega), List.append_assoc, List.getElem?_append_right (by simp; omega), List.getElem?_append_left (by simp; omega)]
        congr 1
        simp; omega
      · rw [if_neg (by omega), List.getElem?_append_right (by simp; omega), List.getElem?_drop]
        congr 1
        simp; omega
theorem setCells_heap (b : Nat) : ∀ (vs : List Value) (o : Nat) (w : World) (c : Array Value) (t : TypeId) (f : Nat × Nat), w.heap[b]? = some (.cells c t f) → o + vs.length ≤ c.size →
    ∃ c', (w.setCells b o vs).heap[b]? = some (.cells c' t f) ∧ c'.size = c.size ∧ (∀ i : Nat, c'[i]? = if o ≤ i ∧ i < o + vs.length then vs[i - o]? else c[i]?) ∧
      (∀ k, k ≠ b → (w.setCells b o vs).heap[k]? = w.heap[k]?) ∧ (w.setCells b o vs).heap.size = w.heap.size ∧ (w.setCells b o vs).os = w.os ∧ (w.setCells b o vs).output = w.output ∧ (w.setCells b o vs).tape = w.tape
  | [], o, w, c, t, f, h, hl => ⟨c, h, rfl, fun i => by rw [if_neg (by rw [List.length_nil]; omega)], fun k hk => rfl, rfl, rfl, rfl, rfl⟩
  | v :: r, o, w, c, t, f, h, hl => by
    simp only [List.length_cons] at hl
    have h1 : (w.setCell ⟨b, o, none⟩ v).heap[b]? = some (.cells (c.setIfInBounds o v) t f) := by
      simp [World.setCell, Array.getElem?_modify, h]
    have h2 : ∀ k, k ≠ b → (w.setCell ⟨b, o, none⟩ v).heap[k]? = w.heap[k]? := by
      intro k hk
      simp only [World.setCell, Array.getElem?_modify]
      rw [if_neg (Ne.symm hk)]
    obtain ⟨c', h3, h4, h5, h6, h7, h8, h9, h10⟩ := setCells_heap b r (o + 1) (w.setCell ⟨b, o, none⟩ v) (c.setIfInBounds o v) t f h1 (by simp; omega)
    refine ⟨c', h3, by simpa using h4, fun i => ?_, fun k hk => (h6 k hk).trans (h2 k hk), by rw [show w.setCells b o (v :: r) = (w.setCell ⟨b, o, none⟩ v).setCells b (o + 1) r from rfl, h7]; simp, h8, h9, h10⟩
    rw [h5 i, Array.getElem?_setIfInBounds]
    simp only [List.length_cons]
    by_cases hi : o = i
    · subst hi
      rw [if_neg (by omega), if_pos rfl, if_pos (by omega), if_pos (by omega)]
      simp
    · rw [if_neg hi]
      by_cases hj : o + 1 ≤ i ∧ i < o + 1 + r.length
      · rw [if_pos hj, if_pos (by omega)]
        rw [show i - o = (i - (o + 1)) + 1 by omega, List.getElem?_cons_succ]
      · rw [if_neg hj, if_neg (by omega)]
def aStore (P : Program) (t : TypeId) (a x : AV) (σ : Heap) : Option (List Prop × Heap) :=
  match szOf P t with
  | some n => match a with
    | .ptr id ver off => match σ[id]? with
      | some (cur, some (.cells cs ⟨false, gT⟩)) => bif Nat.beq x.cells.length n && allOne x.cells then some ([ver = cur, off + n ≤ cs.length], σ.set id (cur, some (.cells (setRange cs off x.cells) ⟨false, gT⟩))) else none
      | _ => none
    | .eptr id ver off => match σ[id]? with
      | some (cur, some (.cells cs ⟨false, gT⟩)) => bif Nat.beq x.cells.length n && allOne x.cells then some ([ver = cur, off + n ≤ cs.length], σ.set id (cur, some (.cells (setRange cs off x.cells) ⟨false, gT⟩))) else none
      | _ => none
    | _ => none
  | none => none
theorem store_main {cx : Cx} {gT : Option TypeId} {r : Rl} {σ : Heap} {w : World} {t : TypeId} {id ver cur off n b o : Nat} {cs : List AV} {x : Value} {x' : AV} (hi : Inv cx r σ w) (hn : szOf cx.P t = some n)
    (hσ : σ[id]? = some (cur, some (.cells cs ⟨false, gT⟩))) (hv : ver = cur) (hle : off + n ≤ cs.length) (hlen : x'.cells.length = n) (hone : ∀ y ∈ x'.cells, y.one = true) (hx : VRel r w x x') (hρ : r.ρ id ver = some (b, o)) :
    ∃ w' r', (storeVar t ⟨b, o + off, none⟩ x).run cx.P w = .ok () w' ∧ Inv cx r' (σ.set id (cur, some (.cells (setRange cs off x'.cells) ⟨false, gT⟩))) w' ∧ Ext r σ w r' (σ.set id (cur, some (.cells (setRange cs off x'.cells) ⟨false, gT⟩))) w' := by
  subst hv
  have htop : x'.blank = false := AV.blank_of hone
  obtain ⟨hs1, hs2⟩ := hx.cells htop
  have hbx : BoxRel cx.P r w b o (.cells cs ⟨false, gT⟩) := by
    rcases hi.box id ver _ hσ with ⟨b', o', h1, h2⟩ | ⟨h1, _⟩
    · rw [hρ] at h1; simp only [Option.some.injEq, Prod.mk.injEq] at h1; obtain ⟨rfl, rfl⟩ := h1; exact h2
    · rw [hρ] at h1; cases h1
  obtain ⟨c, ty, lo, hi', q1, q2, q3, q4, q5⟩ := hbx
  have hsz : o + cs.length ≤ c.size ∨ cs.length = 0 := by
    rcases Nat.eq_zero_or_pos cs.length with h0 | h0
    · exact .inr h0
    · obtain ⟨v, hv, _⟩ := q2 (cs.length - 1) (by omega)
      rcases Nat.lt_or_ge (o + (cs.length - 1)) c.size with h | h
      · left; omega
      · rw [Array.getElem?_eq_none h] at hv; cases hv
  have hcell : ∀ j, j < n → (w.cell? ⟨b, o + off + j, none⟩).isSome = true ∧ w.frozen? ⟨b, o + off + j, none⟩ = false := by
    intro j hj
    obtain ⟨v, h1, _⟩ := q2 (off + j) (by omega)
    rw [← Nat.add_assoc] at h1
    refine ⟨by simp [World.cell?, q1, h1], ?_⟩
    have hlt : o + off + j < c.size := by
      rcases Nat.lt_or_ge (o + off + j) c.size with h | h
      · exact h
      · rw [Array.getElem?_eq_none h] at h1; cases h1
    simp only [World.frozen?, q1]
    by_cases hf : lo ≤ o + off + j ∧ o + off + j < hi'
    · have := (q4 _ hf.1 hf.2 hlt).1; cases this
    · simp only [Bool.and_eq_false_iff, decide_eq_false_iff_not]
      by_cases h1 : lo ≤ o + off + j
      · right; intro h2; exact hf ⟨h1, h2⟩
      · left; exact h1
  have hvone : ∀ v ∈ x.cells.toList, v.oneCell' = true := by
    intro v hv
    obtain ⟨i, hi1, rfl⟩ := List.getElem_of_mem hv
    simp only [Array.length_toList] at hi1
    obtain ⟨u, h1, h2⟩ := hs2 i (by omega)
    rw [Array.getElem?_eq_getElem hi1] at h1
    simp only [Option.some.injEq] at h1
    simp only [Array.getElem_toList, h1]
    exact h2.one (hone _ (List.getElem_mem _))
  have hrun := run_storeCells_cells (P := cx.P) b (o + off) x.cells.toList 0 w (fun j hj => by simp at hj; simpa using (hcell j (by omega)).1) (fun j hj => by simp at hj; simpa using (hcell j (by omega)).2) hvone
  simp only [Nat.add_zero] at hrun
  have hstore : (storeVar t ⟨b, o + off, none⟩ x).run cx.P w = .ok () (w.setCells b (o + off) x.cells.toList) := by
    simp [storeVar, run_sizeOf' hn, hs1, hlen, hrun]
  by_cases h0 : n = 0
  · subst h0
    have hnil : x'.cells = [] := List.eq_nil_of_length_eq_zero hlen
    have hnil' : x.cells.toList = [] := List.eq_nil_of_length_eq_zero (by simp [hs1, hlen])
    rw [hnil'] at hstore
    have hset : σ.set id (ver, some (.cells (setRange cs off x'.cells) ⟨false, gT⟩)) = σ := by
      rw [hnil]
      simp only [setRange, List.append_nil, List.length_nil, Nat.add_zero, List.take_append_drop]
      apply List.ext_getElem?
      intro k
      rw [List.getElem?_set]
      split
      · rename_i h; subst h
        split
        · exact hσ.symm
        · rename_i h; rw [List.getElem?_eq_none (by omega)]
      · rfl
    rw [hset]
    exact ⟨w, r, hstore, hi, Ext.refl _ _ _⟩
  · obtain ⟨c', h1, h2, h3, h4, h5, h6, h7, h8⟩ := setCells_heap b x.cells.toList (o + off) w c ty (lo, hi') q1 (by simp; omega)
    have hid : id < σ.length := by
      rcases Nat.lt_or_ge id σ.length with h | h
      · exact h
      · rw [List.getElem?_eq_none h] at hσ; cases hσ
    have hu := hi.update (σ' := σ.set id (ver, some (.cells (setRange cs off x'.cells) ⟨false, gT⟩))) (id := id) (ver := ver) (b := b) (o := o) (x := .cells (setRange cs off x'.cells) ⟨false, gT⟩)
      (w' := w.setCells b (o + off) x.cells.toList) (by simp [hid]) (fun j hj => by rw [List.getElem?_set, if_neg (Ne.symm hj)])
      (fun c2 y hy => by rw [hσ] at hy; simp only [Option.some.injEq, Prod.mk.injEq] at hy; exact .inr ⟨hy.1.symm, hρ⟩) (.inr ⟨ver, _, o, hσ, hρ⟩) (fun k hk hkb => h4 k hkb) (by rw [h5]; exact Nat.le_refl _)
      (fun c2 t2 f2 hc2 => by rw [q1] at hc2; simp only [Option.some.injEq, Obj.cells.injEq] at hc2; obtain ⟨rfl, rfl, rfl⟩ := hc2; exact ⟨c', _, h1, h2⟩) h6 h7 h8
      (fun g => by
        refine ⟨c', ty, lo, hi', h1, fun i hil => ?_, fun y hy => ?_, fun i a1 a2 a3 => ?_, q5⟩
        · rw [setRange_length _ _ _ (by omega)] at hil
          have hget := setRange_get cs off x'.cells (by omega) i
          have hget2 : (setRange cs off x'.cells)[i]? = some ((setRange cs off x'.cells)[i]'(by rw [setRange_length _ _ _ (by omega)]; exact hil)) := List.getElem?_eq_getElem _
          rw [h3]
          by_cases hin : off ≤ i ∧ i < off + n
          · rw [if_pos (by simp; omega)]
            rw [if_pos (by omega)] at hget
            obtain ⟨u, e1, e2⟩ := hs2 (i - off) (by omega)
            refine ⟨u, by rw [← e1]; simp only [Array.getElem?_toList]; congr 1; omega, ?_⟩
            rw [hget, List.getElem?_eq_getElem (by omega)] at hget2
            simp only [Option.some.injEq] at hget2
            rw [← hget2]
            exact e2.mono g
          · rw [if_neg (by simp; omega)]
            rw [if_neg (by omega)] at hget
            obtain ⟨u, e1, e2⟩ := q2 i hil
            refine ⟨u, e1, ?_⟩
            rw [hget, List.getElem?_eq_getElem hil] at hget2
            simp only [Option.some.injEq] at hget2
            rw [← hget2]
            exact e2.mono g
        · obtain ⟨i, hi1, rfl⟩ := List.getElem_of_mem hy
          have hget := setRange_get cs off x'.cells (by omega) i
          rw [List.getElem?_eq_getElem hi1] at hget
          split at hget
          · exact hone _ (List.mem_of_getElem? hget.symm)
          · exact q3 _ (List.mem_of_getElem? hget.symm)
        · rw [h2] at a3
          rw [setRange_length _ _ _ (by omega)]
          exact q4 i a1 a2 a3)
    exact ⟨_, _, hstore, hu.1, hu.2⟩
theorem aStore_run {cx : Cx} {r : Rl} {σ σ' : Heap} {w : World} {t : TypeId} {y x : Value} {y' x' : AV} {C : List Prop} (hi : Inv cx r σ w) (h : aStore cx.P t y' x' σ = some (C, σ')) (hC : AllP C)
    (hy : VRel r w y y') (hx : VRel r w x x') : ∃ w' r', (Instr.storeAt t y x).run cx.P w = .ok () w' ∧ Inv cx r' σ' w' ∧ Ext r σ w r' σ' w' := by
  unfold aStore at h
  split at h
  case h_2 => cases h
  rename_i n hn
  split at h
  case h_3 => cases h
  all_goals
    split at h
    case h_2 => cases h
    rename_i id ver off _ cur cs hσ
    cases hb : (Nat.beq x'.cells.length n && allOne x'.cells) with
    | false => rw [hb] at h; cases h
    | true =>
      rw [hb] at h
      simp only [cond_true, Option.some.injEq, Prod.mk.injEq] at h
      obtain ⟨rfl, rfl⟩ := h
      simp only [Bool.and_eq_true] at hb
      obtain ⟨hv, hle, _⟩ := hC
      cases hy
      rename_i b o hρ
      obtain ⟨w', r', h1, h2, h3⟩ := store_main hi hn hσ hv hle (Nat.eq_of_beq_eq_true hb.1) (allOne_mem hb.2) hx hρ
      exact ⟨w', r', by simpa [Instr.storeAt, Instr.sureAddr] using h1, h2, h3⟩
end Go.Ab
end
section
set_option linter.unusedVariables false
set_option linter.unusedSimpArgs false
namespace Go.Ab
open Go
def byteAV (c : UInt8) : AV := .int .u8 c.toNat
def flatA (sz : Nat) (xs : List AV) : List AV :=
  match sz with
  | 1 => xs
  | _ => xs.flatMap AV.cells
theorem flatMap_cells_one {xs : List AV} (h : ∀ x ∈ xs, x.one = true) : xs.flatMap AV.cells = xs := by
  induction xs with
  | nil => rfl
  | cons x r ih =>
    have hx : x.cells = [x] := by
      have := h x (by simp)
      cases x <;> first | rfl | simp [AV.one] at this
    simp only [List.flatMap_cons, hx, ih (fun y hy => h y (by simp [hy])), List.singleton_append]
theorem flatA_eq {sz : Nat} {xs : List AV} (h : ∀ x ∈ flatA sz xs, x.one = true) : flatA sz xs = xs.flatMap AV.cells := by
  unfold flatA at *
  split at h
  · rw [flatMap_cells_one h]
  · rfl
theorem flatMap_cells_length {sz : Nat} : ∀ {xs : List AV}, (∀ x ∈ xs, x.cells.length = sz) → (xs.flatMap AV.cells).length = xs.length * sz
  | [], _ => by simp
  | x :: r, h => by
    have ih := flatMap_cells_length (xs := r) (fun y hy => h y (List.mem_cons_of_mem _ hy))
    simp only [List.flatMap_cons, List.length_append, h x (List.mem_cons_self ..), ih, List.length_cons, Nat.add_mul, Nat.one_mul]
    omega
theorem flatMap_cells_get {sz : Nat} : ∀ {xs : List AV}, (∀ x ∈ xs, x.cells.length = sz) → ∀ (e j : Nat) (he : e < xs.length) (hj : j < sz), (xs.flatMap AV.cells)[e * sz + j]? = (AV.cells (xs[e]'he))[j]?
  | [], _, e, j, he, _ => absurd he (by simp)
  | x :: r, h, 0, j, he, hj => by
    simp only [List.flatMap_cons, Nat.zero_mul, Nat.zero_add, List.getElem_cons_zero]
    rw [List.getElem?_append_left (by rw [h x (by simp)]; exact hj)]
  | x :: r, h, e + 1, j, he, hj => by
    simp only [List.flatMap_cons, List.getElem_cons_succ]
    rw [List.getElem?_append_right (by rw [h x (by simp), Nat.add_mul]; omega), h x (by simp)]
    rw [show (e + 1) * sz + j - sz = e * sz + j by rw [Nat.add_mul]; omega]
    exact flatMap_cells_get (fun y hy => h y (by simp [hy])) e j (by simpa using he) hj
def Vals (r : Rl) (w : World) (vs : List Value) (ys : List AV) : Prop := vs.length = ys.length ∧ ∀ i (h : i < ys.length), ∃ v, vs[i]? = some v ∧ VRel r w v ys[i]
theorem Vals.one {r : Rl} {w : World} {vs : List Value} {ys : List AV} (h : Vals r w vs ys) (h1 : ∀ y ∈ ys, y.one = true) : ∀ v ∈ vs, v.oneCell' = true := by
  intro v hv
  obtain ⟨i, hi, rfl⟩ := List.getElem_of_mem hv
  obtain ⟨u, h2, h3⟩ := h.2 i (by rw [← h.1]; exact hi)
  rw [List.getElem?_eq_getElem hi] at h2
  simp only [Option.some.injEq] at h2
  rw [h2]
  exact h3.one (h1 _ (List.getElem_mem _))
theorem Vals.mono {r r' : Rl} {w w' : World} {vs : List Value} {ys : List AV} (g : Grow r w r' w') (h : Vals r w vs ys) : Vals r' w' vs ys :=
  ⟨h.1, fun i hi => by obtain ⟨v, h1, h2⟩ := h.2 i hi; exact ⟨v, h1, h2.mono g⟩⟩
theorem Cells.vals {r : Rl} {w : World} {b o : Nat} {cs : List AV} (h : Cells r w b o cs) : ∃ vs : List Value, Vals r w vs cs ∧ ∀ j v, vs[j]? = some v → w.cell? ⟨b, o + j, none⟩ = some v := by
  have h3 : ∀ i, ∃ v, ∀ hl : i < cs.length, w.cell? ⟨b, o + i, none⟩ = some v ∧ VRel r w v cs[i] := fun i => by
    by_cases hl : i < cs.length
    · obtain ⟨v, hv, hr⟩ := h i hl; exact ⟨v, fun _ => ⟨hv, hr⟩⟩
    · exact ⟨undef, fun h => absurd h hl⟩
  refine ⟨(List.range cs.length).map fun i => (h3 i).choose, ⟨by simp, fun i hi => ⟨(h3 i).choose, by simp [hi], ((h3 i).choose_spec hi).2⟩⟩, fun j v hv => ?_⟩
  simp only [List.getElem?_map] at hv
  by_cases hj : j < cs.length
  · rw [List.getElem?_range hj] at hv
    simp only [Option.map_some, Option.some.injEq] at hv
    rw [← hv]
    exact ((h3 j).choose_spec hj).1
  · rw [List.getElem?_eq_none (by simp; omega)] at hv; cases hv
def dropA {α : Type} (off : Nat) (cs : List α) : List α :=
  match off with
  | 0 => cs
  | k + 1 => cs.drop (k + 1)
theorem dropA_eq {α : Type} (off : Nat) (cs : List α) : dropA off cs = cs.drop off := by cases off <;> rfl
def aSrc (sz : Nat) (x : AV) (σ : Heap) : Option (List Prop × Nat × List AV) :=
  match x with
  | .nils => some ([], 0, [])
  | .sl _ _ s xs => some ([s = sz, ∀ y ∈ flatA sz xs, y.one = true], xs.length, flatA sz xs)
  | .ms id ver off len s _ => match boxAt σ id with
    | some (cur, cs, _) => some ([ver = cur, s = sz, off + len * sz ≤ cs.length], len, (dropA off cs).take (len * sz))
    | none => none
  | .str s => match sz with
    | 1 => some ([], s.length, s.map byteAV)
    | _ => none
  | _ => none
theorem sl_cells {r : Rl} {w : World} {st fl : Bool} {a : Option Addr} {sz n cap : Nat} {xs : List AV} (h : VRel r w (.slice a n cap) (.sl st fl sz xs)) :
    n = xs.length ∧ n ≤ cap ∧ (fl = true → cap = n) ∧ ((xs = [] ∧ n = 0) ∨ ∃ b o, a = some ⟨b, o, none⟩ ∧ r.I b ∧ (∀ x ∈ xs, x.cells.length = sz) ∧ Cells r w b o (xs.flatMap AV.cells)) := by
  cases h with
  | sl0 hf => exact ⟨rfl, Nat.zero_le _, hf, .inl ⟨rfl, rfl⟩⟩
  | sl hn hc0 hf hI hS hsz f hc hv =>
    rename_i b o
    refine ⟨hn, hc0, hf, .inr ⟨b, o, rfl, hI, hsz, fun i hi => ?_⟩⟩
    rw [flatMap_cells_length hsz] at hi
    have hszp : 0 < sz := by
      rcases Nat.eq_zero_or_pos sz with h0 | h0
      · subst h0; simp at hi
      · exact h0
    have he : i / sz < xs.length := Nat.div_lt_of_lt_mul (by rw [Nat.mul_comm]; exact hi)
    have hj : i % sz < sz := Nat.mod_lt _ hszp
    have hi' : i = (i / sz) * sz + i % sz := by rw [Nat.mul_comm]; exact (Nat.div_add_mod i sz).symm
    have hg := flatMap_cells_get hsz (i / sz) (i % sz) he hj
    rw [← hi'] at hg
    have hl : i % sz < (AV.cells (xs[i / sz]'he)).length := by rw [hsz _ (List.getElem_mem _)]; exact hj
    refine ⟨f (i / sz) (i % sz), ?_, ?_⟩
    · have := hc _ he _ hj
      rw [Nat.add_assoc, ← hi'] at this
      exact this
    · rw [List.getElem?_eq_getElem hl, List.getElem?_eq_getElem (by rw [flatMap_cells_length hsz]; exact hi)] at hg
      simp only [Option.some.injEq] at hg
      rw [hg]
      exact hv _ he _ hl
theorem aSrc_run {cx : Cx} {r : Rl} {σ : Heap} {w : World} {sz n : Nat} {x : Value} {x' : AV} {C : List Prop} {ys : List AV} (hi : Inv cx r σ w) (h : aSrc sz x' σ = some (C, n, ys)) (hC : AllP C) (hx : VRel r w x x') :
    (∀ w' : World, (Builtin.lenOf x).run cx.P w' = .ok n w') ∧ ys.length = n * sz ∧
    ∃ vs : List Value, Vals r w vs ys ∧ (∀ w' : World, w'.heap = w.heap → (Builtin.firstCells sz n x).run cx.P w' = .ok vs.toArray w') := by
  have hload : ∀ (b o : Nat) (cs : List AV) (a' : Addr) (cap : Nat), Cells r w b o cs → cs.length = n * sz → a' = ⟨b, o, none⟩ →
      ∃ vs : List Value, Vals r w vs cs ∧ (∀ w' : World, w'.heap = w.heap → (Builtin.firstCells sz n (.slice (some a') n cap)).run cx.P w' = .ok vs.toArray w') := by
    intro b o cs a' cap hc hl ha
    subst ha
    obtain ⟨vs, h1, h2⟩ := hc.vals
    refine ⟨vs, h1, fun w' hw' => run_firstCells_some (P := cx.P) w' sz n _ n cap vs (by rw [h1.1, hl]) (fun j v hv => ?_)⟩
    rw [Addr.add_lit]
    have h3 := h2 j v hv
    simpa [World.cell?, hw'] using h3
  have hnil : ∀ (a : Option Addr) (cap : Nat), n = 0 → ∃ vs : List Value, Vals r w vs [] ∧ (∀ w' : World, w'.heap = w.heap → (Builtin.firstCells sz n (.slice a n cap)).run cx.P w' = .ok vs.toArray w') := by
    intro a cap h0
    subst h0
    refine ⟨[], ⟨rfl, fun i h => absurd h (by simp)⟩, fun w' _ => ?_⟩
    cases a with
    | none => simp [Builtin.firstCells]
    | some a => simp [Builtin.firstCells, loadCells, loadCellsFrom]
  unfold aSrc at h
  split at h
  · simp only [Option.some.injEq, Prod.mk.injEq] at h; obtain ⟨rfl, rfl, rfl⟩ := h
    cases hx
    exact ⟨fun w' => by simp [Builtin.lenOf], by simp, hnil _ _ rfl⟩
  · rename_i st fl s xs
    simp only [Option.some.injEq, Prod.mk.injEq] at h; obtain ⟨rfl, rfl, rfl⟩ := h
    obtain ⟨h1, h2, _⟩ := hC
    subst h1
    cases x with
    | slice a n cap =>
      obtain ⟨h3, h4, h5, h6⟩ := sl_cells hx
      subst h3
      have hfl := flatA_eq h2
      refine ⟨fun w' => by simp [Builtin.lenOf], ?_, ?_⟩
      · rcases h6 with ⟨h7, h8⟩ | ⟨b, o, h7, h8, h9, h10⟩
        · subst h7; rw [hfl]; simp
        · rw [hfl, flatMap_cells_length h9]
      · rcases h6 with ⟨h7, h8⟩ | ⟨b, o, h7, h8, h9, h10⟩
        · subst h7
          rw [hfl]
          exact hnil a cap rfl
        · rw [hfl]
          subst h7
          exact hload b o _ _ cap h10 (flatMap_cells_length h9) rfl
    | _ => cases hx
  · rename_i id ver off len s fl
    split at h
    · rename_i cur cs ro hb
      simp only [Option.some.injEq, Prod.mk.injEq] at h; obtain ⟨rfl, rfl, rfl⟩ := h
      obtain ⟨h1, h2, h3, _⟩ := hC
      rw [dropA_eq]
      cases hx with
      | ms0 => exact ⟨fun w' => by simp [Builtin.lenOf], by simp, by simpa using hnil _ _ rfl⟩
      | ms hρ hcap hn hf =>
        refine ⟨fun w' => by simp [Builtin.lenOf], by rw [List.length_take, List.length_drop]; omega, ?_⟩
        exact hload _ _ _ _ _ (((hi.cells hb h1 hρ).cells'.drop off).take _) (by rw [List.length_take, List.length_drop]; omega) rfl
    · cases h
  · rename_i s
    split at h
    · simp only [Option.some.injEq, Prod.mk.injEq] at h; obtain ⟨rfl, rfl, rfl⟩ := h
      cases hx with
      | str hs =>
        rename_i u
        subst hs
        have hsz : u.size = u.data.toList.length := by rw [Array.length_toList]; rfl
        refine ⟨fun w' => by rw [← hsz]; rfl, by simp, (u.data.toList.map fun b => Value.int .u8 b.toNat), ⟨by simp, fun i hi => ?_⟩, fun w' _ => ?_⟩
        · simp only [List.length_map] at hi
          refine ⟨.int .u8 (u.data.toList[i]).toNat, by simp [List.getElem?_eq_getElem hi], ?_⟩
          simp only [List.getElem_map, byteAV]
          exact .int
        · simp only [Builtin.firstCells, Sem.run_pure]
          congr 1
          apply Array.ext'
          simp only [Array.toList_map, List.toList_toArray]
          congr 1
          rw [extract_toList, List.drop_zero]
          exact List.take_of_length_le (Nat.le_refl _)
    · cases h
  · cases h
theorem run_append_grow' {P : Program} {w : World} {sT xT ty e : TypeId} {i : TypeInfo} {z : Value} {sz n sLen sCap : Nat} {base : Option Addr} {x : Value} {olds news : List Value} {d : TypeDesc}
    (ht : P.underlying sT = some (.slice e)) (hd : P.underlying xT = some d) (hdk : ∀ k, d ≠ .int k) (hi : P.info? e = some i) (hz : i.zero = some z) (hsz : i.size = sz)
    (hlen : ∀ w' : World, (Builtin.lenOf x).run P w' = .ok n w') (ho : ∀ w' : World, w'.heap = w.heap → (Builtin.firstCells sz sLen (.slice base sLen sCap)).run P w' = .ok olds.toArray w')
    (hnw : ∀ w' : World, w'.heap = w.heap → (Builtin.firstCells sz n x).run P w' = .ok news.toArray w') (hg : sCap < sLen + n) (hb : (sLen + n) * i.bytes ≤ 140737488355328) (h63 : sLen + n ≤ 9223372036854775807) :
    ∃ (rest : Array Value) (cap : Nat), (Builtin.append_ #[sT, xT] ty #[.slice base sLen sCap, x]).run P w = .ok (.slice (some ⟨w.heap.size, 0, none⟩) (sLen + n) cap) (w.drew.alloc (.cells (olds.toArray ++ news.toArray ++ rest) e)) ∧
      sLen + n ≤ cap ∧ rest.size = (cap - (sLen + n)) * z.cells.size := by
  subst hsz
  have hn : ¬ (sLen + n ≤ sCap) := by omega
  have h63' : ¬ (9223372036854775807 < ((sLen : Int) + (n : Int))) := by omega
  have h48 := growslice_fits (bytes := i.bytes) hg hb
  have h48' : ¬ (281474976710656 < Builtin.nextslicecap (sLen + n) sCap * i.bytes) := by omega
  have h1 := ho w.drew rfl
  have h2 := hnw w.drew rfl
  refine ⟨Builtin.zeroCells z.cells (grownCap w (sLen + n) sCap e - (sLen + n)), grownCap w (sLen + n) sCap e, ?_, grownCap_ge _ _ _ _, by simp [Builtin.zeroCells]⟩
  have hda : (match d with | .int _ => true | _ => false) = false := by cases d <;> first | rfl | exact absurd rfl (hdk _)
  simp only [Builtin.append_, List.getElem?_toArray, List.getElem?_cons_zero, List.getElem?_cons_succ, Sem.run_bind, run_underlying ht, run_underlying hd, sizeOf, typeInfo, run_program, hi, Sem.run_pure, Result.andThen_ok, hlen, hda, hn, if_false, Bool.false_eq_true, Bool.not_false, if_true]
  simp [hlen, hn, h63', h48', Question.forced, h1, h2, newRow, grownCap, zeroValue, typeInfo, hi, hz, hda]
  congr 2
  apply Array.ext'
  simp [List.append_assoc]
def stO (base : Option Addr) (k : Nat) (vs : List Value) : Sem Unit := match base with | some a => storeCells (a.add k) vs | none => pure ()
theorem stO_nil (P : Program) (w : World) (base : Option Addr) (k : Nat) : (stO base k []).run P w = .ok () w := by cases base <;> rfl
theorem run_append_room' {P : Program} {w : World} {sT xT ty e : TypeId} {i : TypeInfo} {sz n sLen sCap : Nat} {base : Option Addr} {x : Value} {news : List Value} {d : TypeDesc}
    (ht : P.underlying sT = some (.slice e)) (hd : P.underlying xT = some d) (hdk : ∀ k, d ≠ .int k) (hi : P.info? e = some i) (hsz : i.size = sz)
    (hlen : ∀ w' : World, (Builtin.lenOf x).run P w' = .ok n w')
    (hnw : ∀ w' : World, w'.heap = w.heap → (Builtin.firstCells sz n x).run P w' = .ok news.toArray w') (hg : sLen + n ≤ sCap) {w2 : World}
    (hst : (stO base (sLen * sz) news).run P w = .ok () w2) :
    (Builtin.append_ #[sT, xT] ty #[.slice base sLen sCap, x]).run P w = .ok (.slice base (sLen + n) sCap) w2 := by
  subst hsz
  have hda : (match d with | .int _ => true | _ => false) = false := by cases d <;> first | rfl | exact absurd rfl (hdk _)
  have h2 := hnw w rfl
  simp only [Builtin.append_, List.getElem?_toArray, List.getElem?_cons_zero, List.getElem?_cons_succ, Sem.run_bind, run_underlying ht, run_underlying hd, sizeOf, typeInfo, run_program, hi, Sem.run_pure, Result.andThen_ok, hlen, hda, hg, if_true, Bool.not_false, h2]
  cases base with
  | none => simp only [stO, Sem.run_pure] at hst; cases hst; simp [hlen, hg, hda, h2]
  | some a => simp only [stO] at hst; simp [hlen, hg, hda, h2, hst]
end Go.Ab
end
section
set_option linter.unusedVariables false
set_option linter.unusedSimpArgs false
namespace Go.Ab
open Go
theorem Inv.ghost {cx : Cx} {r : Rl} {σ σ' : Heap} {w : World} {id ver : Nat} {ro : Tag} (hi : Inv cx r σ w) (hσ : σ'[id]? = some (ver, some (.cells [] ro))) (hσo : ∀ j, j ≠ id → σ'[j]? = σ[j]?)
    (hold : ∀ cur y, σ[id]? = some (cur, y) → cur < ver) : Inv cx r σ' w ∧ Ext r σ w r σ' w := by
  have hlenle : σ.length ≤ σ'.length := by
    rcases Nat.lt_or_ge σ'.length σ.length with h | h
    · exfalso
      by_cases hid : σ'.length = id
      · have := List.getElem?_eq_none (l := σ') (i := id) (by omega)
        rw [this] at hσ; cases hσ
      · have h1 := hσo _ hid
        rw [List.getElem?_eq_none (Nat.le_refl _)] at h1
        rw [List.getElem?_eq_getElem h] at h1
        cases h1
    · exact h
  have hnone : r.ρ id ver = none := by
    cases hp : r.ρ id ver with
    | none => rfl
    | some p =>
      obtain ⟨b, o⟩ := p
      obtain ⟨⟨cur, x, h1, h2⟩, _⟩ := hi.lt _ _ _ _ hp
      have := hold _ _ h1
      omega
  have hlive : ∀ b, Live r σ' b → Live r σ b := by
    rintro b ⟨j, v, x, o, h1, h2⟩
    by_cases hj : j = id
    · subst hj
      rw [hσ] at h1
      simp only [Option.some.injEq, Prod.mk.injEq] at h1
      obtain ⟨rfl, rfl⟩ := h1
      rw [hnone] at h2; cases h2
    · rw [hσo j hj] at h1
      exact ⟨j, v, x, o, h1, h2⟩
  refine ⟨⟨?_, ?_, ?_, fun b hb => hi.imm b (hlive b hb), hi.Ilt, hi.SI, hi.glob⟩, ⟨fun _ h => h, fun _ h => h, fun _ h => .inl h, fun _ h => .inl h, fun _ _ _ h => h, Nat.le_refl _, hlenle, fun _ _ _ => rfl, fun b hb => .inl (hlive b hb), fun _ c _ f h => ⟨c, f, h, rfl⟩, rfl, rfl, rfl, fun id ver b o h => .inl ⟨ver, o, h⟩⟩⟩
  · intro j v x h
    by_cases hj : j = id
    · subst hj
      rw [hσ] at h
      simp only [Option.some.injEq, Prod.mk.injEq] at h
      obtain ⟨rfl, rfl⟩ := h
      exact .inr ⟨hnone, _, rfl⟩
    · rw [hσo j hj] at h
      exact hi.box j v x h
  · intro j v b o h
    obtain ⟨⟨cur, x, h1, h2⟩, h3⟩ := hi.lt j v b o h
    refine ⟨?_, h3⟩
    by_cases hj : j = id
    · subst hj
      have := hold _ _ h1
      exact ⟨ver, _, hσ, by omega⟩
    · exact ⟨cur, x, by rw [hσo j hj]; exact h1, h2⟩
  · intro j j' v v' x x' b o o' h1 h2 h3 h4
    have hj : j ≠ id := by
      intro e; subst e
      rw [hσ] at h1
      simp only [Option.some.injEq, Prod.mk.injEq] at h1
      obtain ⟨rfl, rfl⟩ := h1
      rw [hnone] at h3; cases h3
    have hj' : j' ≠ id := by
      intro e; subst e
      rw [hσ] at h2
      simp only [Option.some.injEq, Prod.mk.injEq] at h2
      obtain ⟨rfl, rfl⟩ := h2
      rw [hnone] at h4; cases h4
    rw [hσo j hj] at h1
    rw [hσo j' hj'] at h2
    exact hi.inj _ _ _ _ _ _ _ _ _ h1 h2 h3 h4
def notInt (P : Program) (t : TypeId) : Bool :=
  match P.underlying t with
  | some (.int _) => false
  | some _ => true
  | none => false
theorem notInt_some {P : Program} {t : TypeId} (h : notInt P t = true) : ∃ d, P.underlying t = some d ∧ ∀ k, d ≠ .int k := by
  unfold notInt at h
  split at h
  · cases h
  · rename_i d hn hu; exact ⟨d, hu, hn⟩
  · cases h
def elemInfo (P : Program) (t : TypeId) : Option (TypeId × Nat × Nat) :=
  match P.underlying t with
  | some (.slice e) => match P.info? e with
    | some i => match i.zero with
      | some z => bif Nat.beq z.cells.size i.size then some (e, i.size, i.bytes) else none
      | none => none
    | none => none
  | _ => none
theorem elemInfo_some {P : Program} {t e : TypeId} {n m : Nat} (h : elemInfo P t = some (e, n, m)) : ∃ i z, P.underlying t = some (.slice e) ∧ P.info? e = some i ∧ i.zero = some z ∧ z.cells.size = n ∧ i.size = n ∧ i.bytes = m := by
  unfold elemInfo at h
  split at h
  · rename_i e' hu
    split at h
    · rename_i i hi
      split at h
      · rename_i z hz
        cases hb : Nat.beq z.cells.size i.size with
        | false => rw [hb] at h; cases h
        | true =>
          rw [hb] at h
          simp only [cond_true, Option.some.injEq, Prod.mk.injEq] at h
          obtain ⟨rfl, rfl, rfl⟩ := h
          exact ⟨i, z, hu, hi, hz, Nat.eq_of_beq_eq_true hb, rfl, rfl⟩
      · cases h
    · cases h
  · cases h
def aAppend (P : Program) (sT xT : TypeId) (s x : AV) (σ : Heap) : Option (List Prop × AV × Heap) :=
  match elemInfo P sT with
  | some (e, sz, by_) => bif notInt P xT then
      match aSrc sz x σ with
      | some (C, n, ys) => match s with
        | .nils => match allocH σ (.cells ys ⟨false, tyU8 P e⟩) with
          | (id, ver, σ') => some (C ++ [∀ y ∈ ys, y.one = true, n * by_ ≤ 140737488355328, n ≤ 9223372036854775807], .ms id ver 0 n sz false, σ')
        | .sl _ fl s' xs => match fl with
          | true => match allocH σ (.cells (flatA sz xs ++ ys) ⟨false, tyU8 P e⟩) with
            | (id, ver, σ') => some (C ++ [∀ y ∈ ys, y.one = true, s' = sz, ∀ y ∈ flatA sz xs, y.one = true, n ≠ 0 ∨ xs = [], (xs.length + n) * by_ ≤ 140737488355328, xs.length + n ≤ 9223372036854775807], .ms id ver 0 (xs.length + n) sz false, σ')
          | false => none
        | .ms id ver off len s' fl => match σ[id]? with
          | some (cur, some (.cells cs ro)) => match fl with
            | false => some (C ++ [∀ y ∈ ys, y.one = true, ver = cur, s' = sz, off + len * sz = cs.length, (len + n) * by_ ≤ 140737488355328, len + n ≤ 9223372036854775807], .ms id (cur + 1) 0 (len + n) sz false,
                σ.set id (cur + 1, some (.cells (dropA off cs ++ ys) (tagOn P e off ro))))
            | true => match allocH σ (.cells ((dropA off cs).take (len * sz) ++ ys) ⟨false, tyU8 P e⟩) with
              | (id', ver', σ') => some (C ++ [∀ y ∈ ys, y.one = true, ver = cur, s' = sz, off + len * sz ≤ cs.length, n ≠ 0 ∨ len = 0, (len + n) * by_ ≤ 140737488355328, len + n ≤ 9223372036854775807], .ms id' ver' 0 (len + n) sz false, σ')
          | _ => none
        | _ => none
      | none => none
    else none
  | none => none
theorem AllP_append {C D : List Prop} (h : AllP (C ++ D)) : AllP C ∧ AllP D := by
  induction C with
  | nil => exact ⟨trivial, h⟩
  | cons p r ih => exact ⟨⟨h.1, (ih h.2).1⟩, (ih h.2).2⟩
theorem append_fresh {cx : Cx} {r : Rl} {σ σ' : Heap} {w : World} {id ver need cap sz : Nat} {olds news : List Value} {os ys : List AV} {rest : Array Value} {e : TypeId} (hi : Inv cx r σ w)
    (hid : ∃ ro, σ'[id]? = some (ver, some (.cells (os ++ ys) ro)) ∧ ∀ T, ro.ty = some T → e = T) (hσo : ∀ j, j ≠ id → σ'[j]? = σ[j]?) (hold : ∀ cur y, σ[id]? = some (cur, y) → cur < ver)
    (ho : Vals r w olds os) (hn : Vals r w news ys) (h1 : ∀ y ∈ os, y.one = true) (h2 : ∀ y ∈ ys, y.one = true) (hlen : (os ++ ys).length = need * sz) (hcap : need ≤ cap) (hrest : rest.size = (cap - need) * sz) :
    ∃ r', VRel r' (w.drew.alloc (.cells (olds.toArray ++ news.toArray ++ rest) e)) (.slice (some ⟨w.heap.size, 0, none⟩) need cap) (.ms id ver 0 need sz false) ∧
      Inv cx r' σ' (w.drew.alloc (.cells (olds.toArray ++ news.toArray ++ rest) e)) ∧ Ext r σ w r' σ' (w.drew.alloc (.cells (olds.toArray ++ news.toArray ++ rest) e)) := by
  obtain ⟨ro, hid', hty⟩ := hid
  have hself : (w.drew.alloc (.cells (olds.toArray ++ news.toArray ++ rest) e)).heap[w.heap.size]? = some (.cells (olds.toArray ++ news.toArray ++ rest) e) := heap_alloc_self w.drew _
  have hu := hi.update (σ' := σ') (id := id) (ver := ver) (b := w.heap.size) (o := 0) (x := .cells (os ++ ys) ro) (w' := w.drew.alloc (.cells (olds.toArray ++ news.toArray ++ rest) e)) hid' hσo (fun c y h => .inl (hold c y h)) (.inl (Nat.le_refl _))
    (fun k hk _ => by
      show (w.heap.push _)[k]? = w.heap[k]?
      rw [Array.getElem?_push, if_neg (by omega)]) (by simp) (fun c t f h => by simp [Array.getElem?_eq_none (Nat.le_refl w.heap.size)] at h) rfl rfl rfl
    (fun g => by
      refine ⟨_, e, 0, 0, hself, fun i hil => ?_, fun y hy => ?_, fun i a b => by omega, fun T h => ⟨hty T h, rfl, fun _ _ => Nat.le_refl _⟩⟩
      · rw [Nat.zero_add]
        by_cases hio : i < os.length
        · obtain ⟨v, q1, q2⟩ := ho.2 i hio
          refine ⟨v, ?_, ?_⟩
          · rw [Array.append_assoc, Array.getElem?_append_left (by simp [ho.1]; exact hio)]
            simpa using q1
          · rw [List.getElem_append_left hio]; exact q2.mono g
        · have hil2 := hil
          simp only [List.length_append] at hil2
          obtain ⟨v, q1, q2⟩ := hn.2 (i - os.length) (by omega)
          refine ⟨v, ?_, ?_⟩
          · rw [Array.append_assoc, Array.getElem?_append_right (by simp [ho.1]; omega), Array.getElem?_append_left (by simp [ho.1, hn.1]; omega)]
            simpa [ho.1] using q1
          · rw [List.getElem_append_right (by omega)]; exact q2.mono g
      · rcases List.mem_append.1 hy with h | h
        · exact h1 y h
        · exact h2 y h)
  refine ⟨_, ?_, hu.1, hu.2⟩
  have hv := VRel.ms (r := r.bind id ver (w.heap.size, 0)) (w := w.drew.alloc (.cells (olds.toArray ++ news.toArray ++ rest) e)) (id := id) (ver := ver) (b := w.heap.size) (o := 0) (off := 0) (n := need) (cap := cap) (sz := sz) (full := false)
    (by simp [Rl.bind]) ⟨_, e, _, hself, by
      simp only [Array.size_append, List.size_toArray, ho.1, hn.1, hrest]
      simp only [List.length_append] at hlen
      rw [hlen, ← Nat.add_mul]
      have := Nat.mul_le_mul_right sz (show cap ≤ need + (cap - need) by omega)
      omega⟩ hcap (fun h => by cases h)
  exact hv
theorem aAppend_run {cx : Cx} {r : Rl} {σ σ' : Heap} {w : World} {sT xT ty : TypeId} {s x : Value} {s' x' v : AV} {C : List Prop} (hi : Inv cx r σ w) (h : aAppend cx.P sT xT s' x' σ = some (C, v, σ')) (hC : AllP C)
    (hs : VRel r w s s') (hx : VRel r w x x') :
    ∃ v' w' r', (Builtin.append_ #[sT, xT] ty #[s, x]).run cx.P w = .ok v' w' ∧ VRel r' w' v' v ∧ Inv cx r' σ' w' ∧ Ext r σ w r' σ' w' := by
  unfold aAppend at h
  split at h
  case h_2 => cases h
  rename_i e sz by_ hel
  obtain ⟨i, z, hu, hinfo, hz, hz1, hz2, hz3⟩ := elemInfo_some hel
  cases hnt : notInt cx.P xT with
  | false => rw [hnt] at h; cases h
  | true =>
  rw [hnt] at h
  simp only [cond_true] at h
  obtain ⟨d, hd, hdk⟩ := notInt_some hnt
  split at h
  case h_2 => cases h
  rename_i C0 n ys hsrc
  split at h
  ·
    generalize hal : allocH σ _ = al at h
    obtain ⟨id, ver, σ1⟩ := al
    simp only [Option.some.injEq, Prod.mk.injEq] at h; obtain ⟨rfl, rfl, rfl⟩ := h
    obtain ⟨hC0, hone, hb, h63, _⟩ := AllP_append hC
    obtain ⟨hl1, hl2, news, hl3, hl4⟩ := aSrc_run hi hsrc hC0 hx
    obtain ⟨ha1, ha2, ha3⟩ := allocH_spec hal
    cases hs
    by_cases hn0 : n = 0
    · subst hn0
      have hys : ys = [] := List.eq_nil_of_length_eq_zero (by rw [hl2]; simp)
      subst hys
      have hnews : news = [] := List.eq_nil_of_length_eq_zero hl3.1
      subst hnews
      have hr := run_append_room' (P := cx.P) (w := w) (ty := ty) (base := none) (sLen := 0) (sCap := 0) hu hd hdk hinfo hz2 hl1 hl4 (by omega) (w2 := w) rfl
      obtain ⟨g1, g2⟩ := hi.ghost ha1 ha2 ha3
      exact ⟨_, w, r, hr, .ms0, g1, g2⟩
    · have hf0 : ∀ w' : World, w'.heap = w.heap → (Builtin.firstCells sz 0 (.slice none 0 0)).run cx.P w' = .ok ([] : List Value).toArray w' := fun w' _ => by simp [Builtin.firstCells]
      obtain ⟨rest, cap, hr1, hr2, hr3⟩ := run_append_grow' (P := cx.P) (w := w) (ty := ty) (base := none) (sLen := 0) (sCap := 0) hu hd hdk hinfo hz hz2 hl1 hf0 hl4 (by omega) (by rw [hz3]; simpa using hb) (by omega)
      rw [hz1] at hr3
      have hv0 : Vals r w [] [] := ⟨rfl, fun i h => absurd h (by simp)⟩
      obtain ⟨r', k1, k2, k3⟩ := append_fresh (sz := sz) (e := e) hi ⟨_, ha1, fun T h => tyU8_eq h⟩ ha2 ha3 hv0 hl3 (by simp) hone (by simpa using hl2) (need := 0 + n) (by simpa using hr2) (by simpa using hr3)
      refine ⟨_, _, r', hr1, ?_, k2, k3⟩
      simpa using k1
  ·
    rename_i st fl s0 xs
    split at h
    case h_2 => cases h
    generalize hal : allocH σ _ = al at h
    obtain ⟨id, ver, σ1⟩ := al
    simp only [Option.some.injEq, Prod.mk.injEq] at h; obtain ⟨rfl, rfl, rfl⟩ := h
    obtain ⟨hC0, hone, hsz0, hone2, hne, hb, h63, _⟩ := AllP_append hC
    subst hsz0
    obtain ⟨hl1, hl2, news, hl3, hl4⟩ := aSrc_run hi hsrc hC0 hx
    obtain ⟨ha1, ha2, ha3⟩ := allocH_spec hal
    cases s with
    | slice a n' cap =>
      obtain ⟨q1, q2, q3, q4⟩ := sl_cells hs
      have hcap := q3 rfl
      subst hcap; subst q1
      have hfl := flatA_eq hone2
      by_cases hn0 : n = 0
      · subst hn0
        have hxs : xs = [] := by rcases hne with h | h; exact absurd rfl h; exact h
        subst hxs
        have hys : ys = [] := List.eq_nil_of_length_eq_zero (by rw [hl2]; simp)
        subst hys
        have hnews : news = [] := List.eq_nil_of_length_eq_zero hl3.1
        subst hnews
        have hst := stO_nil cx.P w a (0 * s0)
        have hr := run_append_room' (P := cx.P) (w := w) (ty := ty) (base := a) (sLen := 0) (sCap := 0) hu hd hdk hinfo hz2 hl1 hl4 (by omega) (w2 := w) hst
        have hbx : (flatA s0 [] ++ ([] : List AV)) = [] := by rw [hfl]; rfl
        rw [hbx] at ha1
        obtain ⟨g1, g2⟩ := hi.ghost ha1 ha2 ha3
        exact ⟨_, w, r, hr, .ms0, g1, g2⟩
      · have hsrc2 : aSrc s0 (.sl st true s0 xs) σ = some ([s0 = s0, ∀ y ∈ flatA s0 xs, y.one = true], xs.length, flatA s0 xs) := rfl
        obtain ⟨m1, m2, olds, m3, m4⟩ := aSrc_run hi hsrc2 ⟨rfl, hone2, trivial⟩ hs
        obtain ⟨rest, cap, hr1, hr2, hr3⟩ := run_append_grow' (P := cx.P) (w := w) (ty := ty) (base := a) (sLen := xs.length) (sCap := xs.length) hu hd hdk hinfo hz hz2 hl1 m4 hl4 (by omega) (by rw [hz3]; exact hb) (by omega)
        rw [hz1] at hr3
        obtain ⟨r', k1, k2, k3⟩ := append_fresh (sz := s0) (e := e) hi ⟨_, ha1, fun T h => tyU8_eq h⟩ ha2 ha3 m3 hl3 hone2 hone (by rw [List.length_append, m2, hl2, Nat.add_mul]) (need := xs.length + n) hr2 hr3
        exact ⟨_, _, r', hr1, k1, k2, k3⟩
    | _ => cases hs
  ·
    rename_i id ver off len s0 fl
    split at h
    case h_2 => cases h
    rename_i cur cs ro hσ
    split at h
    · simp only [Option.some.injEq, Prod.mk.injEq] at h; obtain ⟨rfl, rfl, rfl⟩ := h
      obtain ⟨hC0, hone, hv0, hsz0, htip, hb, h63, _⟩ := AllP_append hC
      subst hsz0; subst hv0
      obtain ⟨hl1, hl2, news, hl3, hl4⟩ := aSrc_run hi hsrc hC0 hx
      have hid : id < σ.length := by
        rcases Nat.lt_or_ge id σ.length with h | h
        · exact h
        · rw [List.getElem?_eq_none h] at hσ; cases hσ
      have ha1 : (σ.set id (ver + 1, some (.cells (dropA off cs ++ ys) (tagOn cx.P e off ro))))[id]? = some (ver + 1, some (.cells (dropA off cs ++ ys) (tagOn cx.P e off ro))) := by simp [hid]
      have ha2 : ∀ j, j ≠ id → (σ.set id (ver + 1, some (.cells (dropA off cs ++ ys) (tagOn cx.P e off ro))))[j]? = σ[j]? := fun j hj => by rw [List.getElem?_set, if_neg (Ne.symm hj)]
      have ha3 : ∀ cur y, σ[id]? = some (cur, y) → cur < ver + 1 := fun c y hy => by rw [hσ] at hy; simp only [Option.some.injEq, Prod.mk.injEq] at hy; omega
      have hdl : (dropA off cs).length = len * s0 := by rw [dropA_eq, List.length_drop]; omega
      have hbx : boxAt σ id = some (ver, cs, ro) := by simp [boxAt, hσ]
      have hcsone : ∀ y ∈ dropA off cs, y.one = true := by
        intro y hy
        rw [dropA_eq] at hy
        have hy' := List.mem_of_mem_drop hy
        rcases hi.box id ver _ hσ with ⟨b', o', h1, h2⟩ | ⟨h1, ro', h2⟩
        · obtain ⟨c, t, lo, hi', q1, q2, q3, q4⟩ := h2
          exact q3 y hy'
        · cases h2; cases hy'
      cases hs with
      | ms0 =>
        rename_i a
        have hdn : dropA off cs = [] := List.eq_nil_of_length_eq_zero (by rw [hdl]; simp)
        rw [hdn] at ha1 ⊢
        by_cases hn0 : n = 0
        · subst hn0
          have hys : ys = [] := List.eq_nil_of_length_eq_zero (by rw [hl2]; simp)
          subst hys
          have hnews : news = [] := List.eq_nil_of_length_eq_zero hl3.1
          subst hnews
          have hst := stO_nil cx.P w a (0 * s0)
          have hr := run_append_room' (P := cx.P) (w := w) (ty := ty) (base := a) (sLen := 0) (sCap := 0) hu hd hdk hinfo hz2 hl1 hl4 (by omega) (w2 := w) hst
          rw [hdn] at ha2
          obtain ⟨g1, g2⟩ := hi.ghost ha1 ha2 ha3
          exact ⟨_, w, r, hr, .ms0, g1, g2⟩
        · have hf0 : ∀ w' : World, w'.heap = w.heap → (Builtin.firstCells s0 0 (.slice a 0 0)).run cx.P w' = .ok ([] : List Value).toArray w' := fun w' _ => by
            cases a with
            | none => simp [Builtin.firstCells]
            | some a => simp [Builtin.firstCells, loadCells, loadCellsFrom]
          obtain ⟨rest, cap, hr1, hr2, hr3⟩ := run_append_grow' (P := cx.P) (w := w) (ty := ty) (base := a) (sLen := 0) (sCap := 0) hu hd hdk hinfo hz hz2 hl1 hf0 hl4 (by omega) (by rw [hz3]; exact hb) (by omega)
          rw [hz1] at hr3
          have hv0 : Vals r w [] [] := ⟨rfl, fun i h => absurd h (by simp)⟩
          rw [hdn] at ha2
          obtain ⟨r', k1, k2, k3⟩ := append_fresh (sz := s0) (e := e) (os := []) hi ⟨_, ha1, fun T h => (tagOn_ty h).2.2⟩ ha2 ha3 hv0 hl3 (by simp) hone (by simpa using hl2) (need := 0 + n) hr2 hr3
          exact ⟨_, _, r', hr1, k1, k2, k3⟩
      | ms hρ hcap hle hff =>
        rename_i b o cap
        have hbr := hi.cells hbx rfl hρ
        have hcl := hbr.cells'.drop off
        rw [← dropA_eq] at hcl
        by_cases hroom : len + n ≤ cap
        · obtain ⟨c, ty0, lo, hi', q1, q2, q3, q4, q5⟩ := hbr
          obtain ⟨c2, t2, f2, p1, p2⟩ := hcap
          rw [q1] at p1
          simp only [Option.some.injEq, Obj.cells.injEq] at p1
          obtain ⟨rfl, rfl, rfl⟩ := p1
          have hnl : news.length = n * s0 := by rw [hl3.1, hl2]
          have hfit : len * s0 + n * s0 ≤ cap * s0 := by rw [← Nat.add_mul]; exact Nat.mul_le_mul_right _ hroom
          have hcell : ∀ j, j < news.length → (w.cell? ⟨b, (o + off + len * s0) + j, none⟩).isSome = true ∧ w.frozen? ⟨b, (o + off + len * s0) + j, none⟩ = false := by
            intro j hj
            have hlt : o + off + len * s0 + j < c.size := by omega
            refine ⟨by simp [World.cell?, q1, hlt], ?_⟩
            simp only [World.frozen?, q1]
            by_cases hf : lo ≤ o + off + len * s0 + j ∧ o + off + len * s0 + j < hi'
            · have := (q4 _ hf.1 hf.2 hlt).2; omega
            · simp only [Bool.and_eq_false_iff, decide_eq_false_iff_not]
              by_cases h1 : lo ≤ o + off + len * s0 + j
              · right; intro h2; exact hf ⟨h1, h2⟩
              · left; exact h1
          have hstore := run_storeCells_cells (P := cx.P) b (o + off + len * s0) news 0 w (fun j hj => by simpa using (hcell j hj).1) (fun j hj => by simpa using (hcell j hj).2) (hl3.one hone)
          simp only [Nat.add_zero] at hstore
          have hr := run_append_room' (P := cx.P) (w := w) (ty := ty) (base := some ⟨b, o + off, none⟩) (sLen := len) (sCap := cap) hu hd hdk hinfo hz2 hl1 hl4 hroom (w2 := w.setCells b (o + off + len * s0) news) (by
            simp only [stO, Addr.add_lit]; exact hstore)
          obtain ⟨c', h1, h2, h3, h4, h5, h6, h7, h8⟩ := setCells_heap b news (o + off + len * s0) w c ty0 (lo, hi') q1 (by omega)
          have hup := hi.update (id := id) (ver := ver + 1) (b := b) (o := o + off) (w' := w.setCells b (o + off + len * s0) news) ha1 ha2 (fun c y hy => .inl (ha3 c y hy)) (.inr ⟨ver, _, o, hσ, hρ⟩)
            (fun k hk hkb => h4 k hkb) (by rw [h5]; exact Nat.le_refl _)
            (fun c3 t3 f3 hc3 => by rw [q1] at hc3; simp only [Option.some.injEq, Obj.cells.injEq] at hc3; obtain ⟨rfl, rfl, rfl⟩ := hc3; exact ⟨c', _, h1, h2⟩) h6 h7 h8
            (fun g => by
              refine ⟨c', ty0, lo, hi', h1, fun k hk => ?_, fun y hy => ?_, fun k a1 a2 a3 => ?_, fun T h => ?_⟩
              · simp only [List.length_append] at hk
                rw [h3]
                by_cases hkl : k < (dropA off cs).length
                · rw [if_neg (by omega)]
                  rw [List.getElem_append_left hkl]
                  have hk2 : off + k < cs.length := by omega
                  obtain ⟨u, e1, e2⟩ := q2 (off + k) hk2
                  refine ⟨u, by rw [← e1]; congr 1; omega, ?_⟩
                  have : (dropA off cs)[k] = cs[off + k] := by simp [dropA_eq]
                  rw [this]
                  exact e2.mono g
                · rw [if_pos (by omega)]
                  rw [List.getElem_append_right (by omega)]
                  obtain ⟨u, e1, e2⟩ := hl3.2 (k - (dropA off cs).length) (by omega)
                  exact ⟨u, by rw [← e1]; congr 1; omega, e2.mono g⟩
              · rcases List.mem_append.1 hy with h | h
                · exact hcsone y h
                · exact hone y h
              · rw [h2] at a3
                obtain ⟨z1, z2⟩ := q4 k a1 a2 a3
                refine ⟨z1, ?_⟩
                rw [List.length_append, hdl]
                omega
              · obtain ⟨z1, z2, z3⟩ := tagOn_ty h
                obtain ⟨z4, z5, z6⟩ := q5 T z2
                exact ⟨z4, by omega, z6⟩)
          refine ⟨_, _, _, hr, ?_, hup.1, hup.2⟩
          have hv := VRel.ms (r := r.bind id (ver + 1) (b, o + off)) (w := w.setCells b (o + off + len * s0) news) (id := id) (ver := ver + 1) (b := b) (o := o + off) (off := 0) (n := len + n) (cap := cap) (sz := s0) (full := false)
            (by simp [Rl.bind]) ⟨c', ty0, _, h1, by rw [h2]; omega⟩ hroom (fun h => by cases h)
          exact hv
        · have hsrc2 : aSrc s0 (.ms id ver off len s0 false) σ = some ([ver = ver, s0 = s0, off + len * s0 ≤ cs.length], len, (dropA off cs).take (len * s0)) := by simp [aSrc, hbx]
          obtain ⟨m1, m2, olds, m3, m4⟩ := aSrc_run hi hsrc2 ⟨rfl, rfl, by omega, trivial⟩ (VRel.ms hρ hcap hle hff)
          have htk : (dropA off cs).take (len * s0) = dropA off cs := List.take_of_length_le (by omega)
          rw [htk] at m2 m3
          obtain ⟨rest, cap', hr1, hr2, hr3⟩ := run_append_grow' (P := cx.P) (w := w) (ty := ty) (base := some ⟨b, o + off, none⟩) (sLen := len) (sCap := cap) hu hd hdk hinfo hz hz2 hl1
            (fun w' hw' => m4 w' hw') hl4 (by omega) (by rw [hz3]; exact hb) (by omega)
          rw [hz1] at hr3
          obtain ⟨r', k1, k2, k3⟩ := append_fresh (sz := s0) (e := e) hi ⟨_, ha1, fun T h => (tagOn_ty h).2.2⟩ ha2 ha3 m3 hl3 hcsone hone (by rw [List.length_append, m2, hl2, Nat.add_mul]) (need := len + n) hr2 hr3
          exact ⟨_, _, r', hr1, k1, k2, k3⟩
    · generalize hal : allocH σ _ = al at h
      obtain ⟨id', ver', σ1⟩ := al
      simp only [Option.some.injEq, Prod.mk.injEq] at h; obtain ⟨rfl, rfl, rfl⟩ := h
      obtain ⟨hC0, hone, hv0, hsz0, htip, hne, hb, h63, _⟩ := AllP_append hC
      subst hsz0; subst hv0
      obtain ⟨hl1, hl2, news, hl3, hl4⟩ := aSrc_run hi hsrc hC0 hx
      obtain ⟨ha1, ha2, ha3⟩ := allocH_spec hal
      have hbx : boxAt σ id = some (ver, cs, ro) := by simp [boxAt, hσ]
      have hcsone : ∀ y ∈ (dropA off cs).take (len * s0), y.one = true := by
        intro y hy
        rw [dropA_eq] at hy
        have hy' := List.mem_of_mem_drop (List.mem_of_mem_take hy)
        rcases hi.box id ver _ hσ with ⟨b', o', h1, h2⟩ | ⟨h1, ro', h2⟩
        · obtain ⟨c, t, lo, hi', q1, q2, q3, q4⟩ := h2
          exact q3 y hy'
        · cases h2; cases hy'
      have hsrc2 : aSrc s0 (.ms id ver off len s0 true) σ = some ([ver = ver, s0 = s0, off + len * s0 ≤ cs.length], len, (dropA off cs).take (len * s0)) := by simp [aSrc, hbx]
      obtain ⟨m1, m2, olds, m3, m4⟩ := aSrc_run hi hsrc2 ⟨rfl, rfl, by omega, trivial⟩ hs
      have hs' : ∃ a, s = .slice a len len := by
        cases hs with
        | ms0 => exact ⟨_, rfl⟩
        | ms hρ hcap hle hff => rw [hff rfl]; exact ⟨_, rfl⟩
      obtain ⟨a, rfl⟩ := hs'
      by_cases hn0 : n = 0
      · subst hn0
        have hlen0 : len = 0 := by rcases hne with h | h; exact absurd rfl h; exact h
        subst hlen0
        have hys : ys = [] := List.eq_nil_of_length_eq_zero (by rw [hl2]; simp)
        subst hys
        have hnews : news = [] := List.eq_nil_of_length_eq_zero hl3.1
        subst hnews
        have hst := stO_nil cx.P w a (0 * s0)
        have hr := run_append_room' (P := cx.P) (w := w) (ty := ty) (base := a) (sLen := 0) (sCap := 0) hu hd hdk hinfo hz2 hl1 hl4 (by omega) (w2 := w) hst
        have hz : (dropA off cs).take (0 * s0) ++ ([] : List AV) = [] := by simp
        rw [hz] at ha1
        obtain ⟨g1, g2⟩ := hi.ghost ha1 ha2 ha3
        exact ⟨_, w, r, hr, .ms0, g1, g2⟩
      · obtain ⟨rest, cap', hr1, hr2, hr3⟩ := run_append_grow' (P := cx.P) (w := w) (ty := ty) (base := a) (sLen := len) (sCap := len) hu hd hdk hinfo hz hz2 hl1
          m4 hl4 (by omega) (by rw [hz3]; exact hb) (by omega)
        rw [hz1] at hr3
        obtain ⟨r', k1, k2, k3⟩ := append_fresh (sz := s0) (e := e) hi ⟨_, ha1, fun T h => tyU8_eq h⟩ ha2 ha3 m3 hl3 hcsone hone (by rw [List.length_append, m2, hl2, Nat.add_mul]) (need := len + n) hr2 hr3
        exact ⟨_, _, r', hr1, k1, k2, k3⟩
  · cases h
end Go.Ab
end
section
set_option linter.unusedVariables false
set_option linter.unusedSimpArgs false
namespace Go.Ab
open Go
theorem fold_set (v : Array Value) (off : Nat) : ∀ (l : List (Value × Nat)) (cs : Array Value), (∀ p ∈ l, off + p.2 < cs.size) → (l.map (·.2)).Nodup → ∀ k : Nat,
    (l.foldl (fun cs (p : Value × Nat) => cs.setIfInBounds (off + p.2) p.1) cs)[k]? = match l.find? (fun p => off + p.2 == k) with | some p => some p.1 | none => cs[k]?
  | [], cs, _, _, k => by simp
  | p :: r, cs, h, hd, k => by
    simp only [List.map_cons, List.nodup_cons] at hd
    rw [List.foldl_cons, fold_set v off r _ (fun q hq => by simpa using h q (by simp [hq])) hd.2 k, List.find?_cons]
    by_cases hk : off + p.2 = k
    · have hnone : r.find? (fun p => off + p.2 == k) = none := by
        rw [List.find?_eq_none]
        intro q hq hqk
        have : off + q.2 = k := by simpa using hqk
        exact hd.1 (List.mem_map.2 ⟨q, hq, by omega⟩)
      have hpk : (off + p.2 == k) = true := by simp [hk]
      rw [hnone, hpk]
      have := h p (by simp)
      simp only [Array.getElem?_setIfInBounds]
      rw [if_pos hk, if_pos (by omega)]
    · have : (off + p.2 == k) = false := by simp [hk]
      rw [this]
      cases r.find? (fun p => off + p.2 == k) with
      | some q => rfl
      | none => simp only [Array.getElem?_setIfInBounds]; rw [if_neg hk]
theorem fold_zip (v : Array Value) (off : Nat) (cs : Array Value) (h : off + v.size ≤ cs.size) (k : Nat) :
    (v.zipIdx.foldl (fun cs (c, j) => cs.setIfInBounds (off + j) c) cs)[k]? = if off ≤ k ∧ k < off + v.size then v[k - off]? else cs[k]? := by
  rw [← Array.foldl_toList]
  have h1 : ∀ p ∈ v.zipIdx.toList, off + p.2 < cs.size := by
    intro p hp
    rw [Array.toList_zipIdx] at hp
    obtain ⟨x, i⟩ := p
    have := List.mem_zipIdx hp
    simp only [Array.length_toList] at this
    simp only; omega
  have h2 : (v.zipIdx.toList.map (·.2)).Nodup := by
    rw [Array.toList_zipIdx]
    rw [List.zipIdx_map_snd]
    exact List.nodup_range'
  have h3 := fold_set v off v.zipIdx.toList cs h1 h2 k
  refine Eq.trans ?_ (h3.trans ?_)
  · rfl
  · by_cases hk : off ≤ k ∧ k < off + v.size
    · rw [if_pos hk]
      have h4 : v.zipIdx.toList.find? (fun p => off + p.2 == k) = some (v[k - off]'(by omega), k - off) := by
        rw [List.find?_eq_some_iff_getElem]
        refine ⟨by simp; omega, k - off, by simp; omega, by simp, fun j hj => ?_⟩
        simp; omega
      rw [h4]
      simp
    · rw [if_neg hk]
      have h4 : v.zipIdx.toList.find? (fun p => off + p.2 == k) = none := by
        rw [List.find?_eq_none]
        intro p hp
        rw [Array.toList_zipIdx] at hp
        obtain ⟨x, i⟩ := p
        have := List.mem_zipIdx hp
        simp only [Array.length_toList] at this
        simp only [beq_iff_eq]
        omega
      rw [h4]
theorem fold_size (off : Nat) : ∀ (l : List (Value × Nat)) (cs : Array Value), (l.foldl (fun cs (p : Value × Nat) => cs.setIfInBounds (off + p.2) p.1) cs).size = cs.size
  | [], cs => rfl
  | p :: r, cs => by rw [List.foldl_cons, fold_size off r]; simp
def fillA (place : Nat → Option (Nat × Nat)) (cells : List AV) : List (Nat × AV) → Option (List AV)
  | [] => some cells
  | (i, v) :: rest => match place i with
    | none => none
    | some (off, size) => bif Nat.beq v.cells.length size && Nat.ble (off + size) cells.length && allOne v.cells then fillA place (setRange cells off v.cells) rest else none
theorem fill_rel {r : Rl} {w : World} {place : Nat → Option (Nat × Nat)} : ∀ (ps : List (Nat × AV)) (qs : List (Nat × Value)) (cells : List AV) (cs : Array Value) (out : List AV),
    fillA place cells ps = some out → ps.length = qs.length → (∀ i (h : i < ps.length) (h' : i < qs.length), (ps[i]).1 = (qs[i]).1 ∧ VRel r w (qs[i]).2 (ps[i]).2) → VRel r w (.agg cs) (.agg cells) →
    ∃ cs', Instr.fill place cs qs = some cs' ∧ VRel r w (.agg cs') (.agg out)
  | [], [], cells, cs, out, h, _, _, hr => by
    simp only [fillA, Option.some.injEq] at h
    subst h
    exact ⟨cs, rfl, hr⟩
  | [], _ :: _, _, _, _, _, hl, _, _ => by simp at hl
  | _ :: _, [], _, _, _, _, hl, _, _ => by simp at hl
  | (i, x) :: ps, (j, v) :: qs, cells, cs, out, h, hl, hp, hr => by
    obtain ⟨h1, h2⟩ := hp 0 (by simp) (by simp)
    simp only [List.getElem_cons_zero] at h1 h2
    subst h1
    simp only [fillA] at h
    split at h
    case h_1 => cases h
    rename_i off size hpl
    cases hb : (Nat.beq x.cells.length size && Nat.ble (off + size) cells.length && allOne x.cells) with
    | false => rw [hb] at h; cases h
    | true =>
      rw [hb] at h
      simp only [cond_true] at h
      simp only [Bool.and_eq_true] at hb
      have e1 := Nat.eq_of_beq_eq_true hb.1.1
      have e2 := Nat.le_of_ble_eq_true hb.1.2
      have e3 := allOne_mem hb.2
      have hcs : cs.size = cells.length := by cases hr; assumption
      by_cases hsz0 : x.blank = true
      · rw [AV.blank_of e3] at hsz0
        cases hsz0
      · have hsz0 : x.blank = false := by simpa using hsz0
        obtain ⟨k1, k2⟩ := h2.cells hsz0
        have hr' : VRel r w (.agg (v.cells.zipIdx.foldl (fun cs (c, j) => cs.setIfInBounds (off + j) c) cs)) (.agg (setRange cells off x.cells)) := by
          refine .agg ?_ (fun k hk => ?_)
          · rw [setRange_length _ _ _ (by omega), ← Array.foldl_toList]
            exact (fold_size off v.cells.zipIdx.toList cs).trans hcs
          · rw [setRange_length _ _ _ (by omega)] at hk
            have hg := fold_zip v.cells off cs (by omega) k
            have hg2 := setRange_get cells off x.cells (by omega) k
            have hg3 : (setRange cells off x.cells)[k]? = some ((setRange cells off x.cells)[k]'(by rw [setRange_length _ _ _ (by omega)]; exact hk)) := List.getElem?_eq_getElem _
            by_cases hin : off ≤ k ∧ k < off + size
            · rw [if_pos (by omega)] at hg hg2
              obtain ⟨u, m1, m2⟩ := k2 (k - off) (by omega)
              rw [m1] at hg
              rw [hg2, List.getElem?_eq_getElem (by omega)] at hg3
              simp only [Option.some.injEq] at hg3
              rw [← hg3]
              simp only [Array.getD_eq_getD_getElem?, hg, Option.getD_some]
              exact m2
            · rw [if_neg (by omega)] at hg hg2
              obtain ⟨u, m1, m2⟩ := agg_getElem? hr k hk
              rw [m1] at hg
              rw [hg2, List.getElem?_eq_getElem hk] at hg3
              simp only [Option.some.injEq] at hg3
              rw [← hg3]
              simp only [Array.getD_eq_getD_getElem?, hg, Option.getD_some]
              exact m2
        obtain ⟨cs', m1, m2⟩ := fill_rel ps qs _ _ out h (by simpa using hl) (fun i hi hi' => by
          have := hp (i + 1) (by simp; omega) (by simp; omega)
          simpa using this) hr'
        refine ⟨cs', ?_, m2⟩
        rw [Instr.fill]
        simp only [hpl]
        rw [if_neg (by simp; omega)]
        exact m1
def placesOf (P : Program) (fs : List Field) : Option (List (Nat × Nat)) :=
  match fs with
  | [] => some []
  | f :: r => match szOf P f.type, placesOf P r with
    | some n, some l => some ((f.offset, n) :: l)
    | _, _ => none
theorem placesOf_run {P : Program} (w : World) : ∀ (fs : List Field) (l : List (Nat × Nat)), placesOf P fs = some l → ((fs.mapM fun f => do pure (f.offset, ← sizeOf f.type) : Sem (List (Nat × Nat)))).run P w = .ok l w
  | [], l, h => by simp only [placesOf, Option.some.injEq] at h; subst h; rfl
  | f :: r, l, h => by
    simp only [placesOf] at h
    split at h
    · rename_i n l' h1 h2
      simp only [Option.some.injEq] at h
      subst h
      have ih := placesOf_run w r l' h2
      simp only [List.mapM_cons, Sem.run_bind, run_sizeOf' h1, Result.andThen_ok, Sem.run_pure, ih]
    · cases h
def aBuild (P : Program) (t : TypeId) (parts : List (Nat × AV)) : Option AV :=
  match zeroA P t with
  | some z => match P.underlying t with
    | some (.struct fs) => match placesOf P fs.toList with
      | some l => match fillA (fun (i : Nat) => l[i]?) z parts with
        | some cs => some (.agg cs)
        | none => none
      | none => none
    | some (.array _ e) => match szOf P e with
      | some n => match fillA (fun i => some (i * n, n)) z parts with
        | some cs => some (.agg cs)
        | none => none
      | none => none
    | _ => none
  | none => none
theorem aBuild_run {P : Program} {r : Rl} {w : World} {t : TypeId} {ps : List (Nat × AV)} {qs : Array (Nat × Value)} {v : AV} (h : aBuild P t ps = some v) (hl : ps.length = qs.size)
    (hp : ∀ i (h : i < ps.length) (h' : i < qs.toList.length), (ps[i]).1 = (qs.toList[i]).1 ∧ VRel r w (qs.toList[i]).2 (ps[i]).2) : ∃ v', (Instr.build t qs).run P w = .ok v' w ∧ VRel r w v' v := by
  unfold aBuild at h
  split at h
  case h_2 => cases h
  rename_i z hz
  obtain ⟨i, zv, hi, hzv, rfl⟩ := zeroA_some hz
  have hzr : VRel r w (.agg zv.cells) (.agg (zv.cells.toList.map cst1)) := .agg (by simp) (fun k hk => by
    obtain ⟨u, h1, h2⟩ := cst1_cells r w zv k hk
    simp only [Array.getD_eq_getD_getElem?, h1, Option.getD_some]
    exact h2)
  split at h
  · rename_i fs hu
    split at h
    case h_2 => cases h
    rename_i l hl'
    split at h
    case h_2 => cases h
    rename_i cs hf
    simp only [Option.some.injEq] at h
    subst h
    obtain ⟨cs', h1, h2⟩ := fill_rel ps qs.toList _ _ _ hf (by simpa using hl) hp hzr
    have hm : (fs.mapM fun f => do pure (f.offset, ← sizeOf f.type) : Sem (Array (Nat × Nat))).run P w = .ok l.toArray w := by
      have h3 := placesOf_run w fs.toList l hl'
      rw [← Array.toList_mapM] at h3
      simp only [Sem.run_map] at h3
      revert h3
      generalize (fs.mapM fun f => do pure (f.offset, ← sizeOf f.type) : Sem (Array (Nat × Nat))).run P w = q
      intro h3
      cases q with
      | ok a w' =>
        simp only [Result.andThen_ok, Result.ok.injEq] at h3
        obtain ⟨rfl, rfl⟩ := h3
        simp
      | halt => simp at h3
    refine ⟨.agg cs', ?_, h2⟩
    have hfun : (fun (x : Nat) => l.toArray[x]?) = (fun (i : Nat) => l[i]?) := by funext x; simp
    simp only [Instr.build, Sem.run_bind, run_zeroValue hi hzv, Result.andThen_ok, run_underlying hu, hm, hfun, h1, Sem.run_pure]
  · rename_i n0 e hu
    split at h
    case h_2 => cases h
    rename_i n hn
    split at h
    case h_2 => cases h
    rename_i cs hf
    simp only [Option.some.injEq] at h
    subst h
    obtain ⟨cs', h1, h2⟩ := fill_rel ps qs.toList _ _ _ hf (by simpa using hl) hp hzr
    refine ⟨.agg cs', ?_, h2⟩
    simp only [Instr.build, Sem.run_bind, run_zeroValue hi hzv, Result.andThen_ok, run_underlying hu, run_sizeOf' hn, h1, Sem.run_pure]
  · cases h
end Go.Ab
end
section
set_option linter.unusedVariables false
set_option linter.unusedSimpArgs false
namespace Go.Ab
open Go
theorem Inv.newStable {cx : Cx} {r : Rl} {σ : Heap} {w : World} {sz cap : Nat} {fl : Bool} {xs : List AV} {ob : Obj} {c : Array Value} {t : TypeId} {f : Nat × Nat} (hi : Inv cx r σ w) (hob : ob = .cells c t f)
    (hsz : ∀ x ∈ xs, x.cells.length = sz) (hc : ∀ i (h : i < (xs.flatMap AV.cells).length), ∃ v, c[i]? = some v ∧ VRel r w v (xs.flatMap AV.cells)[i]) (hcap : xs.length ≤ cap) (hf : fl = true → cap = xs.length) :
    ∃ r', VRel r' (w.alloc ob) (.slice (some ⟨w.heap.size, 0, none⟩) xs.length cap) (.sl true fl sz xs) ∧ Inv cx r' σ (w.alloc ob) ∧ Ext r σ w r' σ (w.alloc ob) := by
  obtain ⟨h1, h2, g⟩ := hi.stable ob
  have hself := heap_alloc_self w ob
  subst hob
  have hcell : ∀ e (he : e < xs.length) j (hj : j < sz), ∃ v, (w.alloc (.cells c t f)).cell? ⟨w.heap.size, 0 + e * sz + j, none⟩ = some v ∧ ∀ hj' : j < (AV.cells (xs[e]'he)).length, VRel (r.add w.heap.size) (w.alloc (.cells c t f)) v ((AV.cells (xs[e]'he))[j]'hj') := by
    intro e he j hj
    have hk : e * sz + j < (xs.flatMap AV.cells).length := by
      rw [flatMap_cells_length hsz]
      have : e * sz + sz ≤ xs.length * sz := by rw [← Nat.succ_mul]; exact Nat.mul_le_mul_right _ he
      omega
    obtain ⟨v, q1, q2⟩ := hc _ hk
    refine ⟨v, by
      simp only [World.cell?, hself, Nat.zero_add]
      simpa using q1, fun hj' => ?_⟩
    have hg := flatMap_cells_get hsz e j he hj
    rw [List.getElem?_eq_getElem hk, List.getElem?_eq_getElem hj'] at hg
    simp only [Option.some.injEq] at hg
    rw [← hg]
    exact q2.mono g
  have hall : ∀ e j, ∃ v, ∀ (he : e < xs.length) (hj : j < sz), (w.alloc (.cells c t f)).cell? ⟨w.heap.size, 0 + e * sz + j, none⟩ = some v ∧ ∀ hj' : j < (AV.cells (xs[e]'he)).length, VRel (r.add w.heap.size) (w.alloc (.cells c t f)) v ((AV.cells (xs[e]'he))[j]'hj') := by
    intro e j
    by_cases h : e < xs.length ∧ j < sz
    · obtain ⟨v, hv⟩ := hcell e h.1 j h.2
      exact ⟨v, fun _ _ => hv⟩
    · exact ⟨undef, fun he hj => absurd ⟨he, hj⟩ h⟩
  refine ⟨r.add w.heap.size, .sl rfl hcap hf (.inr rfl) (fun _ => .inr rfl) hsz (fun e j => (hall e j).choose) (fun e he j hj => ((hall e j).choose_spec he hj).1) (fun e he j hj => ?_), h1, h2⟩
  have hj2 : j < sz := by rw [← hsz _ (List.getElem_mem he)]; exact hj
  exact ((hall e j).choose_spec he hj2).2 hj
def litParts (sz : Nat) : Nat → List (Nat × AV) → Option (List AV)
  | _, [] => some []
  | k, (i, x) :: r => bif Nat.beq i k && Nat.beq x.cells.length sz && (allOne x.cells && (!(Nat.beq sz 1) || x.one)) then
      match litParts sz (k + 1) r with
      | some l => some (x :: l)
      | none => none
    else none
theorem litParts_spec {sz : Nat} : ∀ (ps : List (Nat × AV)) (k : Nat) (xs : List AV), litParts sz k ps = some xs → xs = ps.map (·.2) ∧ (∀ i (h : i < ps.length), (ps[i]).1 = k + i) ∧ (∀ x ∈ xs, x.cells.length = sz ∧ (∀ y ∈ x.cells, y.one = true) ∧ (sz = 1 → x.one = true))
  | [], k, xs, h => by simp only [litParts, Option.some.injEq] at h; subst h; exact ⟨rfl, fun i h => absurd h (by simp), by simp⟩
  | (i, x) :: r, k, xs, h => by
    simp only [litParts] at h
    cases hb : (Nat.beq i k && Nat.beq x.cells.length sz && (allOne x.cells && (!(Nat.beq sz 1) || x.one))) with
    | false => rw [hb] at h; cases h
    | true =>
      rw [hb] at h
      simp only [cond_true] at h
      simp only [Bool.and_eq_true] at hb
      have e1 := Nat.eq_of_beq_eq_true hb.1.1
      have e2 := Nat.eq_of_beq_eq_true hb.1.2
      have e3 := allOne_mem hb.2.1
      have e4 : sz = 1 → x.one = true := fun h1 => by have := hb.2.2; subst h1; simpa using this
      split at h
      · rename_i l hl
        simp only [Option.some.injEq] at h
        subst h
        obtain ⟨h1, h2, h3⟩ := litParts_spec r (k + 1) l hl
        refine ⟨by rw [h1]; rfl, fun j hj => ?_, fun y hy => ?_⟩
        · rcases j with _ | j
          · simpa using e1
          · have := h2 j (by simpa using hj)
            simp only [List.getElem_cons_succ]; omega
        · rcases List.mem_cons.1 hy with rfl | h
          · exact ⟨e2, e3, e4⟩
          · exact h3 y h
      · cases h
theorem fill_lit {r : Rl} {w : World} {sz : Nat} : ∀ (qs : List (Nat × Value)) (ps : List (Nat × AV)) (k : Nat) (cs : Array Value) (xs : List AV), litParts sz k ps = some xs → ps.length = qs.length →
    (∀ i (h : i < ps.length) (h' : i < qs.length), (ps[i]).1 = (qs[i]).1 ∧ VRel r w (qs[i]).2 (ps[i]).2) → cs.size = (k + ps.length) * sz →
    ∃ cs', Instr.fill (fun i => some (i * sz, sz)) cs qs = some cs' ∧ cs'.size = cs.size ∧ (∀ i : Nat, i < k * sz → cs'[i]? = cs[i]?) ∧ (∀ i (h : i < (xs.flatMap AV.cells).length), ∃ v, cs'[k * sz + i]? = some v ∧ VRel r w v (xs.flatMap AV.cells)[i])
  | [], [], k, cs, xs, h, _, _, hs => by
    simp only [litParts, Option.some.injEq] at h
    subst h
    exact ⟨cs, rfl, rfl, fun _ _ => rfl, fun i h => absurd h (by simp)⟩
  | _ :: _, [], _, _, _, _, hl, _, _ => by simp at hl
  | [], _ :: _, _, _, _, _, hl, _, _ => by simp at hl
  | (j, v) :: qs, (i, x) :: ps, k, cs, xs, h, hl, hp, hs => by
    obtain ⟨s1, s2, s3⟩ := litParts_spec _ _ _ h
    have hi0 := s2 0 (by simp)
    simp only [List.getElem_cons_zero, Nat.add_zero] at hi0
    obtain ⟨h1, h2⟩ := hp 0 (by simp) (by simp)
    simp only [List.getElem_cons_zero] at h1 h2
    subst hi0
    subst h1
    simp only [litParts] at h
    cases hb : (Nat.beq i i && Nat.beq x.cells.length sz && (allOne x.cells && (!(Nat.beq sz 1) || x.one))) with
    | false => rw [hb] at h; cases h
    | true =>
      rw [hb] at h
      simp only [cond_true] at h
      split at h
      case h_2 => cases h
      rename_i l hl'
      simp only [Option.some.injEq] at h
      subst h
      obtain ⟨e1, e2, _⟩ := s3 x (by simp)
      have hxt : x.blank = false := AV.blank_of e2
      obtain ⟨k1, k2⟩ := h2.cells hxt
      simp only [List.length_cons] at hs hl
      have hfit : i * sz + v.cells.size ≤ cs.size := by
        rw [hs, k1, e1]
        have : (i + 1) * sz ≤ (i + (ps.length + 1)) * sz := Nat.mul_le_mul_right _ (by omega)
        rw [Nat.add_mul, Nat.one_mul] at this
        omega
      have hg := fold_zip v.cells (i * sz) cs hfit
      have hsize : (v.cells.zipIdx.foldl (fun cs (c, j) => cs.setIfInBounds (i * sz + j) c) cs).size = cs.size := by
        rw [← Array.foldl_toList]
        exact fold_size (i * sz) v.cells.zipIdx.toList cs
      obtain ⟨cs', m1, m2, m3, m4⟩ := fill_lit qs ps (i + 1) (v.cells.zipIdx.foldl (fun cs (c, j) => cs.setIfInBounds (i * sz + j) c) cs) l hl' (by omega) (fun a ha ha' => by
        have := hp (a + 1) (by simp; omega) (by simp; omega)
        simpa using this) (by rw [hsize, hs]; congr 1; omega)
      refine ⟨cs', ?_, by rw [m2, hsize], fun a ha => ?_, fun a ha => ?_⟩
      · rw [Instr.fill]
        simp only
        rw [if_neg (by simp; omega)]
        exact m1
      · rw [m3 a (by rw [Nat.add_mul]; omega), hg, if_neg (by omega)]
      · simp only [List.flatMap_cons] at ha ⊢
        by_cases hax : a < x.cells.length
        · obtain ⟨u, n1, n2⟩ := k2 a hax
          refine ⟨u, ?_, ?_⟩
          · rw [m3 _ (by rw [Nat.add_mul]; omega), hg, if_pos (by omega)]
            rw [← n1]; congr 1; omega
          · rw [List.getElem_append_left hax]; exact n2
        · rw [List.length_append] at ha
          obtain ⟨u, n1, n2⟩ := m4 (a - x.cells.length) (by omega)
          refine ⟨u, ?_, ?_⟩
          · rw [← n1]; congr 1; rw [Nat.add_mul]; omega
          · rw [List.getElem_append_right (by omega)]; exact n2
def memN (t : Nat) : List Nat → Bool
  | [] => false
  | s :: r => Nat.beq t s || memN t r
def inM (d : Option Nat) (M : List Nat) : Bool := match d with | some t => memN t M | none => false
def aLit (P : Program) (mu : Bool) (t : TypeId) (len : Nat) (ps : List (Nat × AV)) (σ : Heap) : Option (AV × Heap) :=
  match elemInfo P t with
  | some (e, sz, _) => bif Nat.beq ps.length len && Nat.ble (len * sz) 16777216 then
      match litParts sz 0 ps with
      | some xs => match mu with
        | false => some (.sl true true sz xs, σ)
        | true => match allocH σ (.cells (flatA sz xs) ⟨false, tyU8 P e⟩) with
          | (id, ver, σ') => some (.ms id ver 0 len sz true, σ')
      | none => none
    else none
  | none => none
theorem aLit_run {cx : Cx} {r : Rl} {σ σ' : Heap} {w : World} {mu : Bool} {t : TypeId} {len : Nat} {ps : List (Nat × AV)} {qs : Array (Nat × Value)} {v : AV} (hi : Inv cx r σ w) (h : aLit cx.P mu t len ps σ = some (v, σ'))
    (hl : ps.length = qs.size) (hp : ∀ i (h : i < ps.length) (h' : i < qs.toList.length), (ps[i]).1 = (qs.toList[i]).1 ∧ VRel r w (qs.toList[i]).2 (ps[i]).2) :
    ∃ v' w' r', (Instr.buildSlice t len qs).run cx.P w = .ok v' w' ∧ VRel r' w' v' v ∧ Inv cx r' σ' w' ∧ Ext r σ w r' σ' w' := by
  unfold aLit at h
  split at h
  case h_2 => cases h
  rename_i e sz by_ hel
  obtain ⟨inf, z, hu, hinfo, hz, hz1, hz2, hz3⟩ := elemInfo_some hel
  cases hb : (Nat.beq ps.length len && Nat.ble (len * sz) 16777216) with
  | false => rw [hb] at h; cases h
  | true =>
  rw [hb] at h
  simp only [cond_true] at h
  simp only [Bool.and_eq_true] at hb
  have e1 := Nat.eq_of_beq_eq_true hb.1
  have e2 := Nat.le_of_ble_eq_true hb.2
  split at h
  case h_2 => cases h
  rename_i xs hlit
  obtain ⟨s1, s2, s3⟩ := litParts_spec _ _ _ hlit
  have hxl : xs.length = len := by rw [s1, List.length_map]; exact e1
  have hszo : szOf cx.P e = some sz := by simp [szOf, hinfo, hz2]
  have key : ∃ c : Array Value, (Instr.buildSlice t len qs).run cx.P w = .ok (.slice (some ⟨w.heap.size, 0, none⟩) len len) (w.alloc (.cells c e)) ∧ c.size = len * sz ∧
      (∀ i (h : i < (xs.flatMap AV.cells).length), ∃ v, c[i]? = some v ∧ VRel r w v (xs.flatMap AV.cells)[i]) := by
    have hlim : ¬ len * sz > 2 ^ 24 := by simp; omega
    by_cases h0 : len * sz = 0
    · obtain ⟨c, m1, m2, m3, m4⟩ := fill_lit (r := r) (w := w) qs.toList ps 0 ((Array.range (len * sz)).map ((#[] : Array Value)[· % (#[] : Array Value).size]!)) xs hlit (by simpa using hl) hp (by simp; rw [e1])
      refine ⟨c, ?_, by rw [m2]; simp, fun i hi => by
        obtain ⟨v, n1, n2⟩ := m4 i hi
        exact ⟨v, by simpa using n1, n2⟩⟩
      simp only [Instr.buildSlice, Sem.run_bind, run_underlying hu, Result.andThen_ok, run_sizeOf' hszo, hlim, if_false, Sem.run_ite, h0, if_true, Sem.run_pure]
      rw [h0] at m1
      simp only [m1, Sem.run_bind, newRow, run_newObj, Sem.run_pure, Result.andThen_ok, World.alloc_eq]
      rw [if_neg (by decide)]
    · obtain ⟨c, m1, m2, m3, m4⟩ := fill_lit (r := r) (w := w) qs.toList ps 0 ((Array.range (len * sz)).map (z.cells[· % z.cells.size]!)) xs hlit (by simpa using hl) hp (by simp; rw [e1])
      refine ⟨c, ?_, by rw [m2]; simp, fun i hi => by
        obtain ⟨v, n1, n2⟩ := m4 i hi
        exact ⟨v, by simpa using n1, n2⟩⟩
      simp only [Instr.buildSlice, Sem.run_bind, run_underlying hu, Result.andThen_ok, run_sizeOf' hszo, hlim, if_false, Sem.run_ite, h0, run_zeroValue hinfo hz, Sem.run_pure, m1, newRow, run_newObj, World.alloc_eq]
  obtain ⟨c, hbs, hcs, hcr⟩ := key
  split at h
  · simp only [Option.some.injEq, Prod.mk.injEq] at h; obtain ⟨rfl, rfl⟩ := h
    obtain ⟨r', k1, k2, k3⟩ := hi.newStable (ob := .cells c e) (fl := true) (cap := len) (sz := sz) rfl (fun x hx => (s3 x hx).1) hcr (by omega) (fun _ => hxl.symm)
    rw [hxl] at k1
    exact ⟨_, _, r', hbs, k1, k2, k3⟩
  · generalize hal : allocH σ _ = al at h
    obtain ⟨id, ver, σ1⟩ := al
    simp only [Option.some.injEq, Prod.mk.injEq] at h; obtain ⟨rfl, rfl⟩ := h
    have hone : ∀ y ∈ xs.flatMap AV.cells, y.one = true := by
      intro y hy
      obtain ⟨x, hx, hy'⟩ := List.mem_flatMap.1 hy
      exact (s3 x hx).2.1 y hy'
    have hfl : flatA sz xs = xs.flatMap AV.cells := by
      unfold flatA
      split
      · exact (flatMap_cells_one (fun x hx => (s3 x hx).2.2 rfl)).symm
      · rfl
    rw [hfl] at hal
    obtain ⟨r', k1, k2, k3, k4, k5⟩ := hi.newCells (c := c) (t := e) hal hcr hone (fun T h => tyU8_eq h)
    refine ⟨_, _, r', hbs, ?_, k1, k2⟩
    have hv := VRel.ms (r := r') (w := w.alloc (.cells c e)) (id := id) (ver := ver) (b := w.heap.size) (o := 0) (off := 0) (n := len) (cap := len) (sz := sz) (full := true) k3
      ⟨c, e, _, heap_alloc_self w _, by omega⟩ (Nat.le_refl _) (fun _ => rfl)
    exact hv
end Go.Ab
end
section
set_option linter.unusedVariables false
set_option linter.unusedSimpArgs false
namespace Go.Ab
open Go
theorem freeze_alloc (w : World) (c : Array Value) (t : TypeId) (k : Nat) : (w.alloc (.cells c t)).freeze ⟨w.heap.size, k, none⟩ 1 = w.alloc (.cells c t (k, k + 1)) := by
  unfold World.freeze
  rw [if_neg (by decide)]
  show ({ w with heap := (w.heap.push (.cells c t)).modify w.heap.size _ } : World) = { w with heap := w.heap.push (.cells c t (k, k + 1)) }
  congr 1
  apply Array.ext
  · simp
  · intro i h1 h2
    simp only [Array.size_modify, Array.size_push] at h1
    rw [Array.getElem_modify]
    by_cases hi : w.heap.size = i
    · subst hi
      simp
    · rw [if_neg hi]
      rw [Array.getElem_push_lt (by omega), Array.getElem_push_lt (by omega)]
def aBytes (P : Program) (mu : Bool) (src dst : TypeId) (x : AV) (σ : Heap) : Option (AV × Heap) :=
  match P.underlying src, P.underlying dst, x with
  | some .string, some (.slice e), .str s => bif isU8 P e then
      match mu with
      | false => some (.sl true false 1 (s.map byteAV), σ)
      | true => match allocH σ (.cells (s.map byteAV) ⟨false, tyU8 P e⟩) with
        | (id, ver, σ') => some (.ms id ver 0 s.length 1 false, σ')
    else none
  | _, _, _ => none
theorem aBytes_run {cx : Cx} {r : Rl} {σ σ' : Heap} {w : World} {mu : Bool} {src dst : TypeId} {x : Value} {x' v : AV} (hi : Inv cx r σ w) (h : aBytes cx.P mu src dst x' σ = some (v, σ')) (hx : VRel r w x x') :
    ∃ v' w' r', (convert src dst x).run cx.P w = .ok v' w' ∧ VRel r' w' v' v ∧ Inv cx r' σ' w' ∧ Ext r σ w r' σ' w' := by
  unfold aBytes at h
  split at h
  case h_2 => cases h
  rename_i e s h1 h2
  cases hu : isU8 cx.P e with
  | false => rw [hu] at h; cases h
  | true =>
  rw [hu] at h
  simp only [cond_true] at h
  have he := isU8_eq hu
  cases hx with
  | str hs =>
  rename_i u
  subst hs
  have hsz : u.size = u.data.toList.length := by rw [Array.length_toList]; rfl
  have hge := grownCap_ge w u.size 0 e
  have hrun : (convert src dst (.string u)).run cx.P w = .ok (.slice (some ⟨w.heap.size, 0, none⟩) u.size (grownCap w u.size 0 e))
      (w.drew.alloc (.cells (u.data.map (fun b => Value.int .u8 b.toNat) ++ Array.replicate (grownCap w u.size 0 e - u.size) (.int .u8 0)) e
        (((u.data.map (fun b => Value.int .u8 b.toNat) ++ Array.replicate (grownCap w u.size 0 e - u.size) (.int .u8 0)) : Array Value).size, ((u.data.map (fun b => Value.int .u8 b.toNat) ++ Array.replicate (grownCap w u.size 0 e - u.size) (.int .u8 0)) : Array Value).size + 1))) := by
    rw [← freeze_alloc]
    have hshape : ∀ c : Array Value, (w.drew.alloc (.cells c e)).shape? w.heap.size = some (e, c.size) := by
      intro c
      have := heap_alloc_self w.drew (.cells c e)
      simp only [World.size_drew] at this
      simp only [World.shape?, this]
    have hgc : grownCap w u.size 0 e = (Question.appendCap u.size 0 e).cut (w.tape w.drawn (.appendCap u.size 0 e)) := rfl
    simp only [convert, Sem.run_bind, run_underlying h1, run_underlying h2, run_underlying he, Result.andThen_ok, Conv.stringToBytes, run_choose, Question.forced, Bool.false_eq_true, if_false, newRow, run_newObj, Sem.run_pure, World.drew_eq, World.alloc_eq, markStringish, run_shape, ← hgc]
    simp only [World.size_drew, hshape, run_freeze, Result.andThen_ok]
  have hcells : ∀ i (h : i < (u.data.toList.map byteAV).length), ∃ v, ((u.data.map (fun b => Value.int .u8 b.toNat) ++ Array.replicate (grownCap w u.size 0 e - u.size) (.int .u8 0)) : Array Value)[i]? = some v ∧ VRel r w v (u.data.toList.map byteAV)[i] := by
    intro i hil
    simp only [List.length_map, Array.length_toList] at hil
    refine ⟨.int .u8 (u.data[i]).toNat, ?_, ?_⟩
    · rw [Array.getElem?_append_left (by simpa using hil)]
      rw [Array.getElem?_map, Array.getElem?_eq_getElem hil]
      rfl
    · simp only [List.getElem_map, Array.getElem_toList, byteAV]
      exact .int
  have hone : ∀ y ∈ u.data.toList.map byteAV, y.one = true := by
    intro y hy
    obtain ⟨b, _, rfl⟩ := List.mem_map.1 hy
    rfl
  obtain ⟨hid, hed⟩ := hi.heap_eq (w' := w.drew) rfl rfl rfl rfl
  split at h
  · simp only [Option.some.injEq, Prod.mk.injEq] at h; obtain ⟨rfl, rfl⟩ := h
    have hfm : (u.data.toList.map byteAV).flatMap AV.cells = u.data.toList.map byteAV := flatMap_cells_one hone
    obtain ⟨r', k1, k2, k3⟩ := hid.newStable (cap := grownCap w u.size 0 e) (fl := false) (sz := 1) (xs := u.data.toList.map byteAV) rfl (fun x hx => by
      obtain ⟨b, _, rfl⟩ := List.mem_map.1 hx
      rfl) (by
        rw [hfm]
        intro i hil
        obtain ⟨v, q1, q2⟩ := hcells i hil
        exact ⟨v, q1, q2.mono (hed.grow hi)⟩) (by rw [List.length_map, ← hsz]; exact hge) (fun h => by cases h)
    refine ⟨_, _, r', hrun, ?_, k2, hed.trans k3⟩
    rw [List.length_map, ← hsz] at k1
    exact k1
  · generalize hal : allocH σ _ = al at h
    obtain ⟨id, ver, σ1⟩ := al
    simp only [Option.some.injEq, Prod.mk.injEq] at h; obtain ⟨rfl, rfl⟩ := h
    have hself := heap_alloc_self w.drew (.cells (u.data.map (fun b => Value.int .u8 b.toNat) ++ Array.replicate (grownCap w u.size 0 e - u.size) (.int .u8 0)) e
        (((u.data.map (fun b => Value.int .u8 b.toNat) ++ Array.replicate (grownCap w u.size 0 e - u.size) (.int .u8 0)) : Array Value).size, ((u.data.map (fun b => Value.int .u8 b.toNat) ++ Array.replicate (grownCap w u.size 0 e - u.size) (.int .u8 0)) : Array Value).size + 1))
    obtain ⟨k1, k2⟩ := hid.new hal (fun g => ⟨_, e, _, _, hself, fun i hil => by
      obtain ⟨v, q1, q2⟩ := hcells i hil
      exact ⟨v, by rw [Nat.zero_add]; exact q1, (q2.mono (hed.grow hi)).mono g⟩, hone, fun i a b c => by omega, fun T h => ⟨tyU8_eq h, rfl, fun _ hu => by rw [← tyU8_eq h] at hu; rw [hu] at h; cases h⟩⟩)
    refine ⟨_, _, _, hrun, ?_, k1, hed.trans k2⟩
    have hv := VRel.ms (r := r.bind id ver (w.heap.size, 0)) (w := _) (id := id) (ver := ver) (b := w.heap.size) (o := 0) (off := 0) (n := u.data.toList.length) (cap := grownCap w u.size 0 e) (sz := 1) (full := false)
      (by simp [Rl.bind]) ⟨_, e, _, hself, by
        simp only [Array.size_append, Array.size_map, Array.size_replicate, Nat.mul_one, Nat.zero_add]
        have : u.data.size = u.size := rfl
        omega⟩ (by rw [← hsz]; exact hge) (fun h => by cases h)
    rw [← hsz] at hv ⊢
    exact hv
def repA (n : Nat) (z : List AV) : List AV :=
  match z with
  | [x] => List.replicate n x
  | z => (List.replicate n z).flatten
theorem repA_length (n : Nat) (z : List AV) : (repA n z).length = n * z.length := by
  unfold repA
  split
  · simp
  · simp
theorem flatten_get (z : List AV) (hz : 0 < z.length) : ∀ (n i : Nat) (h : i < ((List.replicate n z).flatten).length), ((List.replicate n z).flatten)[i] = z[i % z.length]'(Nat.mod_lt _ hz)
  | 0, i, h => by simp at h
  | n + 1, i, h => by
    have he : (List.replicate (n + 1) z).flatten = z ++ (List.replicate n z).flatten := by rw [List.replicate_succ, List.flatten_cons]
    have h' : i < (z ++ (List.replicate n z).flatten).length := by rw [← he]; exact h
    have h1 : ((List.replicate (n + 1) z).flatten)[i] = (z ++ (List.replicate n z).flatten)[i]'h' := by simp only [he]
    rw [h1]
    by_cases hi : i < z.length
    · rw [List.getElem_append_left hi]
      congr 1
      exact (Nat.mod_eq_of_lt hi).symm
    · rw [List.getElem_append_right (by omega), flatten_get z hz n (i - z.length) (by rw [List.length_append] at h'; omega)]
      congr 1
      exact (Nat.mod_eq_sub_mod (by omega)).symm
theorem repA_get (n : Nat) (z : List AV) (i : Nat) (h : i < (repA n z).length) (hz : 0 < z.length) : (repA n z)[i] = z[i % z.length]'(Nat.mod_lt _ hz) := by
  unfold repA at *
  split at h
  · simp [Nat.mod_one]
  · exact flatten_get z hz n i h
def aMake (P : Program) (t : TypeId) (l c : AV) (σ : Heap) : Option (List Prop × AV × Heap) :=
  match elemInfo P t with
  | some (e, sz, by_) => match zeroA P e with
    | some z => bif allOne z && Nat.ble 1 sz then
        match l, c with
        | .int _ a, .int _ b => match allocH σ (.cells (repA a.toNat z) ⟨false, tyU8 P e⟩) with
          | (id, ver, σ') => some ([0 ≤ a, a ≤ b, by_ * b ≤ 281474976710656, b ≤ 9223372036854775807], .ms id ver 0 a.toNat sz false, σ')
        | _, _ => none
      else none
    | none => none
  | none => none
theorem wrap_i64_of {n : Int} (h0 : 0 ≤ n) (h1 : n ≤ 9223372036854775807) : IntKind.i64.wrap n = n := by
  unfold IntKind.wrap
  have hm : n % (2 ^ IntKind.i64.bits : Int) = n := Int.emod_eq_of_lt h0 (by show n < 18446744073709551616; omega)
  simp only [hm]
  rw [if_neg]
  intro h
  simp only [Bool.and_eq_true, decide_eq_true_eq] at h
  have h2 := h.2
  have h3 : (2 ^ (IntKind.i64.bits - 1) : Int) = 9223372036854775808 := by decide
  rw [h3] at h2
  omega
theorem aMake_run {cx : Cx} {r : Rl} {σ σ' : Heap} {w : World} {t : TypeId} {l c : Value} {l' c' v : AV} {C : List Prop} (hi : Inv cx r σ w) (h : aMake cx.P t l' c' σ = some (C, v, σ')) (hC : AllP C)
    (hl : VRel r w l l') (hc : VRel r w c c') : ∃ v' w' r', (Instr.makeSlice t l c).run cx.P w = .ok v' w' ∧ VRel r' w' v' v ∧ Inv cx r' σ' w' ∧ Ext r σ w r' σ' w' := by
  unfold aMake at h
  split at h
  case h_2 => cases h
  rename_i e sz by_ hel
  obtain ⟨inf, z, hu, hinfo, hz, hz1, hz2, hz3⟩ := elemInfo_some hel
  split at h
  case h_2 => cases h
  rename_i za hza
  obtain ⟨inf', z', hinfo', hz', rfl⟩ := zeroA_some hza
  rw [hinfo] at hinfo'
  simp only [Option.some.injEq] at hinfo'
  subst hinfo'
  rw [hz] at hz'
  simp only [Option.some.injEq] at hz'
  subst hz'
  cases hb : (allOne (z.cells.toList.map cst1) && Nat.ble 1 sz) with
  | false => rw [hb] at h; cases h
  | true =>
  rw [hb] at h
  simp only [cond_true] at h
  simp only [Bool.and_eq_true] at hb
  have hone := allOne_mem hb.1
  have hsz1 := Nat.le_of_ble_eq_true hb.2
  split at h
  case h_2 => cases h
  rename_i k1 a k2 b
  generalize hal : allocH σ _ = al at h
  obtain ⟨id, ver, σ1⟩ := al
  simp only [Option.some.injEq, Prod.mk.injEq] at h; obtain ⟨rfl, rfl, rfl⟩ := h
  obtain ⟨c1, c2, c3, c4, _⟩ := hC
  cases hl
  cases hc
  have hszo : szOf cx.P e = some sz := by simp [szOf, hinfo, hz2]
  have hwa := wrap_i64_of c1 (by omega)
  have hwb := wrap_i64_of (Int.le_trans c1 c2) c4
  have hn0 : ∃ c : Array Value, (Instr.makeSlice t (.int k1 a) (.int k2 b)).run cx.P w = .ok (.slice (some ⟨w.heap.size, 0, none⟩) a.toNat b.toNat) (w.alloc (.cells c e)) ∧ c.size = b.toNat * sz ∧
      ∀ i : Nat, i < b.toNat * sz → c[i]? = z.cells[i % sz]? := by
    have hzs : 0 < z.cells.size := by omega
    have hneg1 : ¬ b < 0 := by omega
    have hneg2 : ¬ a < 0 := by omega
    have hneg3 : ¬ b < a := by omega
    have hneg4 : ¬ (281474976710656 : Int) < inf.bytes * b := by rw [hz3]; omega
    by_cases h0 : b.toNat * sz = 0
    · refine ⟨#[], ?_, by rw [h0]; rfl, fun i hil => by omega⟩
      have hb0 : b.toNat = 0 := by
        rcases Nat.mul_eq_zero.1 h0 with h | h
        · exact h
        · omega
      simp only [Instr.makeSlice, Sem.run_bind, run_underlying hu, Result.andThen_ok, asInt, asIntOf, Sem.run_pure, typeInfo, run_program, hinfo, hwa, hwb, run_askRoom, run_sizeOf' hszo]
      simp [hneg1, hneg2, hneg3, hneg4, h0, hb0, newRow, run_askRoom, run_sizeOf' hszo]
      simp only [Array.range_zero', Array.map_empty]
    · refine ⟨(Array.range (b.toNat * sz)).map (z.cells[· % z.cells.size]!), ?_, by simp, fun i hil => ?_⟩
      · simp only [Instr.makeSlice, Sem.run_bind, run_underlying hu, Result.andThen_ok, asInt, asIntOf, Sem.run_pure, typeInfo, run_program, hinfo, hwa, hwb, run_askRoom, run_sizeOf' hszo]
        have h0' : ¬ (b.toNat = 0 ∨ sz = 0) := by
          intro h
          rcases h with h | h <;> simp [h] at h0
        simp only [not_or] at h0'
        simp [hneg1, hneg2, hneg3, hneg4, h0'.1, h0'.2, newRow, run_askRoom, zeroValue, typeInfo, hinfo, hz, run_sizeOf' hszo]
        intro h; exact absurd h h0
      · have hm : i % sz < z.cells.size := by rw [hz1]; exact Nat.mod_lt _ (by omega)
        rw [Array.getElem?_map, Array.getElem?_range, if_pos hil, Option.map_some, hz1, Array.getElem?_eq_getElem hm, getElem!_pos z.cells _ hm]
  obtain ⟨c, hrun, hcs, hcr⟩ := hn0
  have hzl : (z.cells.toList.map cst1).length = sz := by simp [hz1]
  have hrl := repA_length a.toNat (z.cells.toList.map cst1)
  have hle : a.toNat * sz ≤ b.toNat * sz := Nat.mul_le_mul_right _ (by omega)
  obtain ⟨r', q1, q2, q3, q4, q5⟩ := hi.newCells (c := c) (t := e) hal (fun i hil => by
    have hil' := hil
    rw [hrl, hzl] at hil'
    obtain ⟨u, m1, m2⟩ := cst1_cells r w z (i % sz) (by rw [hzl]; exact Nat.mod_lt _ (by omega))
    refine ⟨u, by rw [hcr i (by omega)]; exact m1, ?_⟩
    rw [repA_get _ _ _ hil (by omega)]
    simp only [hzl]
    exact m2) (fun y hy => by
      obtain ⟨i, hi1, rfl⟩ := List.getElem_of_mem hy
      rw [repA_get _ _ _ hi1 (by omega)]
      exact hone _ (List.getElem_mem _)) (fun T h => tyU8_eq h)
  refine ⟨_, _, r', hrun, ?_, q1, q2⟩
  have hv := VRel.ms (r := r') (w := w.alloc (.cells c e)) (id := id) (ver := ver) (b := w.heap.size) (o := 0) (off := 0) (n := a.toNat) (cap := b.toNat) (sz := sz) (full := false) q3
    ⟨c, e, _, heap_alloc_self w _, by omega⟩ (by omega) (fun h => by cases h)
  exact hv
end Go.Ab
end
section
set_option linter.unusedVariables false
set_option linter.unusedSimpArgs false
namespace Go.Ab
open Go
theorem cells_store {cx : Cx} {gT : Option TypeId} {r : Rl} {σ : Heap} {w : World} {id ver off b o : Nat} {cs ys : List AV} {vs : List Value} (hi : Inv cx r σ w)
    (hσ : σ[id]? = some (ver, some (.cells cs ⟨false, gT⟩))) (hle : off + ys.length ≤ cs.length) (hone : ∀ y ∈ ys, y.one = true) (hx : Vals r w vs ys) (hρ : r.ρ id ver = some (b, o)) (h0 : ys.length ≠ 0) :
    ∃ w' r', (storeCells ⟨b, o + off, none⟩ vs).run cx.P w = .ok () w' ∧ Inv cx r' (σ.set id (ver, some (.cells (setRange cs off ys) ⟨false, gT⟩))) w' ∧ Ext r σ w r' (σ.set id (ver, some (.cells (setRange cs off ys) ⟨false, gT⟩))) w' := by
  have hbx : BoxRel cx.P r w b o (.cells cs ⟨false, gT⟩) := by
    rcases hi.box id ver _ hσ with ⟨b', o', h1, h2⟩ | ⟨h1, _⟩
    · rw [hρ] at h1; simp only [Option.some.injEq, Prod.mk.injEq] at h1; obtain ⟨rfl, rfl⟩ := h1; exact h2
    · rw [hρ] at h1; cases h1
  obtain ⟨c, ty, lo, hi', q1, q2, q3, q4, q5⟩ := hbx
  have hsz : o + cs.length ≤ c.size ∨ cs.length = 0 := by
    rcases Nat.eq_zero_or_pos cs.length with h0 | h0
    · exact .inr h0
    · obtain ⟨v, hv, _⟩ := q2 (cs.length - 1) (by omega)
      rcases Nat.lt_or_ge (o + (cs.length - 1)) c.size with h | h
      · left; omega
      · rw [Array.getElem?_eq_none h] at hv; cases hv
  have hcell : ∀ j, j < vs.length → (w.cell? ⟨b, o + off + j, none⟩).isSome = true ∧ w.frozen? ⟨b, o + off + j, none⟩ = false := by
    intro j hj
    have hj' : j < ys.length := by rw [← hx.1]; exact hj
    obtain ⟨v, h1, _⟩ := q2 (off + j) (by omega)
    rw [← Nat.add_assoc] at h1
    refine ⟨by simp [World.cell?, q1, h1], ?_⟩
    have hlt : o + off + j < c.size := by
      rcases Nat.lt_or_ge (o + off + j) c.size with h | h
      · exact h
      · rw [Array.getElem?_eq_none h] at h1; cases h1
    simp only [World.frozen?, q1]
    by_cases hf : lo ≤ o + off + j ∧ o + off + j < hi'
    · have := (q4 _ hf.1 hf.2 hlt).1; cases this
    · simp only [Bool.and_eq_false_iff, decide_eq_false_iff_not]
      by_cases h1 : lo ≤ o + off + j
      · right; intro h2; exact hf ⟨h1, h2⟩
      · left; exact h1
  have hrun := run_storeCells_cells (P := cx.P) b (o + off) vs 0 w (fun j hj => by simpa using (hcell j hj).1) (fun j hj => by simpa using (hcell j hj).2) (hx.one hone)
  simp only [Nat.add_zero] at hrun
  obtain ⟨c', h1, h2, h3, h4, h5, h6, h7, h8⟩ := setCells_heap b vs (o + off) w c ty (lo, hi') q1 (by have := hx.1; omega)
  have hid : id < σ.length := by
    rcases Nat.lt_or_ge id σ.length with h | h
    · exact h
    · rw [List.getElem?_eq_none h] at hσ; cases hσ
  have hu := hi.update (σ' := σ.set id (ver, some (.cells (setRange cs off ys) ⟨false, gT⟩))) (id := id) (ver := ver) (b := b) (o := o) (x := .cells (setRange cs off ys) ⟨false, gT⟩)
    (w' := w.setCells b (o + off) vs) (by simp [hid]) (fun j hj => by rw [List.getElem?_set, if_neg (Ne.symm hj)])
    (fun c2 y hy => by rw [hσ] at hy; simp only [Option.some.injEq, Prod.mk.injEq] at hy; exact .inr ⟨hy.1.symm, hρ⟩) (.inr ⟨ver, _, o, hσ, hρ⟩) (fun k hk hkb => h4 k hkb) (by rw [h5]; exact Nat.le_refl _)
    (fun c2 t2 f2 hc2 => by rw [q1] at hc2; simp only [Option.some.injEq, Obj.cells.injEq] at hc2; obtain ⟨rfl, rfl, rfl⟩ := hc2; exact ⟨c', _, h1, h2⟩) h6 h7 h8
    (fun g => by
      refine ⟨c', ty, lo, hi', h1, fun i hil => ?_, fun y hy => ?_, fun i a1 a2 a3 => ?_, q5⟩
      · rw [setRange_length _ _ _ hle] at hil
        have hget := setRange_get cs off ys hle i
        have hget2 : (setRange cs off ys)[i]? = some ((setRange cs off ys)[i]'(by rw [setRange_length _ _ _ hle]; exact hil)) := List.getElem?_eq_getElem _
        rw [h3]
        by_cases hin : off ≤ i ∧ i < off + ys.length
        · rw [if_pos (by have := hx.1; omega)]
          rw [if_pos hin] at hget
          obtain ⟨u, e1, e2⟩ := hx.2 (i - off) (by omega)
          refine ⟨u, by rw [← e1]; congr 1; omega, ?_⟩
          rw [hget, List.getElem?_eq_getElem (by omega)] at hget2
          simp only [Option.some.injEq] at hget2
          rw [← hget2]
          exact e2.mono g
        · rw [if_neg (by have := hx.1; omega)]
          rw [if_neg hin] at hget
          obtain ⟨u, e1, e2⟩ := q2 i hil
          refine ⟨u, e1, ?_⟩
          rw [hget, List.getElem?_eq_getElem hil] at hget2
          simp only [Option.some.injEq] at hget2
          rw [← hget2]
          exact e2.mono g
      · obtain ⟨i, hi1, rfl⟩ := List.getElem_of_mem hy
        have hget := setRange_get cs off ys hle i
        rw [List.getElem?_eq_getElem hi1] at hget
        split at hget
        · exact hone _ (List.mem_of_getElem? hget.symm)
        · exact q3 _ (List.mem_of_getElem? hget.symm)
      · rw [h2] at a3
        rw [setRange_length _ _ _ hle]
        exact q4 i a1 a2 a3)
  exact ⟨_, _, hrun, hu.1, hu.2⟩
def aCopy (P : Program) (dT : TypeId) (d s : AV) (σ : Heap) : Option (List Prop × AV × Heap) :=
  match elemInfo P dT with
  | some (_, sz, _) => match aSrc sz s σ with
    | some (C, n, ys) => match d with
      | .ms id ver off len s' _ => match σ[id]? with
        | some (cur, some (.cells cs ⟨false, gT⟩)) => some (C ++ [∀ y ∈ ys, y.one = true, ver = cur, s' = sz, off + n * sz ≤ cs.length, n ≤ len, 0 < n, 0 < sz], .int .i64 n, σ.set id (cur, some (.cells (setRange cs off ys) ⟨false, gT⟩)))
        | _ => none
      | _ => none
    | none => none
  | none => none
theorem aCopy_run {cx : Cx} {r : Rl} {σ σ' : Heap} {w : World} {dT sT ty : TypeId} {d s : Value} {d' s' v : AV} {C : List Prop} (hi : Inv cx r σ w) (h : aCopy cx.P dT d' s' σ = some (C, v, σ')) (hC : AllP C)
    (hd : VRel r w d d') (hs : VRel r w s s') :
    ∃ v' w' r', (Builtin.copy_ #[dT, sT] ty #[d, s]).run cx.P w = .ok v' w' ∧ VRel r' w' v' v ∧ Inv cx r' σ' w' ∧ Ext r σ w r' σ' w' := by
  unfold aCopy at h
  split at h
  case h_2 => cases h
  rename_i e sz by_ hel
  obtain ⟨i, z, hu, hinfo, hz, hz1, hz2, hz3⟩ := elemInfo_some hel
  split at h
  case h_2 => cases h
  rename_i C0 n ys hsrc
  split at h
  case h_2 => cases h
  rename_i id ver off len s0 fl
  split at h
  case h_2 => cases h
  rename_i cur cs hσ
  simp only [Option.some.injEq, Prod.mk.injEq] at h; obtain ⟨rfl, rfl, rfl⟩ := h
  obtain ⟨hC0, hone, hv, hs0, hle, hnl, hn0, hsz0, _⟩ := AllP_append hC
  subst hv; subst hs0
  obtain ⟨hl1, hl2, news, hl3, hl4⟩ := aSrc_run hi hsrc hC0 hs
  cases hd with
  | ms0 => omega
  | ms hρ hcap hnc hff =>
    rename_i b o cap
    have hpos : 0 < n * s0 := Nat.mul_pos hn0 hsz0
    obtain ⟨w', r', h1, h2, h3⟩ := cells_store hi hσ (by rw [hl2]; exact hle) hone hl3 hρ (by omega)
    have hszo : szOf cx.P e = some s0 := by simp [szOf, hinfo, hz2]
    have hmin : Nat.min n len = n := Nat.min_eq_left hnl
    refine ⟨.int .i64 n, w', r', ?_, .int, h2, h3⟩
    simp only [Builtin.copy_, List.getElem?_toArray, List.getElem?_cons_zero, List.getElem?_cons_succ, Sem.run_bind, run_underlying hu, Result.andThen_ok, hl1, hmin, run_sizeOf' hszo, hl4 w rfl, List.toList_toArray, h1, Sem.run_pure, goInt]
def forceV {α : Type} (v : AV) (c : AV → α) : α :=
  match v with
  | .top => c .top
  | .bool b => c (.bool b)
  | .int k n => c (.int k n)
  | .str s => c (.str s)
  | .nilp => c .nilp
  | .ptr id ver off => c (.ptr id ver off)
  | .eptr id ver off => c (.eptr id ver off)
  | .rp st cs => c (.rp st cs)
  | .nils => c .nils
  | .sl st fl sz xs => c (.sl st fl sz xs)
  | .ms id ver off len sz full => c (.ms id ver off len sz full)
  | .nilm => c .nilm
  | .map id ver => c (.map id ver)
  | .func fn a b => c (.func fn a b)
  | .nilf => c .nilf
  | .iface t v => c (.iface t v)
  | .nili => c .nili
  | .agg cs => c (.agg cs)
  | .tup vs => c (.tup vs)
  | .mark vs => c (.mark vs)
theorem forceV_eq {α : Type} (v : AV) (c : AV → α) : forceV v c = c v := by cases v <;> rfl
def forceP {β : Type} : List (Nat × AV) → (List (Nat × AV) → β) → β
  | [], c => c []
  | p :: r, c => forceV p.2 fun v => forceP r fun r' => c ((p.1, v) :: r')
theorem forceP_eq {β : Type} : ∀ (l : List (Nat × AV)) (c : List (Nat × AV) → β), forceP l c = c l
  | [], c => rfl
  | p :: r, c => by rw [forceP, forceV_eq, forceP_eq r]
def aOp (cx : Cx) (M : List Nat) (dst : Option Nat) (o : Op) (fr : Fr) (σ : Heap) : Option (List Prop × AV × Heap) :=
  match o with
  | .alloc e => match zeroA cx.P e with
    | some z => bif allOne z then match allocH σ (.cells z ⟨false, tyS cx.P e⟩) with
        | (id, ver, σ') => some ([], .ptr id ver 0, σ')
      else none
    | none => none
  | .box e x => bif allOne (ev cx fr x).cells then match allocH σ (.cells (ev cx fr x).cells ⟨false, tyS cx.P e⟩) with
        | (id, ver, σ') => some ([], .ptr id ver 0, σ')
      else none
  | .build t ps => forceP (ps.toList.map fun p => (p.1, ev cx fr p.2)) fun l => match aBuild cx.P t l with
    | some v => some ([], v, σ)
    | none => none
  | .buildSlice t len ps => forceP (ps.toList.map fun p => (p.1, ev cx fr p.2)) fun l => match aLit cx.P (inM dst M) t len l σ with
    | some (v, σ') => some ([], v, σ')
    | none => none
  | .store t a x => match aStore cx.P t (ev cx fr a) (ev cx fr x) σ with
    | some (C, σ') => some (C, .tup [], σ')
    | none => none
  | .makeSlice t l c => aMake cx.P t (ev cx fr l) (ev cx fr c) σ
  | .range t x => match cx.P.underlying t, ev cx fr x with
    | some .string, .str s => match allocH σ (.siter s 0) with
      | (id, ver, σ') => some ([], .ptr id ver 0, σ')
    | _, _ => none
  | .convert s d x => match aBytes cx.P (inM dst M) s d (ev cx fr x) σ with
    | some (v, σ') => some ([], v, σ')
    | none => match aConv cx.P s d (ev cx fr x) σ with
      | some (C, v) => some (C, v, σ)
      | none => none
  | .call { callee := .builtin .append, args := args, argTypes := ts } => match args.toList, ts.toList with
    | [s, x], [t, u] => aAppend cx.P t u (ev cx fr s) (ev cx fr x) σ
    | _, _ => none
  | .call { callee := .builtin .copy, args := args, argTypes := ts } => match args.toList, ts.toList with
    | [d, s], [t, _] => aCopy cx.P t (ev cx fr d) (ev cx fr s) σ
    | _, _ => none
  | o => match aPure cx o fr σ with
    | some (C, v) => some (C, v, σ)
    | none => none
theorem aOp_run {cx : Cx} {M : List Nat} {r : Rl} {σ σ' : Heap} {w : World} {n : Nat} {fr : Fr} {a : Act} {o : Oper} {C : List Prop} {v : AV} (hi : Inv cx r σ w) (hf : FRel r w n fr a)
    (h : aOp cx M o.dst o.op fr σ = some (C, v, σ')) (hC : AllP C) : OpRes cx r σ w ((execOp a.eval o).run cx.P w) v σ' := by
  have he : ∀ x, VRel r w (a.eval x) (ev cx fr x) := fun x => ev_rel hi hf x
  have hpure : ∀ {C : List Prop} {v : AV}, aPure cx o.op fr σ = some (C, v) → AllP C → OpRes cx r σ w ((execOp a.eval o).run cx.P w) v σ := by
    intro C v h hC
    obtain ⟨v', h1, h2⟩ := aPure_run hi hf h hC
    exact ⟨r, w, v', .inl h1, h2, hi, Ext.refl _ _ _⟩
  have q : ∀ {s : Sem Value} {v : AV} {σ' : Heap}, (∃ v' w' r', s.run cx.P w = .ok v' w' ∧ VRel r' w' v' v ∧ Inv cx r' σ' w' ∧ Ext r σ w r' σ' w') →
      OpRes cx r σ w ((do let x ← s; pure (Next.value x) : Sem Next).run cx.P w) v σ' := by
    rintro s v σ' ⟨v', w', r', h1, h2, h3, h4⟩
    exact ⟨r', w', v', .inl (by simp [h1]), h2, h3, h4⟩
  have hparts : ∀ ps : Array (Nat × Operand), ∀ i (h : i < (ps.toList.map fun p => (p.1, ev cx fr p.2)).length) (h' : i < ((ps.map fun p => (p.1, a.eval p.2)).toList).length),
      ((ps.toList.map fun p => (p.1, ev cx fr p.2))[i]).1 = (((ps.map fun p => (p.1, a.eval p.2)).toList)[i]).1 ∧ VRel r w (((ps.map fun p => (p.1, a.eval p.2)).toList)[i]).2 ((ps.toList.map fun p => (p.1, ev cx fr p.2))[i]).2 := by
    intro ps i h h'
    simp only [Array.toList_map, List.getElem_map]
    exact ⟨by trivial, he _⟩
  obtain ⟨dst, op, ty, pos, after, guard⟩ := o
  simp only at h hpure
  unfold aOp at h
  split at h
  ·
    rename_i e
    split at h
    case h_2 => cases h
    rename_i z hz
    obtain ⟨inf, zv, hinfo, hzv, rfl⟩ := zeroA_some hz
    cases hb : allOne (zv.cells.toList.map cst1) with
    | false => rw [hb] at h; cases h
    | true =>
    rw [hb] at h
    simp only [cond_true] at h
    generalize hal : allocH σ _ = al at h
    obtain ⟨id, ver, σ1⟩ := al
    simp only [Option.some.injEq, Prod.mk.injEq] at h; obtain ⟨rfl, rfl, rfl⟩ := h
    obtain ⟨r', k1, k2, k3, k4, k5⟩ := hi.newCells (c := zv.cells) (t := e) hal (cst1_cells r w zv) (allOne_mem hb) (fun T h => tyS_eq h)
    unfold execOp
    refine q ⟨.pointer (some ⟨w.heap.size, 0, none⟩), _, r', ?_, VRel.ptr (o := 0) (off := 0) k3, k1, k2⟩
    simp [Instr.alloc, run_zeroValue hinfo hzv, newVar, newRow]
  ·
    rename_i e x
    have hx := he x
    cases hb : allOne (ev cx fr x).cells with
    | false => rw [hb] at h; cases h
    | true =>
    rw [hb] at h
    simp only [cond_true] at h
    generalize hal : allocH σ _ = al at h
    obtain ⟨id, ver, σ1⟩ := al
    simp only [Option.some.injEq, Prod.mk.injEq] at h; obtain ⟨rfl, rfl, rfl⟩ := h
    have hone := allOne_mem hb
    have htop : (ev cx fr x).blank = false := AV.blank_of hone
    obtain ⟨h1, h2⟩ := hx.cells htop
    obtain ⟨r', k1, k2, k3, k4, k5⟩ := hi.newCells (c := (a.eval x).cells) (t := e) hal h2 hone (fun T h => tyS_eq h)
    unfold execOp
    refine q ⟨.pointer (some ⟨w.heap.size, 0, none⟩), _, r', ?_, VRel.ptr (o := 0) (off := 0) k3, k1, k2⟩
    simp [Instr.box, newVar, newRow]
  ·
    rename_i t ps
    rw [forceP_eq] at h
    split at h
    case h_2 => cases h
    rename_i u hb
    simp only [Option.some.injEq, Prod.mk.injEq] at h; obtain ⟨rfl, rfl, rfl⟩ := h
    obtain ⟨v', h1, h2⟩ := aBuild_run hb (by simp) (hparts ps)
    unfold execOp
    exact q ⟨v', w, r, h1, h2, hi, Ext.refl _ _ _⟩
  ·
    rename_i t len ps
    rw [forceP_eq] at h
    split at h
    case h_2 => cases h
    rename_i u σ1 hb
    simp only [Option.some.injEq, Prod.mk.injEq] at h; obtain ⟨rfl, rfl, rfl⟩ := h
    unfold execOp
    exact q (aLit_run hi hb (by simp) (hparts ps))
  ·
    rename_i t y x
    split at h
    case h_2 => cases h
    rename_i C1 σ1 hb
    simp only [Option.some.injEq, Prod.mk.injEq] at h; obtain ⟨rfl, rfl, rfl⟩ := h
    obtain ⟨w', r', h1, h2, h3⟩ := aStore_run hi hb hC (he y) (he x)
    refine ⟨r', w', undef, .inr ⟨?_, rfl⟩, .tup rfl (fun i h => absurd h (by simp)), h2, h3⟩
    simp [execOp, h1]
  · unfold execOp
    exact q (aMake_run hi h hC (he _) (he _))
  ·
    rename_i t x
    have hx := he x
    split at h
    case h_2 => cases h
    rename_i s hu hxe
    rw [hxe] at hx
    generalize hal : allocH σ _ = al at h
    obtain ⟨id, ver, σ1⟩ := al
    simp only [Option.some.injEq, Prod.mk.injEq] at h; obtain ⟨rfl, rfl, rfl⟩ := h
    unfold execOp
    refine q ?_
    try simp only
    generalize a.eval x = y at hx ⊢
    cases hx with
    | str hs =>
      rename_i u
      have hn := hi.new (ob := .stringIter u 0) hal (fun g => ⟨rfl, u, hs, heap_alloc_self w _⟩)
      refine ⟨.pointer (some ⟨w.heap.size, 0, none⟩), w.alloc (.stringIter u 0), _, ?_, VRel.ptr (o := 0) (off := 0) (by simp [Rl.bind]), hn.1, hn.2⟩
      simp [Instr.range, run_underlying hu]
  ·
    rename_i s d x
    unfold execOp
    split at h
    · rename_i u σ1 hb
      simp only [Option.some.injEq, Prod.mk.injEq] at h; obtain ⟨rfl, rfl, rfl⟩ := h
      exact q (aBytes_run hi hb (he x))
    · split at h
      case h_2 => cases h
      rename_i C1 u hb
      simp only [Option.some.injEq, Prod.mk.injEq] at h; obtain ⟨rfl, rfl, rfl⟩ := h
      obtain ⟨v', h1, h2⟩ := aConv_run hi hb hC (he x)
      exact q ⟨v', w, r, h1, h2, hi, Ext.refl _ _ _⟩
  ·
    rename_i args ts
    obtain ⟨bs, hbs⟩ := run_len_call cx.P w a.eval .append args ts dst ty pos after guard
    rw [hbs]
    split at h
    · rename_i s x t u hargs hts
      have h1 : args = #[s, x] := by rw [← Array.toArray_toList (xs := args), hargs]
      have h2 : ts = #[t, u] := by rw [← Array.toArray_toList (xs := ts), hts]
      subst h1; subst h2
      simp only [builtin, List.map_toArray, List.map_cons, List.map_nil]
      exact q (aAppend_run hi h hC (he s) (he x))
    · cases h
  ·
    rename_i args ts
    obtain ⟨bs, hbs⟩ := run_len_call cx.P w a.eval .copy args ts dst ty pos after guard
    rw [hbs]
    split at h
    · rename_i s x t u hargs hts
      have h1 : args = #[s, x] := by rw [← Array.toArray_toList (xs := args), hargs]
      have h2 : ts = #[t, u] := by rw [← Array.toArray_toList (xs := ts), hts]
      subst h1; subst h2
      simp only [builtin, List.map_toArray, List.map_cons, List.map_nil]
      exact q (aCopy_run hi h hC (he s) (he x))
    · cases h
  · split at h
    · rename_i C1 u hp
      simp only [Option.some.injEq, Prod.mk.injEq] at h; obtain ⟨rfl, rfl, rfl⟩ := h
      exact hpure hp hC
    · cases h
end Go.Ab
end
