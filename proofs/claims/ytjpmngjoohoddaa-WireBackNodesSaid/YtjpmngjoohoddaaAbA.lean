/-
  Abstract values, abstract heaps, and what it means that they stand for concrete ones.
  Program independent. A slice that nobody writes any more bears its contents; what is still written lies in a box of the abstract heap.
-/
import Derived.Calls
import Derived.Tactics
import Derived.Laws.Sem
import Derived.Laws.World
import Derived.Laws.Cells
import Derived.Laws.Append
import Derived.Laws.AppendOwn
import Derived.Laws.IdiomCopy
set_option linter.unusedVariables false
set_option linter.unusedSimpArgs false
namespace Go.Ab
open Go

inductive AV where
  | top
  | bool (b : Bool)
  | int (k : IntKind) (n : Int)
  | str (s : List UInt8)
  | nilp
  | ptr (id ver off : Nat)
  | eptr (id ver off : Nat)
  | rp (st : Bool) (cs : List AV)
  | nils
  | sl (st fl : Bool) (sz : Nat) (xs : List AV)
  | ms (id ver off len sz : Nat) (full : Bool)
  | nilm
  | map (id ver : Nat)
  | func (fn : Fn) (first captured : List AV)
  | nilf
  | iface (t : TypeId) (v : AV)
  | nili
  | agg (cs : List AV)
  | tup (vs : List AV)
  | mark (vs : List AV)
  deriving Inhabited

/-- Whether a string shares the cells; the type of the block, if it is known. -/
structure Tag where
  ro : Bool
  ty : Option TypeId

/-- What an abstract address stands for. -/
inductive Box where
  | cells (cs : List AV) (g : Tag)
  | map (kvs : List (AV × AV))
  | siter (s : List UInt8) (pos : Nat)

abbrev Heap := List (Nat × Option Box)
abbrev Fr := List (Nat × AV)

def AV.cells : AV → List AV
  | .agg cs => cs
  | v => [v]

def AV.one : AV → Bool
  | .agg _ | .tup _ | .top | .mark _ => false
  | _ => true

def Fr.get : Fr → Nat → AV
  | [], _ => .top
  | (s, v) :: r, t => bif Nat.beq s t then v else Fr.get r t

/-- S: blocks that never turn any more; I: blocks that don't turn as long as this call lasts; ρ: which block, from which cell on, an abstract address is. -/
structure Rl where
  S : Nat → Prop
  I : Nat → Prop
  ρ : Nat → Nat → Option (Nat × Nat)

inductive VRel (r : Rl) (w : World) : Value → AV → Prop
  | top {v} : VRel r w v .top
  | bool {b} : VRel r w (.bool b) (.bool b)
  | int {k n} : VRel r w (.int k n) (.int k n)
  | str {s l} (h : s.data.toList = l) : VRel r w (.string s) (.str l)
  | nilp : VRel r w (.pointer none) .nilp
  | ptr {id ver b o off} (h : r.ρ id ver = some (b, o)) : VRel r w (.pointer (some ⟨b, o + off, none⟩)) (.ptr id ver off)
  | eptr {id ver b o off} (h : r.ρ id ver = some (b, o)) : VRel r w (.pointer (some ⟨b, o + off, none⟩)) (.eptr id ver off)
  | rp {st b o cs} (hI : r.I b) (hS : st = true → r.S b) (f : Nat → Value) (hc : ∀ i, i < cs.length → w.cell? ⟨b, o + i, none⟩ = some (f i))
      (hv : ∀ i (h : i < cs.length), VRel r w (f i) cs[i]) : VRel r w (.pointer (some ⟨b, o, none⟩)) (.rp st cs)
  | nils : VRel r w (.slice none 0 0) .nils
  | sl0 {st fl sz a cap} (hf : fl = true → cap = 0) : VRel r w (.slice a 0 cap) (.sl st fl sz [])
  | sl {st fl sz b o xs n cap} (hn : n = xs.length) (hc0 : n ≤ cap) (hf : fl = true → cap = n) (hI : r.I b) (hS : st = true → r.S b) (hsz : ∀ x ∈ xs, x.cells.length = sz) (f : Nat → Nat → Value)
      (hc : ∀ e, e < xs.length → ∀ j, j < sz → w.cell? ⟨b, o + e * sz + j, none⟩ = some (f e j))
      (hv : ∀ e (he : e < xs.length) j (hj : j < (AV.cells (xs[e]'he)).length), VRel r w (f e j) ((AV.cells (xs[e]'he))[j]'hj)) : VRel r w (.slice (some ⟨b, o, none⟩) n cap) (.sl st fl sz xs)
  | ms0 {id ver off sz full a} : VRel r w (.slice a 0 0) (.ms id ver off 0 sz full)
  | ms {id ver b o off n cap sz full} (h : r.ρ id ver = some (b, o)) (hcap : ∃ c t f, w.heap[b]? = some (.cells c t f) ∧ o + off + cap * sz ≤ c.size) (hn : n ≤ cap)
      (hf : full = true → cap = n) : VRel r w (.slice (some ⟨b, o + off, none⟩) n cap) (.ms id ver off n sz full)
  | nilm : VRel r w (.map none) .nilm
  | map {id ver b o} (h : r.ρ id ver = some (b, o)) : VRel r w (.map (some b)) (.map id ver)
  | func {fn first captured fs bs} (h1 : first.size = fs.length) (hf : ∀ i (h : i < fs.length), VRel r w (first.getD i undef) fs[i])
      (h2 : captured.size = bs.length) (hb : ∀ i (h : i < bs.length), VRel r w (captured.getD i undef) bs[i]) : VRel r w (.func fn first captured) (.func fn fs bs)
  | nilf : VRel r w .nilFunc .nilf
  | iface {t v a} (h : VRel r w v a) : VRel r w (.iface t v) (.iface t a)
  | nili : VRel r w .nilIface .nili
  | agg {cs as} (hn : cs.size = as.length) (h : ∀ i (hi : i < as.length), VRel r w (cs.getD i undef) as[i]) : VRel r w (.agg cs) (.agg as)
  | tup {vs as} (hn : vs.size = as.length) (h : ∀ i (hi : i < as.length), VRel r w (vs.getD i undef) as[i]) : VRel r w (.tuple vs) (.tup as)
  | mark {v vs} : VRel r w v (.mark vs)

/-- What every step keeps, as far as values are concerned. -/
structure Grow (r : Rl) (w : World) (r' : Rl) (w' : World) : Prop where
  S : ∀ b, r.S b → r'.S b
  I : ∀ b, r.I b → r'.I b
  ρ : ∀ id ver p, r.ρ id ver = some p → r'.ρ id ver = some p
  same : ∀ b, r.I b → w'.heap[b]? = w.heap[b]?
  size : ∀ (b : Nat) (c : Array Value) (t : TypeId) (f : Nat × Nat), w.heap[b]? = some (Obj.cells c t f) → ∃ (c' : Array Value) (f' : Nat × Nat), w'.heap[b]? = some (Obj.cells c' t f') ∧ c'.size = c.size

theorem cell_of_same {w w' : World} {b o : Nat} (h : w'.heap[b]? = w.heap[b]?) : w'.cell? ⟨b, o, none⟩ = w.cell? ⟨b, o, none⟩ := by
  simp [World.cell?, h]

theorem VRel.mono {r r' : Rl} {w w' : World} (g : Grow r w r' w') {v : Value} {a : AV} (h : VRel r w v a) : VRel r' w' v a := by
  induction h with
  | top => exact .top
  | bool => exact .bool
  | int => exact .int
  | str h => exact .str h
  | nilp => exact .nilp
  | ptr h => exact .ptr (g.ρ _ _ _ h)
  | eptr h => exact .eptr (g.ρ _ _ _ h)
  | rp hI hS f hc _ ih => exact .rp (g.I _ hI) (fun h => g.S _ (hS h)) f (fun i hi => by rw [cell_of_same (g.same _ hI)]; exact hc i hi) ih
  | nils => exact .nils
  | sl0 h => exact .sl0 h
  | sl hn hc0 hf hI hS hsz f hc _ ih => exact .sl hn hc0 hf (g.I _ hI) (fun h => g.S _ (hS h)) hsz f (fun e he j hj => by rw [cell_of_same (g.same _ hI)]; exact hc e he j hj) ih
  | ms0 => exact .ms0
  | ms h hcap hn hf =>
    obtain ⟨c, t, f, h1, h2⟩ := hcap
    obtain ⟨c', f', h3, h4⟩ := g.size _ _ _ _ h1
    exact .ms (g.ρ _ _ _ h) ⟨c', t, f', h3, by omega⟩ hn hf
  | nilm => exact .nilm
  | map h => exact .map (g.ρ _ _ _ h)
  | func h1 _ h2 _ ih1 ih2 => exact .func h1 ih1 h2 ih2
  | nilf => exact .nilf
  | iface _ ih => exact .iface ih
  | nili => exact .nili
  | agg hn _ ih => exact .agg hn ih
  | tup hn _ ih => exact .tup hn ih
  | mark => exact .mark

theorem VRel.one {r : Rl} {w : World} {v : Value} {a : AV} (h : VRel r w v a) (ha : a.one = true) : v.oneCell' = true := by
  cases h <;> first | rfl | simp [AV.one] at ha

/-- What lies at a block, from a cell on, is what the box says. -/
def BoxRel (r : Rl) (w : World) (b o : Nat) : Box → Prop
  | .cells cs ro => ∃ c t lo hi, w.heap[b]? = some (.cells c t (lo, hi)) ∧ (∀ i (h : i < cs.length), ∃ v, c[o + i]? = some v ∧ VRel r w v cs[i]) ∧
      (∀ x ∈ cs, x.one = true) ∧ (∀ i, lo ≤ i → i < hi → i < c.size → ro.ro = true ∧ i < o + cs.length) ∧ (∀ T, ro.ty = some T → t = T ∧ o = 0)
  | .map kvs => o = 0 ∧ ∃ es clock, w.heap[b]? = some (.map es clock) ∧ es.size = kvs.length ∧
      (∀ i (h : i < kvs.length), ∃ e, es[i]? = some e ∧ VRel r w e.key kvs[i].1 ∧ VRel r w e.val kvs[i].2) ∧
      (∀ (i j : Nat) (e f : MapEntry), es[i]? = some e → es[j]? = some f → e.born = f.born → i = j) ∧ (∀ (i : Nat) (e : MapEntry), es[i]? = some e → e.born < clock)
  | .siter s pos => o = 0 ∧ ∃ bs : ByteArray, bs.data.toList = s ∧ w.heap[b]? = some (.stringIter bs pos)

theorem BoxRel.mono {r r' : Rl} {w w' : World} {b o : Nat} {x : Box} (g : Grow r w r' w') (hb : w'.heap[b]? = w.heap[b]?) (h : BoxRel r w b o x) : BoxRel r' w' b o x := by
  cases x with
  | cells cs ro =>
    obtain ⟨c, t, lo, hi, h1, h2, h3, h4⟩ := h
    refine ⟨c, t, lo, hi, by rw [hb, h1], fun i hi => ?_, h3, h4⟩
    obtain ⟨v, hv, hr⟩ := h2 i hi
    exact ⟨v, hv, hr.mono g⟩
  | map kvs =>
    obtain ⟨h0, es, clock, h1, h2, h3, h4⟩ := h
    refine ⟨h0, es, clock, by rw [hb, h1], h2, fun i hi => ?_, h4⟩
    obtain ⟨e, he, hk, hv⟩ := h3 i hi
    exact ⟨e, he, hk.mono g, hv.mono g⟩
  | siter s pos =>
    obtain ⟨h0, bs, h1, h2⟩ := h
    exact ⟨h0, bs, h1, by rw [hb, h2]⟩

/-- The context: the program, and what its package-level variables hold. -/
structure Cx where
  P : Program
  G : Nat → Option (List AV)

def Live (r : Rl) (σ : Heap) (b : Nat) : Prop := ∃ (id ver : Nat) (x : Box) (o : Nat), σ[id]? = some (ver, some x) ∧ r.ρ id ver = some (b, o)

structure Inv (cx : Cx) (r : Rl) (σ : Heap) (w : World) : Prop where
  box : ∀ (id ver : Nat) x, σ[id]? = some (ver, some x) → (∃ b o, r.ρ id ver = some (b, o) ∧ BoxRel r w b o x) ∨ (r.ρ id ver = none ∧ ∃ ro, x = .cells [] ro)
  lt : ∀ (id ver : Nat) b o, r.ρ id ver = some (b, o) → (∃ cur x, σ[id]? = some (cur, x) ∧ ver ≤ cur) ∧ b < w.heap.size
  inj : ∀ (id id' ver ver' : Nat) x x' b o o', σ[id]? = some (ver, some x) → σ[id']? = some (ver', some x') → r.ρ id ver = some (b, o) → r.ρ id' ver' = some (b, o') → id = id'
  imm : ∀ b, Live r σ b → ¬ r.I b
  Ilt : ∀ b, r.I b → b < w.heap.size
  SI : ∀ b, r.S b → r.I b
  glob : ∀ g cs, cx.G g = some cs → r.S g ∧ ∀ i (h : i < cs.length), ∃ v, w.cell? ⟨g, i, none⟩ = some v ∧ ∀ r' w', VRel r' w' v cs[i]

structure Ext (r : Rl) (σ : Heap) (w : World) (r' : Rl) (σ' : Heap) (w' : World) : Prop where
  S : ∀ b, r.S b → r'.S b
  I : ∀ b, r.I b → r'.I b
  Sf : ∀ b, r'.S b → r.S b ∨ w.heap.size ≤ b
  If : ∀ b, r'.I b → r.I b ∨ Live r σ b ∨ w.heap.size ≤ b
  ρ : ∀ id ver p, r.ρ id ver = some p → r'.ρ id ver = some p
  hs : w.heap.size ≤ w'.heap.size
  σl : σ.length ≤ σ'.length
  same : ∀ b, b < w.heap.size → ¬ Live r σ b → w'.heap[b]? = w.heap[b]?
  liv : ∀ b, Live r' σ' b → Live r σ b ∨ w.heap.size ≤ b
  size : ∀ (b : Nat) (c : Array Value) (t : TypeId) (f : Nat × Nat), w.heap[b]? = some (Obj.cells c t f) → ∃ (c' : Array Value) (f' : Nat × Nat), w'.heap[b]? = some (Obj.cells c' t f') ∧ c'.size = c.size
  os : w'.os = w.os
  output : w'.output = w.output
  tape : w'.tape = w.tape

theorem Ext.refl (r : Rl) (σ : Heap) (w : World) : Ext r σ w r σ w :=
  ⟨fun _ h => h, fun _ h => h, fun _ h => .inl h, fun _ h => .inl h, fun _ _ _ h => h, Nat.le_refl _, Nat.le_refl _, fun _ _ _ => rfl, fun _ h => .inl h,
    fun _ c _ f h => ⟨c, f, h, rfl⟩, rfl, rfl, rfl⟩

theorem Ext.grow {cx : Cx} {r r' : Rl} {σ σ' : Heap} {w w' : World} (hi : Inv cx r σ w) (h : Ext r σ w r' σ' w') : Grow r w r' w' :=
  ⟨h.S, h.I, h.ρ, fun b hb => h.same b (hi.Ilt b hb) (fun hl => hi.imm b hl hb), h.size⟩

theorem Ext.trans {r₀ r₁ r₂ : Rl} {σ₀ σ₁ σ₂ : Heap} {w₀ w₁ w₂ : World} (h : Ext r₀ σ₀ w₀ r₁ σ₁ w₁) (k : Ext r₁ σ₁ w₁ r₂ σ₂ w₂) : Ext r₀ σ₀ w₀ r₂ σ₂ w₂ where
  S b hb := k.S b (h.S b hb)
  I b hb := k.I b (h.I b hb)
  Sf b hb := by
    rcases k.Sf b hb with h1 | h1
    · exact h.Sf b h1
    · exact .inr (Nat.le_trans h.hs h1)
  If b hb := by
    rcases k.If b hb with h1 | h1 | h1
    · exact h.If b h1
    · exact .inr (h.liv b h1)
    · exact .inr (.inr (Nat.le_trans h.hs h1))
  ρ id ver p hp := k.ρ id ver p (h.ρ id ver p hp)
  hs := Nat.le_trans h.hs k.hs
  σl := Nat.le_trans h.σl k.σl
  same b hb hl := by
    have h1 : ¬ Live r₁ σ₁ b := fun hl' => by
      rcases h.liv b hl' with h2 | h2
      · exact hl h2
      · omega
    rw [k.same b (Nat.lt_of_lt_of_le hb h.hs) h1, h.same b hb hl]
  liv b hb := by
    rcases k.liv b hb with h1 | h1
    · exact h.liv b h1
    · exact .inr (Nat.le_trans h.hs h1)
  size b c t f hb := by
    obtain ⟨c', f', h1, h2⟩ := h.size b c t f hb
    obtain ⟨c'', f'', h3, h4⟩ := k.size b c' t f' h1
    exact ⟨c'', f'', h3, by omega⟩
  os := k.os.trans h.os
  output := k.output.trans h.output
  tape := k.tape.trans h.tape

/-- The deferred calls: function values, the last one first. -/
def DRel (r : Rl) (w : World) (ds : List Deferred) (vs : List AV) : Prop :=
  ds.length = vs.length ∧ ∀ i (h : i < ds.length) (h' : i < vs.length), ∃ fv cap, (ds[i]).target = .fn fv cap ∧ VRel r w (.func fv (ds[i]).args cap) vs[i]

theorem DRel.mono {r r' : Rl} {w w' : World} (g : Grow r w r' w') {ds : List Deferred} {vs : List AV} (h : DRel r w ds vs) : DRel r' w' ds vs :=
  ⟨h.1, fun i h1 h2 => let ⟨fv, cap, e, v⟩ := h.2 i h1 h2; ⟨fv, cap, e, v.mono g⟩⟩

/-- A frame: n slots, of which the abstract one says something; behind the last one it may bear a mark with the deferred calls. -/
structure FRel (r : Rl) (w : World) (n : Nat) (fr : Fr) (a : Act) : Prop where
  size : a.tmps.size = n
  get : ∀ t, VRel r w (a.tmps.getD t undef) (fr.get t)
  defs : ∀ vs, fr.get n = .mark vs → DRel r w a.defers vs

theorem FRel.mono {r r' : Rl} {w w' : World} {n : Nat} {fr : Fr} {a : Act} (g : Grow r w r' w') (h : FRel r w n fr a) : FRel r' w' n fr a :=
  ⟨h.size, fun t => (h.get t).mono g, fun vs hv => (h.defs vs hv).mono g⟩

theorem getD_setIfInBounds {tmps : Array Value} {d t : Nat} {v : Value} (h : d < tmps.size) : (tmps.setIfInBounds d v).getD t undef = if d = t then v else tmps.getD t undef := by
  simp only [Array.getD_eq_getD_getElem?, Array.getElem?_setIfInBounds]
  split
  · rename_i h1; subst h1; simp [h]
  · rfl

theorem Fr.get_cons (s : Nat) (v : AV) (fr : Fr) (t : Nat) : Fr.get ((s, v) :: fr) t = if s = t then v else Fr.get fr t := by
  simp only [Fr.get]
  by_cases h : s = t
  · subst h; simp
  · have : Nat.beq s t = false := by
      cases hb : Nat.beq s t
      · rfl
      · exact absurd (Nat.eq_of_beq_eq_true hb) h
    simp [this, h]

theorem FRel.set {r : Rl} {w : World} {n : Nat} {fr : Fr} {a : Act} {d : Nat} {v : Value} {x : AV} (h : FRel r w n fr a) (hd : d < n) (hv : VRel r w v x) :
    FRel r w n ((d, x) :: fr) (a.put (some d) v) := by
  refine ⟨by simp [Act.put, h.size], fun t => ?_, fun vs hm => ?_⟩
  · simp only [Act.put]
    rw [getD_setIfInBounds (by rw [h.size]; exact hd), Fr.get_cons]
    split
    · exact hv
    · exact h.get t
  · rw [Fr.get_cons, if_neg (by omega)] at hm
    exact h.defs vs hm

/-- fr' says no more than fr. -/
def Weak (fr fr' : Fr) : Prop := ∀ t, fr'.get t = .top ∨ fr'.get t = fr.get t

theorem FRel.weak {r : Rl} {w : World} {n : Nat} {fr fr' : Fr} {a : Act} (h : FRel r w n fr a) (hw : Weak fr fr') : FRel r w n fr' a :=
  ⟨h.size, fun t => by rcases hw t with h1 | h1 <;> rw [h1]; exact .top; exact h.get t, fun vs hv => by rcases hw n with h1 | h1 <;> rw [h1] at hv; cases hv; exact h.defs vs hv⟩

end Go.Ab
