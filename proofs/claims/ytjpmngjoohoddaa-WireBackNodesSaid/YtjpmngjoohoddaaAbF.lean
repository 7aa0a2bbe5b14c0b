/-
  All operations that only read, in one function, and its soundness.
-/
import Derived.Test.YtjpmngjoohoddaaAbE
import Derived.Laws.StructEq
import Derived.Lib.MinMax
set_option linter.unusedVariables false
set_option linter.unusedSimpArgs false
namespace Go.Ab
open Go

def notIface (P : Program) (t : TypeId) : Bool :=
  match P.underlying t with
  | some (.interface _) => false
  | some _ => true
  | none => false

def fieldOf (P : Program) (s : TypeId) (f : Nat) : Option (Nat × TypeId) :=
  match P.underlying s with
  | some (.struct fs) => match fs[f]? with
    | some f => some (f.offset, f.type)
    | none => none
  | _ => none

theorem fieldOf_some {P : Program} {s : TypeId} {f o : Nat} {t : TypeId} (h : fieldOf P s f = some (o, t)) :
    ∃ fs g, P.underlying s = some (.struct fs) ∧ fs[f]? = some g ∧ g.offset = o ∧ g.type = t := by
  unfold fieldOf at h
  split at h
  · rename_i fs hu
    split at h
    · rename_i g hg
      simp only [Option.some.injEq, Prod.mk.injEq] at h
      exact ⟨fs, g, hu, hg, h.1, h.2⟩
    · cases h
  · cases h

def aLen (P : Program) (t : TypeId) (x : AV) (σ : Heap) : Option (List Prop × AV) :=
  match P.underlying t, x with
  | some .string, .str s => some ([], .int .i64 s.length)
  | some (.slice _), .nils => some ([], .int .i64 0)
  | some (.slice _), .sl _ _ _ xs => some ([], .int .i64 xs.length)
  | some (.slice _), .ms _ _ _ len _ _ => some ([], .int .i64 len)
  | some (.array n _), _ => some ([], .int .i64 n)
  | some (.map ..), .nilm => some ([], .int .i64 0)
  | some (.map ..), .map id ver => match σ[id]? with
    | some (cur, some (.map kvs)) => some ([ver = cur], .int .i64 kvs.length)
    | _ => none
  | _, _ => none

theorem slice_len {r : Rl} {w : World} {a : Option Addr} {n cap : Nat} {st fl : Bool} {sz : Nat} {xs : List AV} (h : VRel r w (.slice a n cap) (.sl st fl sz xs)) : n = xs.length := by
  cases h with
  | sl0 => rfl
  | sl hn => exact hn

theorem aLen_run {cx : Cx} {r : Rl} {σ : Heap} {w : World} {t ty : TypeId} {x : Value} {x' v : AV} {C : List Prop} (hi : Inv cx r σ w) (h : aLen cx.P t x' σ = some (C, v)) (hC : AllP C)
    (hx : VRel r w x x') : ∃ v', (Builtin.len_ #[t] ty #[x]).run cx.P w = .ok v' w ∧ VRel r w v' v := by
  unfold aLen at h
  split at h
  · rename_i hu
    simp only [Option.some.injEq, Prod.mk.injEq] at h; obtain ⟨rfl, rfl⟩ := h
    cases hx with
    | str hs =>
      rename_i s
      subst hs
      refine ⟨.int .i64 s.size, by simp [Builtin.len_, run_underlying hu, goInt], ?_⟩
      rw [show s.size = s.data.toList.length by rw [Array.length_toList]; rfl]
      exact .int
  · rename_i hu
    simp only [Option.some.injEq, Prod.mk.injEq] at h; obtain ⟨rfl, rfl⟩ := h
    cases hx
    exact ⟨.int .i64 0, by simp [Builtin.len_, run_underlying hu, goInt], .int⟩
  · rename_i hu
    simp only [Option.some.injEq, Prod.mk.injEq] at h; obtain ⟨rfl, rfl⟩ := h
    cases x with
    | slice a n cap =>
      have := slice_len hx
      subst this
      exact ⟨_, by simp [Builtin.len_, run_underlying hu, goInt], .int⟩
    | _ => cases hx
  · rename_i hu
    simp only [Option.some.injEq, Prod.mk.injEq] at h; obtain ⟨rfl, rfl⟩ := h
    cases hx with
    | ms0 => exact ⟨.int .i64 0, by simp [Builtin.len_, run_underlying hu, goInt], .int⟩
    | ms => exact ⟨_, by simp [Builtin.len_, run_underlying hu, goInt], .int⟩
  · rename_i hu
    simp only [Option.some.injEq, Prod.mk.injEq] at h; obtain ⟨rfl, rfl⟩ := h
    exact ⟨_, by simp [Builtin.len_, run_underlying hu, goInt], .int⟩
  · rename_i hu
    simp only [Option.some.injEq, Prod.mk.injEq] at h; obtain ⟨rfl, rfl⟩ := h
    cases hx
    exact ⟨.int .i64 0, by simp [Builtin.len_, run_underlying hu, goInt], .int⟩
  · rename_i hu
    split at h
    · rename_i cur kvs hb
      simp only [Option.some.injEq, Prod.mk.injEq] at h; obtain ⟨rfl, rfl⟩ := h
      obtain ⟨hv, _⟩ := hC
      subst hv
      cases hx with
      | map hρ =>
        rcases hi.box _ _ _ hb with ⟨b', o', h1, h2⟩ | ⟨h1, _⟩
        · rw [hρ] at h1
          simp only [Option.some.injEq, Prod.mk.injEq] at h1
          obtain ⟨rfl, rfl⟩ := h1
          obtain ⟨h0, es, clock, h3, h4, _⟩ := h2
          refine ⟨.int .i64 es.size, by simp [Builtin.len_, run_underlying hu, goInt, getObj, Sem.run, h3], ?_⟩
          rw [h4]; exact .int
        · rw [hρ] at h1; cases h1
    · cases h
  · cases h

/-- '==' of two values of one cell. -/
def eqOne (P : Program) (t : TypeId) : AV → AV → Option Bool
  | .int k a, .int k' b => match P.underlying t with
    | some (.int _) => match kindEq k k' with | true => some (a == b) | false => none
    | _ => none
  | .str a, .str b => match P.underlying t with
    | some .string => some (a == b)
    | _ => none
  | .bool a, .bool b => match P.underlying t with
    | some .bool => some (a == b)
    | _ => none
  | _, _ => none

def eqFs (P : Program) : List Field → List AV → List AV → Option Bool
  | [], _, _ => some true
  | f :: r, xs, ys => match aLoad P f.type (xs.drop f.offset), aLoad P f.type (ys.drop f.offset) with
    | some a, some b => match eqOne P f.type a b with
      | some c => match eqFs P r xs ys with
        | some d => some (c && d)
        | none => none
      | none => none
    | _, _ => none

/-- A struct type whose values may be compared part by part. -/
def cmpOk (P : Program) (t : TypeId) : Bool :=
  match P.underlying t with
  | some (.struct fs) => !(P.stoodInHeld t) && !(P.eqGuardType P.depth t) && fs.toList.all (fun f => f.name != "_")
  | _ => false

def eqSt (P : Program) (op : BinOp) (t : TypeId) (xs ys : List AV) : Option (List Prop × AV) :=
  match P.underlying t with
  | some (.struct fs) => match eqFs P fs.toList xs ys with
    | some b => match op with
      | .eql => some ([cmpOk P t = true], .bool b)
      | .neq => some ([cmpOk P t = true], .bool !b)
      | _ => none
    | none => none
  | _ => none

def aBin2 (P : Program) (op : BinOp) (t : TypeId) (x y : AV) : Option (List Prop × AV) :=
  match x, y with
  | .agg xs, .agg ys => eqSt P op t xs ys
  | x, y => aBin P op t x y

theorem eqOne_run {P : Program} {r : Rl} {w : World} {t : TypeId} {x y : Value} {a b : AV} {c : Bool} (d : Nat) (h : eqOne P t a b = some c) (hx : VRel r w x a) (hy : VRel r w y b) : (Op.equalIn (d + 1) t x y).run P w = .ok c w := by
  unfold eqOne at h
  split at h
  · split at h
    · rename_i ht
      split at h
      · rename_i hk
        have := kindEq_eq hk
        subst this
        cases h; cases hx; cases hy
        simp [Op.equalIn, run_underlying ht]
      · cases h
    · cases h
  · split at h
    · rename_i ht
      cases h
      cases hx with
      | str h1 =>
        cases hy with
        | str h2 =>
          subst h1; subst h2
          rw [run_equalIn_string w d t _ _ ht, list_beq_toList]
    · cases h
  · split at h
    · rename_i ht
      cases h; cases hx; cases hy
      simp [Op.equalIn, run_underlying ht]
    · cases h
  · cases h

/-- The zero of a type. -/
def zeroV (P : Program) (t : TypeId) : Option AV :=
  match P.info? t with
  | some i => match i.zero with
    | some z => some (cst z)
    | none => none
  | none => none

theorem zeroV_run {P : Program} {t : TypeId} {v : AV} (h : zeroV P t = some v) (r : Rl) (w : World) : ∃ z, (zeroValue t).run P w = .ok z w ∧ VRel r w z v := by
  unfold zeroV at h
  split at h
  case h_2 => cases h
  rename_i i hi
  split at h
  case h_2 => cases h
  rename_i z hz
  cases h
  refine ⟨z, ?_, cst_rel r w z⟩
  simp [zeroValue, typeInfo, hi, hz]

/-- All operations that only read. -/
def aPure (cx : Cx) (o : Op) (fr : Fr) (σ : Heap) : Option (List Prop × AV) :=
  match o with
  | .move x => some ([], ev cx fr x)
  | .assign x => some ([], ev cx fr x)
  | .pick c a b => match ev cx fr c with
    | .bool t => match t with
      | true => some ([], ev cx fr a)
      | false => some ([], ev cx fr b)
    | _ => none
  | .load t a => match ev cx fr a with
    | .ptr id ver off => match boxAt σ id with
      | some (cur, cs, _) => match aLoad cx.P t (cs.drop off) with
        | some v => some ([ver = cur], v)
        | none => none
      | none => none
    | .rp _ cs => match aLoad cx.P t cs with
      | some v => some ([], v)
      | none => none
    | _ => none
  | .nilCheck x => match ev cx fr x with
    | .ptr id ver off => some ([], .ptr id ver off)
    | .eptr id ver off => some ([], .eptr id ver off)
    | .rp st cs => some ([], .rp st cs)
    | _ => none
  | .binOp op t x y _ => aBin2 cx.P op t (ev cx fr x) (ev cx fr y)
  | .unOp op _ x => match aUn op (ev cx fr x) with
    | some v => some ([], v)
    | none => none
  | .convert s d x => aConv cx.P s d (ev cx fr x) σ
  | .makeInterface t x => bif notIface cx.P t then some ([], .iface t (ev cx fr x)) else none
  | .makeFunc fn first captured => some ([], .func fn (first.toList.map (ev cx fr)) (captured.toList.map (ev cx fr)))
  | .slice t x lo hi mx => aSlice cx.P t (ev cx fr x) (lo.map (ev cx fr)) (hi.map (ev cx fr)) (mx.map (ev cx fr)) σ
  | .fieldAddr s x f => match fieldOf cx.P s f with
    | some (off, t) => match szOf cx.P t with
      | some n => bif Nat.beq n 0 then none else match ev cx fr x with
        | .ptr id ver o => some ([], .ptr id ver (o + off))
        | .eptr id ver o => some ([], .eptr id ver (o + off))
        | .rp st cs => some ([], .rp st (cs.drop off))
        | _ => none
      | none => none
    | none => none
  | .field s x f => match fieldOf cx.P s f with
    | some (off, t) => match ev cx fr x with
      | .agg cs => match aLoad cx.P t (cs.drop off) with
        | some v => some ([], v)
        | none => none
      | _ => none
    | none => none
  | .index t x i => match cx.P.underlying t, ev cx fr x, ev cx fr i with
    | some .string, .str s, .int _ n => some ([0 ≤ n, n < s.length], .int .u8 ((s.getD n.toNat 0).toNat))
    | _, _, _ => none
  | .typeAssert x _ t ok => match ev cx fr x with
    | .iface u v => match notIface cx.P t with
      | true => match Nat.beq u t with
        | true => some ([], bif ok then .tup [v, .bool true] else v)
        | false => match ok, zeroV cx.P t with
          | true, some z => some ([], .tup [z, .bool false])
          | _, _ => none
      | false => none
    | .nili => match notIface cx.P t with
      | true => match ok, zeroV cx.P t with
        | true, some z => some ([], .tup [z, .bool false])
        | _, _ => none
      | false => none
    | _ => none
  | .extract x i => match ev cx fr x with
    | .tup vs => match vs[i]? with
      | some v => some ([], v)
      | none => none
    | _ => none
  | .call { callee := .builtin .len, args := args, argTypes := ts } => match args.toList, ts.toList with
    | [x], [t] => aLen cx.P t (ev cx fr x) σ
    | _, _ => none
  | .call { callee := .builtin .unsafeSliceData, args := args, .. } => match args.toList with
    | [x] => match ev cx fr x with
      | .ms id ver off len _ _ => some ([0 < len], .eptr id ver off)
      | .nils => some ([], .nilp)
      | _ => none
    | _ => none
  | .call { callee := .builtin .min, args := args, .. } => match args.toList with
    | [x, y] => match ev cx fr x, ev cx fr y with
      | .int k a, .int _ b => some ([], .int k (min a b))
      | _, _ => none
    | _ => none
  | .call { callee := .builtin .max, args := args, .. } => match args.toList with
    | [x, y] => match ev cx fr x, ev cx fr y with
      | .int k a, .int _ b => some ([], .int k (max a b))
      | _, _ => none
    | [x, y, z] => match ev cx fr x, ev cx fr y, ev cx fr z with
      | .int k a, .int _ b, .int _ c => some ([], .int k (max (max a b) c))
      | _, _, _ => none
    | _ => none
  | _ => none

theorem getD_of_lt {α : Type} (cs : Array α) (i : Nat) (d : α) (h : i < cs.size) : cs.getD i d = cs[i] := by simp [Array.getD, h]

theorem agg_getElem? {r : Rl} {w : World} {cs : Array Value} {as : List AV} (h : VRel r w (.agg cs) (.agg as)) (i : Nat) (hi : i < as.length) : ∃ v, cs[i]? = some v ∧ VRel r w v as[i] := by
  cases h with
  | agg hn h =>
    have h1 := h i hi
    have h2 : i < cs.size := by omega
    exact ⟨cs[i], by simp [h2], by rw [getD_of_lt _ _ _ h2] at h1; exact h1⟩

theorem tup_getElem? {r : Rl} {w : World} {cs : Array Value} {as : List AV} (h : VRel r w (.tuple cs) (.tup as)) (i : Nat) (v : AV) (hv : as[i]? = some v) : ∃ v', cs[i]? = some v' ∧ VRel r w v' v := by
  cases h with
  | tup hn h =>
    have hi : i < as.length := by
      rcases Nat.lt_or_ge i as.length with h' | h'
      · exact h'
      · rw [List.getElem?_eq_none h'] at hv; cases hv
    have h1 := h i hi
    have h2 : i < cs.size := by omega
    refine ⟨cs[i], by simp [h2], ?_⟩
    rw [getD_of_lt _ _ _ h2] at h1
    rw [List.getElem?_eq_getElem hi] at hv
    cases hv; exact h1

theorem part_run {P : Program} {r : Rl} {w : World} {cs : Array Value} {as : List AV} {t : TypeId} {off : Nat} {v : AV} (h : VRel r w (.agg cs) (.agg as)) (hv : aLoad P t (as.drop off) = some v) :
    ∃ v', (part t cs off).run P w = .ok v' w ∧ VRel r w v' v := by
  have hsz : cs.size = as.length := by cases h; assumption
  unfold aLoad at hv
  split at hv
  · rename_i ha
    split at hv
    · rename_i n hn
      cases hb : Nat.ble n (as.drop off).length with
      | true =>
        simp only [hb, cond_true, Option.some.injEq] at hv
        subst hv
        have hle := Nat.le_of_ble_eq_true hb
        simp only [List.length_drop] at hle
        refine ⟨.agg (cs.extract off (off + n)), by simp [part, run_isAgg ha, run_sizeOf' hn], .agg ?_ (fun i hi => ?_)⟩
        · simp; omega
        · simp only [List.length_take, List.length_drop] at hi
          obtain ⟨u, h1, h2⟩ := agg_getElem? h (off + i) (by omega)
          have h3 : (cs.extract off (off + n)).getD i undef = u := by
            have h4 : off + i < cs.size := by omega
            have h5 : i < (cs.extract off (off + n)).size := by simp; omega
            rw [getD_of_lt _ _ _ h5]
            simp only [Array.getElem_extract]
            rw [Array.getElem?_eq_getElem h4] at h1
            exact Option.some.inj h1
          rw [h3]
          simpa using h2
      | false => rw [hb] at hv; cases hv
    · cases hv
  · rename_i ha
    split at hv
    · rename_i v0 r0 hd
      simp only [Option.some.injEq] at hv
      subst hv
      have hlt : off < as.length := by
        rcases Nat.lt_or_ge off as.length with h' | h'
        · exact h'
        · rw [List.drop_eq_nil_of_le h'] at hd; cases hd
      obtain ⟨u, h1, h2⟩ := agg_getElem? h off hlt
      have : as[off] = v0 := by
        rw [List.drop_eq_getElem_cons hlt] at hd
        exact (List.cons.inj hd).1
      rw [this] at h2
      exact ⟨u, by simp [part, run_isAgg ha, h1], h2⟩
    · cases hv
  · cases hv

theorem exec_v {P : Program} {w : World} {s : Sem Value} {v : Value} (h : s.run P w = .ok v w) : (do let x ← s; pure (Next.value x) : Sem Next).run P w = .ok (.value v) w := by
  simp [h]

theorem run_eq_guarded {P : Program} {w : World} {r : Rl} {t : TypeId} {X Y : Operand} {x y : Value} {x' y' : AV} {C : List Prop} {b : Bool}
    (h : aEq P t x' y' = some (C, b)) (hC : AllP C) (hx : VRel r w x x') (hy : VRel r w y y') :
    (do eqGuard .eql t X Y x y; binOp .eql t x y : Sem Value).run P w = .ok (.bool b) w ∧ (do eqGuard .neq t X Y x y; binOp .neq t x y : Sem Value).run P w = .ok (.bool !b) w := by
  have h1 := run_equal P w r t x y x' y' C b h hC hx hy
  have h2 : (eqGuard .eql t X Y x y = pure () ∧ eqGuard .neq t X Y x y = pure ()) ∧
      binOp .eql t x y = (do pure (.bool (← Op.equal t x y))) ∧ binOp .neq t x y = (do pure (.bool (!(← Op.equal t x y)))) := by
    unfold aEq at h
    split at h <;> try (cases h; done)
    all_goals (cases hx; cases hy; exact ⟨⟨rfl, rfl⟩, rfl, rfl⟩)
  obtain ⟨⟨h3, h4⟩, h5, h6⟩ := h2
  constructor
  · rw [h3, h5]; simp [h1]
  · rw [h4, h6]; simp [h1]

theorem run_len_call (P : Program) (w : World) (ρ : Operand → Value) (b : Builtin) (args : Array Operand) (ts : Array TypeId) (dst : Option Tmp) (ty : TypeId) (pos : String) (after : Array Edge) (guard : Option (Nat × Bool)) :
    ∃ cs, (execOp ρ ⟨dst, .call ⟨.builtin b, args, ts⟩, ty, pos, after, guard⟩).run P w = (builtin b ts ty cs (args.map ρ)).run P w := by
  refine ⟨args.map fun | .const _ => true | _ => false, ?_⟩
  simp only [execOp, resolve, invoke, Sem.run_bind, Sem.run_pure, Result.andThen_ok]
  rfl

theorem notIface_run {P : Program} {t : TypeId} (h : notIface P t = true) : ∃ d, P.underlying t = some d ∧ ∀ ms, d ≠ .interface ms := by
  unfold notIface at h
  split at h
  · cases h
  · rename_i d hn hu; exact ⟨d, hu, hn⟩
  · cases h

theorem eqFs_run {P : Program} {r : Rl} {w : World} {xs ys : Array Value} {as bs : List AV} (d : Nat) (hx : VRel r w (.agg xs) (.agg as)) (hy : VRel r w (.agg ys) (.agg bs)) : ∀ (fs : List Field) {c : Bool}, eqFs P fs as bs = some c → (∀ f ∈ fs, f.name ≠ "_") →
    (Op.eqFields (d + 1) xs ys fs).run P w = .ok c w
  | [], c, h, _ => by
    cases h
    simp [Op.eqFields]
  | f :: fs, c, h, hn => by
    rw [eqFs] at h
    split at h
    case h_2 => cases h
    rename_i a b ha hb
    split at h
    case h_2 => cases h
    rename_i c1 h1
    split at h
    case h_2 => cases h
    rename_i c2 h2
    cases h
    obtain ⟨va, k1, k2⟩ := part_run hx ha
    obtain ⟨vb, k3, k4⟩ := part_run hy hb
    have k5 := eqOne_run d h1 k2 k4
    have ih := eqFs_run d hx hy fs h2 (fun f hf => hn f (List.mem_cons_of_mem _ hf))
    rw [Op.eqFields, if_pos (hn f (List.mem_cons_self ..))]
    simp only [Sem.run_bind, k1, k3, k5, Result.andThen_ok]
    cases c1
    · simp
    · simp [ih]

theorem eqSt_run {P : Program} {r : Rl} {w : World} {op : BinOp} {t : TypeId} {X Y : Operand} {x y : Value} {as bs : List AV} {C : List Prop} {v : AV} (h : eqSt P op t as bs = some (C, v)) (hC : AllP C) (hx : VRel r w x (.agg as)) (hy : VRel r w y (.agg bs)) :
    ∃ v', (do eqGuard op t X Y x y; binOp op t x y : Sem Value).run P w = .ok v' w ∧ VRel r w v' v := by
  unfold eqSt at h
  split at h
  case h_2 => cases h
  rename_i fs ht
  split at h
  case h_2 => cases h
  rename_i b hb
  have hfo : P.fieldsOf t = fs := by simp [Program.fieldsOf, ht]
  have hxa : ∃ xs, x = .agg xs := by cases hx; exact ⟨_, rfl⟩
  have hya : ∃ xs, y = .agg xs := by cases hy; exact ⟨_, rfl⟩
  obtain ⟨xs, rfl⟩ := hxa
  obtain ⟨ys, rfl⟩ := hya
  have main : cmpOk P t = true → (Op.equal t (.agg xs) (.agg ys)).run P w = .ok b w ∧ (P.eqGuardType P.depth t) = false := by
    intro hc
    unfold cmpOk at hc
    rw [ht] at hc
    simp only [Bool.and_eq_true, Bool.not_eq_true', List.all_eq_true, bne_iff_ne] at hc
    refine ⟨?_, hc.1.2⟩
    show (Op.equalIn (9998 + 1 + 1) t _ _).run P w = _
    rw [run_equalIn_struct w (9998 + 1) t xs ys (by rw [hfo]; exact ht) hc.1.1, hfo]
    exact eqFs_run 9998 hx hy fs.toList hb hc.2
  split at h
  · cases h
    obtain ⟨h1, h2⟩ := main hC.1
    refine ⟨.bool b, ?_, .bool⟩
    simp [eqGuard, h2, binOp, h1]
  · cases h
    obtain ⟨h1, h2⟩ := main hC.1
    refine ⟨.bool !b, ?_, .bool⟩
    simp [eqGuard, h2, binOp, h1]
  · cases h

theorem run_max3 {P : Program} (w : World) (ts : Array TypeId) (t : TypeId) (k k' k'' : IntKind) (x y z : Int) :
    (Builtin.max_ ts t #[.int k x, .int k' y, .int k'' z]).run P w = .ok (.int k (max (max x y) z)) w := by
  have e : ∀ x y : Int, (if y > x then y else x) = max x y := by
    intro x y
    rw [Int.max_def]
    split <;> split <;> omega
  simp [Builtin.max_, Builtin.max2, e]

theorem aPure_run {cx : Cx} {r : Rl} {σ : Heap} {w : World} {n : Nat} {fr : Fr} {a : Act} {o : Oper} {C : List Prop} {v : AV} (hi : Inv cx r σ w) (hf : FRel r w n fr a)
    (h : aPure cx o.op fr σ = some (C, v)) (hC : AllP C) : ∃ v', (execOp a.eval o).run cx.P w = .ok (.value v') w ∧ VRel r w v' v := by
  have he : ∀ x, VRel r w (a.eval x) (ev cx fr x) := fun x => ev_rel hi hf x
  generalize a.eval = ρ at he
  obtain ⟨dst, op, ty, pos, after, guard⟩ := o
  unfold aPure at h
  simp only at h
  have q : ∀ {s : Sem Value}, (∃ v', s.run cx.P w = .ok v' w ∧ VRel r w v' v) → ∃ v', (do let x ← s; pure (Next.value x) : Sem Next).run cx.P w = .ok (.value v') w ∧ VRel r w v' v := by
    rintro s ⟨v', h1, h2⟩
    exact ⟨v', exec_v h1, h2⟩
  split at h
  · simp only [Option.some.injEq, Prod.mk.injEq] at h; obtain ⟨rfl, rfl⟩ := h
    exact ⟨_, rfl, he _⟩
  · simp only [Option.some.injEq, Prod.mk.injEq] at h; obtain ⟨rfl, rfl⟩ := h
    exact ⟨_, rfl, he _⟩
  · rename_i c x y
    have hc := he c
    split at h
    · rename_i t ht
      rw [ht] at hc
      have hc' : ρ c = .bool t := by generalize ρ c = z at hc; cases hc; rfl
      split at h
      · simp only [Option.some.injEq, Prod.mk.injEq] at h; obtain ⟨rfl, rfl⟩ := h
        exact ⟨ρ x, by simp [execOp, hc', asBool], he _⟩
      · simp only [Option.some.injEq, Prod.mk.injEq] at h; obtain ⟨rfl, rfl⟩ := h
        exact ⟨ρ y, by simp [execOp, hc', asBool], he _⟩
    · cases h
  · -- load
    rename_i t x
    have hx := he x
    unfold execOp
    refine q ?_
    generalize ρ x = y at hx ⊢
    split at h
    · rename_i id ver off hxe
      rw [hxe] at hx
      split at h
      · rename_i cur cs ro hb
        split at h
        · rename_i u hl
          simp only [Option.some.injEq, Prod.mk.injEq] at h; obtain ⟨rfl, rfl⟩ := h
          cases hx
          rename_i b o hρ
          have hc := ((hi.cells hb hC.1 hρ).cells'.drop off)
          obtain ⟨v', h1, h2⟩ := aLoad_run (P := cx.P) hc hl
          exact ⟨v', by simpa [Instr.loadAt, Instr.sureAddr] using h1, h2⟩
        · cases h
      · cases h
    · rename_i st cs hxe
      rw [hxe] at hx
      split at h
      · rename_i u hl
        simp only [Option.some.injEq, Prod.mk.injEq] at h; obtain ⟨rfl, rfl⟩ := h
        cases y <;> try (cases hx; done)
        obtain ⟨b, o, rfl, _, _, hc⟩ := Cells.of_rp hx
        obtain ⟨v', h1, h2⟩ := aLoad_run (P := cx.P) hc hl
        exact ⟨v', by simpa [Instr.loadAt, Instr.sureAddr] using h1, h2⟩
      · cases h
    · cases h
  · -- nilCheck
    rename_i x
    have hx := he x
    unfold execOp
    try simp only
    generalize ρ x = y at hx ⊢
    split at h
    · rename_i id ver off hxe
      simp only [Option.some.injEq, Prod.mk.injEq] at h; obtain ⟨rfl, rfl⟩ := h
      rw [hxe] at hx
      cases hx
      exact ⟨_, rfl, .ptr (by assumption)⟩
    · rename_i id ver off hxe
      simp only [Option.some.injEq, Prod.mk.injEq] at h; obtain ⟨rfl, rfl⟩ := h
      rw [hxe] at hx
      cases hx
      exact ⟨_, rfl, .eptr (by assumption)⟩
    · rename_i st cs hxe
      simp only [Option.some.injEq, Prod.mk.injEq] at h; obtain ⟨rfl, rfl⟩ := h
      rw [hxe] at hx
      cases y <;> try (cases hx; done)
      obtain ⟨b, o, rfl, h1, h2, hc⟩ := Cells.of_rp hx
      exact ⟨_, rfl, Cells.rp h1 h2 hc⟩
    · cases h
  · -- binOp
    rename_i op t x y yt
    have hx := he x
    have hy := he y
    unfold execOp
    refine q ?_
    try simp only
    generalize ρ x = x' at hx ⊢
    generalize ρ y = y' at hy ⊢
    unfold aBin2 at h
    split at h
    · rename_i as bs hx1 hy1
      rw [hx1] at hx; rw [hy1] at hy
      exact eqSt_run h hC hx hy
    unfold aBin at h
    split at h
    · rename_i k1 n1 k2 n2 hx1 hy1
      rw [hx1] at hx; rw [hy1] at hy
      cases hx
      cases hy
      have hg : ∀ op, eqGuard op t x y (.int k1 n1) (.int k2 n2) = pure () := fun op => by cases op <;> rfl
      split at h
      · simp only [Option.some.injEq, Prod.mk.injEq] at h; obtain ⟨rfl, rfl⟩ := h
        have h0 : ¬ n2 < 0 := by have := hC.1; omega
        exact ⟨_, by simp [hg, binOp, Op.shift, h0], .int⟩
      · simp only [Option.some.injEq, Prod.mk.injEq] at h; obtain ⟨rfl, rfl⟩ := h
        have h0 : ¬ n2 < 0 := by have := hC.1; omega
        exact ⟨_, by simp [hg, binOp, Op.shift, h0], .int⟩
      · split at h
        · rename_i hk
          have := kindEq_eq hk
          subst this
          obtain ⟨v', h1, h2⟩ := run_binOp_int cx.P w _ t k1 n1 n2 C v r h hC
          exact ⟨v', by simp [hg, h1], h2⟩
        · cases h
    · rename_i s1 s2 hx1 hy1
      rw [hx1] at hx; rw [hy1] at hy
      cases x' <;> try (cases hx; done)
      cases y' <;> try (cases hy; done)
      rename_i u1 u2
      have hg : ∀ op, eqGuard op t x y (.string u1) (.string u2) = pure () := fun op => by cases op <;> rfl
      cases hx with
      | str hs1 =>
        cases hy with
        | str hs2 =>
          subst hs1; subst hs2
          obtain ⟨v', h1, h2⟩ := run_binOp_str cx.P w _ t u1 u2 C v r h hC
          exact ⟨v', by simp [hg, h1], h2⟩
    · split at h
      · split at h
        · rename_i C' b hb
          simp only [Option.some.injEq, Prod.mk.injEq] at h; obtain ⟨rfl, rfl⟩ := h
          exact ⟨_, (run_eq_guarded hb hC hx hy).1, .bool⟩
        · cases h
      · split at h
        · rename_i C' b hb
          simp only [Option.some.injEq, Prod.mk.injEq] at h; obtain ⟨rfl, rfl⟩ := h
          exact ⟨_, (run_eq_guarded hb hC hx hy).2, .bool⟩
        · cases h
      · cases h
  · -- unOp
    rename_i op t x
    have hx := he x
    split at h
    · rename_i u hu
      simp only [Option.some.injEq, Prod.mk.injEq] at h; obtain ⟨rfl, rfl⟩ := h
      unfold execOp
      exact q (aUn_run hu hx)
    · cases h
  · unfold execOp
    exact q (aConv_run hi h hC (he _))
  · -- makeInterface
    rename_i t x
    cases hn : notIface cx.P t with
    | false => rw [hn] at h; cases h
    | true =>
      rw [hn] at h
      simp only [cond_true, Option.some.injEq, Prod.mk.injEq] at h; obtain ⟨rfl, rfl⟩ := h
      obtain ⟨d, hd, hni⟩ := notIface_run hn
      unfold execOp
      refine q ⟨.iface t (ρ x), ?_, .iface (he x)⟩
      unfold Instr.makeInterface
      simp only [Sem.run_bind, run_underlying hd, Result.andThen_ok]
      cases d <;> first | rfl | exact absurd rfl (hni _)
  · -- makeFunc
    rename_i fn first captured
    simp only [Option.some.injEq, Prod.mk.injEq] at h; obtain ⟨rfl, rfl⟩ := h
    refine ⟨.func fn (first.map ρ) (captured.map ρ), rfl, .func (by simp) (fun i hi => ?_) (by simp) (fun i hi => ?_)⟩
    · simp only [List.length_map, Array.length_toList] at hi
      rw [getD_of_lt _ _ _ (by simpa using hi)]
      simpa using he _
    · simp only [List.length_map, Array.length_toList] at hi
      rw [getD_of_lt _ _ _ (by simpa using hi)]
      simpa using he _
  · -- slice
    rename_i t x lo hi' mx
    unfold execOp
    refine q ?_
    have hb : ∀ (z : Option Operand) (m : Option Int), bInt (z.map (ev cx fr)) = some m → Bd r w (z.map ρ) m := by
      intro z m hz
      refine bInt_bd hz ?_ ?_
      · intro v hv
        cases z with
        | none => cases hv
        | some y => simp only [Option.map_some, Option.some.injEq] at hv; subst hv; exact ⟨_, rfl, he y⟩
      · intro hv
        cases z with
        | none => rfl
        | some y => cases hv
    exact aSlice_run hi h hC (he x) (hb lo) (hb hi') (hb mx)
  · -- fieldAddr
    rename_i s x f
    have hx := he x
    split at h
    · rename_i off t hfo
      obtain ⟨fs, g, hu, hg, rfl, rfl⟩ := fieldOf_some hfo
      split at h
      · rename_i m hm
        cases hz : Nat.beq m 0 with
        | true => rw [hz] at h; cases h
        | false =>
          rw [hz] at h
          have hm0 : m ≠ 0 := fun e => by subst e; simp at hz
          have hrun : ∀ b o, (Instr.fieldAt s (.pointer (some ⟨b, o, none⟩)) f).run cx.P w = .ok (.pointer (some ⟨b, o + g.offset, none⟩)) w := by
            intro b o
            simp [Instr.fieldAt, run_underlying hu, hg, Instr.sureAddr, fieldPlace, run_sizeOf' hm, hm0, Addr.add_lit]
          unfold execOp
          refine q ?_
          try simp only
          generalize ρ x = y at hx ⊢
          simp only [cond_false] at h
          split at h
          · rename_i id ver o hxe
            simp only [Option.some.injEq, Prod.mk.injEq] at h; obtain ⟨rfl, rfl⟩ := h
            rw [hxe] at hx
            cases hx
            exact ⟨_, hrun _ _, by rw [Nat.add_assoc]; exact .ptr (by assumption)⟩
          · rename_i id ver o hxe
            simp only [Option.some.injEq, Prod.mk.injEq] at h; obtain ⟨rfl, rfl⟩ := h
            rw [hxe] at hx
            cases hx
            exact ⟨_, hrun _ _, by rw [Nat.add_assoc]; exact .eptr (by assumption)⟩
          · rename_i st cs hxe
            simp only [Option.some.injEq, Prod.mk.injEq] at h; obtain ⟨rfl, rfl⟩ := h
            rw [hxe] at hx
            cases y <;> try (cases hx; done)
            obtain ⟨b, o, rfl, h1, h2, hc⟩ := Cells.of_rp hx
            exact ⟨_, hrun _ _, Cells.rp h1 h2 (hc.drop _)⟩
          · cases h
      · cases h
    · cases h
  · -- field
    rename_i s x f
    have hx := he x
    split at h
    · rename_i off t hfo
      obtain ⟨fs, g, hu, hg, rfl, rfl⟩ := fieldOf_some hfo
      unfold execOp
      refine q ?_
      try simp only
      generalize ρ x = y at hx ⊢
      split at h
      · rename_i cs hxe
        rw [hxe] at hx
        split at h
        · rename_i u hl
          simp only [Option.some.injEq, Prod.mk.injEq] at h; obtain ⟨rfl, rfl⟩ := h
          cases y <;> try (cases hx; done)
          obtain ⟨v', h1, h2⟩ := part_run (P := cx.P) hx hl
          exact ⟨v', by simp [Instr.field, run_underlying hu, hg, asAgg, h1], h2⟩
        · cases h
      · cases h
    · cases h
  · -- index
    rename_i t x i
    have hx := he x
    have hy := he i
    unfold execOp
    refine q ?_
    try simp only
    generalize ρ x = x' at hx ⊢
    generalize ρ i = y' at hy ⊢
    split at h
    · rename_i s k m hu hx1 hy1
      rw [hx1] at hx; rw [hy1] at hy
      simp only [Option.some.injEq, Prod.mk.injEq] at h; obtain ⟨rfl, rfl⟩ := h
      obtain ⟨h0, h1, _⟩ := hC
      cases hy
      cases hx with
      | str hs =>
        rename_i u
        subst hs
        have hlt : m.toNat < u.data.size := by simp only [Array.length_toList] at h1; omega
        have hget : u[m.toNat]? = some (u.data[m.toNat]) := by
          exact dif_pos (c := m.toNat < u.size) hlt
        refine ⟨.int .u8 (u.data[m.toNat]).toNat, by simp [Instr.index, asIntOf, run_underlying hu, h0, hget], ?_⟩
        have : u.data.toList.getD m.toNat 0 = u.data[m.toNat] := by
          simp [List.getD, Array.getElem?_eq_getElem hlt]
        rw [this]
        exact .int
    · cases h
  · -- typeAssert
    rename_i x xt t ok
    have hx := he x
    unfold execOp
    refine q ?_
    try simp only
    generalize ρ x = x' at hx ⊢
    split at h
    · rename_i u y hx1
      rw [hx1] at hx
      split at h
      case h_2 => cases h
      rename_i hn1
      obtain ⟨d, hd, hni⟩ := notIface_run hn1
      split at h
      · rename_i hn2
        simp only [Option.some.injEq, Prod.mk.injEq] at h; obtain ⟨rfl, rfl⟩ := h
        have hut := Nat.eq_of_beq_eq_true hn2
        subst hut
        cases hx with
        | iface hv =>
          rename_i v0
          refine ⟨if ok then .tuple #[v0, .bool true] else v0, ?_, ?_⟩
          · unfold Instr.typeAssert
            simp only [Sem.run_bind, run_underlying hd, Result.andThen_ok]
            cases d <;> first | exact absurd rfl (hni _) | simp
          · cases ok
            · exact hv
            · refine .tup rfl (fun i hi => ?_)
              simp only [List.length_cons, List.length_nil] at hi
              rcases i with _ | _ | i
              · exact hv
              · exact .bool
              · omega
      · rename_i hn2
        split at h
        case h_2 => cases h
        rename_i z hz
        simp only [Option.some.injEq, Prod.mk.injEq] at h; obtain ⟨rfl, rfl⟩ := h
        obtain ⟨z', hz1, hz2⟩ := zeroV_run hz r w
        have hut : u ≠ t := fun e => by subst e; simp at hn2
        cases hx with
        | iface hv =>
          rename_i v0
          refine ⟨.tuple #[z', .bool false], ?_, ?_⟩
          · unfold Instr.typeAssert
            simp only [Sem.run_bind, run_underlying hd, Result.andThen_ok]
            cases d <;> first | exact absurd rfl (hni _) | simp [hut, hz1]
          · refine .tup rfl (fun i hi => ?_)
            simp only [List.length_cons, List.length_nil] at hi
            rcases i with _ | _ | i
            · exact hz2
            · exact .bool
            · omega
    · rename_i hx1
      rw [hx1] at hx
      split at h
      case h_2 => cases h
      rename_i hn1
      obtain ⟨d, hd, hni⟩ := notIface_run hn1
      split at h
      case h_2 => cases h
      rename_i z hz
      simp only [Option.some.injEq, Prod.mk.injEq] at h; obtain ⟨rfl, rfl⟩ := h
      obtain ⟨z', hz1, hz2⟩ := zeroV_run hz r w
      cases hx
      refine ⟨.tuple #[z', .bool false], ?_, ?_⟩
      · unfold Instr.typeAssert
        simp only [Sem.run_bind, run_underlying hd, Result.andThen_ok]
        cases d <;> first | exact absurd rfl (hni _) | simp [hz1]
      · refine .tup rfl (fun i hi => ?_)
        simp only [List.length_cons, List.length_nil] at hi
        rcases i with _ | _ | i
        · exact hz2
        · exact .bool
        · omega
    · cases h
  · -- extract
    rename_i x i
    have hx := he x
    unfold execOp
    refine q ?_
    try simp only
    generalize ρ x = x' at hx ⊢
    split at h
    · rename_i vs hx1
      rw [hx1] at hx
      split at h
      · rename_i u hu
        simp only [Option.some.injEq, Prod.mk.injEq] at h; obtain ⟨rfl, rfl⟩ := h
        cases x' <;> try (cases hx; done)
        obtain ⟨v', h1, h2⟩ := tup_getElem? hx i _ hu
        exact ⟨v', by simp [Instr.extract, h1], h2⟩
      · cases h
    · cases h
  · -- len
    rename_i args ts
    obtain ⟨bs, hbs⟩ := run_len_call cx.P w ρ .len args ts dst ty pos after guard
    rw [hbs]
    split at h
    · rename_i x t hargs hts
      have h1 : args = #[x] := by rw [← Array.toArray_toList (xs := args), hargs]
      have h2 : ts = #[t] := by rw [← Array.toArray_toList (xs := ts), hts]
      subst h1; subst h2
      obtain ⟨v', h3, h4⟩ := aLen_run (ty := ty) hi h hC (he x)
      refine ⟨v', ?_, h4⟩
      simp only [builtin, List.map_toArray, List.map_cons, List.map_nil]
      exact exec_v h3
    · cases h
  · -- where a slice lies
    rename_i args ts
    obtain ⟨bs, hbs⟩ := run_len_call cx.P w ρ .unsafeSliceData args ts dst ty pos after guard
    rw [hbs]
    split at h
    · rename_i x hargs
      have h1 : args = #[x] := by rw [← Array.toArray_toList (xs := args), hargs]
      subst h1
      have hx := he x
      split at h
      · rename_i id ver off len sz fl hxe
        simp only [Option.some.injEq, Prod.mk.injEq] at h; obtain ⟨rfl, rfl⟩ := h
        rw [hxe] at hx
        simp only [builtin, List.map_toArray, List.map_cons, List.map_nil]
        generalize ρ x = z at hx ⊢
        cases hx with
        | ms0 => exact absurd hC.1 (by omega)
        | ms hρ hcap hn hff =>
          rename_i b o cap
          refine ⟨.pointer (some ⟨b, o + off, none⟩), exec_v ?_, .eptr hρ⟩
          have h0 : 0 < len := hC.1
          obtain ⟨k, rfl⟩ : ∃ k, cap = k + 1 := ⟨cap - 1, by omega⟩
          rfl
      · rename_i hxe
        simp only [Option.some.injEq, Prod.mk.injEq] at h; obtain ⟨rfl, rfl⟩ := h
        rw [hxe] at hx
        simp only [builtin, List.map_toArray, List.map_cons, List.map_nil]
        generalize ρ x = z at hx ⊢
        cases hx
        exact ⟨.pointer none, exec_v rfl, .nilp⟩
      · cases h
    · cases h
  · -- the least
    rename_i args ts
    obtain ⟨bs, hbs⟩ := run_len_call cx.P w ρ .min args ts dst ty pos after guard
    rw [hbs]
    split at h
    · rename_i x y hargs
      have h1 : args = #[x, y] := by rw [← Array.toArray_toList (xs := args), hargs]
      subst h1
      have hx := he x
      have hy := he y
      split at h
      · rename_i k a k' b hxe hye
        simp only [Option.some.injEq, Prod.mk.injEq] at h; obtain ⟨rfl, rfl⟩ := h
        rw [hxe] at hx
        rw [hye] at hy
        simp only [builtin, List.map_toArray, List.map_cons, List.map_nil]
        generalize ρ x = z at hx ⊢
        generalize ρ y = z' at hy ⊢
        cases hx
        cases hy
        exact ⟨_, exec_v (Lib.run_min_ints w ts ty k k' a b), .int⟩
      · cases h
    · cases h
  · -- the greatest
    rename_i args ts
    obtain ⟨bs, hbs⟩ := run_len_call cx.P w ρ .max args ts dst ty pos after guard
    rw [hbs]
    split at h
    · rename_i x y hargs
      have h1 : args = #[x, y] := by rw [← Array.toArray_toList (xs := args), hargs]
      subst h1
      have hx := he x
      have hy := he y
      split at h
      · rename_i k a k' b hxe hye
        simp only [Option.some.injEq, Prod.mk.injEq] at h; obtain ⟨rfl, rfl⟩ := h
        rw [hxe] at hx
        rw [hye] at hy
        simp only [builtin, List.map_toArray, List.map_cons, List.map_nil]
        generalize ρ x = z at hx ⊢
        generalize ρ y = z' at hy ⊢
        cases hx
        cases hy
        exact ⟨_, exec_v (Lib.run_max_ints w ts ty k k' a b), .int⟩
      · cases h
    · rename_i x y u hargs
      have h1 : args = #[x, y, u] := by rw [← Array.toArray_toList (xs := args), hargs]
      subst h1
      have hx := he x
      have hy := he y
      have hu := he u
      split at h
      · rename_i k a k' b k'' c hxe hye hue
        simp only [Option.some.injEq, Prod.mk.injEq] at h; obtain ⟨rfl, rfl⟩ := h
        rw [hxe] at hx
        rw [hye] at hy
        rw [hue] at hu
        simp only [builtin, List.map_toArray, List.map_cons, List.map_nil]
        generalize ρ x = z at hx ⊢
        generalize ρ y = z' at hy ⊢
        generalize ρ u = z'' at hu ⊢
        cases hx
        cases hy
        cases hu
        exact ⟨_, exec_v (run_max3 w ts ty k k' k'' a b c), .int⟩
      · cases h
    · cases h
  · cases h

end Go.Ab
