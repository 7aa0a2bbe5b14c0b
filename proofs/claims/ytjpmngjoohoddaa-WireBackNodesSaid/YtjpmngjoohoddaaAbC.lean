/-
  The operations that change nothing: what each makes of abstract values, and that the model does so.
-/
import Derived.Test.YtjpmngjoohoddaaAbB
import Derived.Laws.Entries
import Derived.Laws.Strings
set_option linter.unusedVariables false
set_option linter.unusedSimpArgs false
namespace Go.Ab
open Go

def AllP : List Prop → Prop
  | [] => True
  | p :: r => p ∧ AllP r

def cst1 : Value → AV
  | .bool b => .bool b
  | .int k n => .int k n
  | .string s => .str s.data.toList
  | .pointer none => .nilp
  | .slice none 0 0 => .nils
  | .map none => .nilm
  | .nilFunc => .nilf
  | .nilIface => .nili
  | _ => .top

def cst : Value → AV
  | .agg cs => .agg (cs.toList.map cst1)
  | .tuple cs => .tup (cs.toList.map cst1)
  | .iface t v => .iface t (cst1 v)
  | v => cst1 v

theorem cst1_rel (r : Rl) (w : World) (v : Value) : VRel r w v (cst1 v) := by
  unfold cst1
  split <;> first | exact .bool | exact .int | exact .str rfl | exact .nilp | exact .nils | exact .nilm | exact .nilf | exact .nili | exact .top

theorem cst_rel (r : Rl) (w : World) (v : Value) : VRel r w v (cst v) := by
  unfold cst
  split
  · refine .agg (by simp) (fun i hi => ?_)
    simp only [List.length_map, Array.length_toList] at hi
    simp only [List.getElem_map, Array.getElem_toList]
    have : ∀ (cs : Array Value) (h : i < cs.size), cs.getD i undef = cs[i] := fun cs h => by simp [Array.getD, h]
    rw [this _ hi]; exact cst1_rel r w _
  · refine .tup (by simp) (fun i hi => ?_)
    simp only [List.length_map, Array.length_toList] at hi
    simp only [List.getElem_map, Array.getElem_toList]
    have : ∀ (cs : Array Value) (h : i < cs.size), cs.getD i undef = cs[i] := fun cs h => by simp [Array.getD, h]
    rw [this _ hi]; exact cst1_rel r w _
  · exact .iface (cst1_rel r w _)
  · exact cst1_rel r w _

def ev (cx : Cx) (fr : Fr) : Operand → AV
  | .tmp t => fr.get t
  | .const v => cst v
  | .global g => match cx.G g with | some cs => .rp true cs | none => .top
  | .func f => .func (.func f) [] []

theorem ev_rel {cx : Cx} {r : Rl} {σ : Heap} {w : World} {n : Nat} {fr : Fr} {a : Act} (hi : Inv cx r σ w) (hf : FRel r w n fr a) (x : Operand) : VRel r w (a.eval x) (ev cx fr x) := by
  cases x with
  | tmp t => exact hf.get t
  | const v => exact cst_rel r w v
  | global g =>
    simp only [ev, Act.eval]
    split
    · rename_i cs h
      obtain ⟨h1, h2⟩ := hi.glob g cs h
      have h3 : ∀ i, ∃ v, i < cs.length → w.cell? ⟨g, i, none⟩ = some v := fun i => by
        by_cases hl : i < cs.length
        · obtain ⟨v, hv, _⟩ := h2 i hl; exact ⟨v, fun _ => hv⟩
        · exact ⟨undef, fun h => absurd h hl⟩
      refine .rp (hi.SI _ h1) (fun _ => h1) (fun i => (h3 i).choose) (fun i hl => ?_) (fun i hl => ?_)
      · rw [Nat.zero_add]; exact (h3 i).choose_spec hl
      · obtain ⟨v, hv, hr⟩ := h2 i hl
        have h4 := (h3 i).choose_spec hl
        have h5 : (h3 i).choose = v := Option.some.inj (h4.symm.trans hv)
        exact h5.symm ▸ hr r w
    · exact .top
  | func f => exact .func rfl (fun i h => absurd h (by simp)) rfl (fun i h => absurd h (by simp))

def kindEq : IntKind → IntKind → Bool
  | .i8, .i8 | .i16, .i16 | .i32, .i32 | .i64, .i64 | .u8, .u8 | .u16, .u16 | .u32, .u32 | .u64, .u64 => true
  | _, _ => false

theorem kindEq_eq {a b : IntKind} (h : kindEq a b = true) : a = b := by cases a <;> cases b <;> first | rfl | simp [kindEq] at h

def bitsA (op : BinOp) (k : IntKind) (x y : Int) : Int :=
  let a := BitVec.ofInt k.bits x
  let b := BitVec.ofInt k.bits y
  k.wrap (match op with
    | .and => (a &&& b).toNat
    | .or => (a ||| b).toNat
    | .xor => (a ^^^ b).toNat
    | _ => (a &&& ~~~b).toNat)

def aInt (op : BinOp) (k : IntKind) (a b : Int) : Option (List Prop × AV) :=
  match op with
  | .add => some ([], .int k (k.wrap (a + b)))
  | .sub => some ([], .int k (k.wrap (a - b)))
  | .mul => some ([], .int k (k.wrap (a * b)))
  | .quo => some ([b ≠ 0], .int k (k.wrap (a.tdiv b)))
  | .rem => some ([b ≠ 0], .int k (a.tmod b))
  | .and => some ([], .int k (bitsA .and k a b))
  | .or => some ([], .int k (bitsA .or k a b))
  | .xor => some ([], .int k (bitsA .xor k a b))
  | .andNot => some ([], .int k (bitsA .andNot k a b))
  | .eql => some ([], .bool (a == b))
  | .neq => some ([], .bool (a != b))
  | .lss => some ([], .bool (decide (a < b)))
  | .leq => some ([], .bool (decide (a ≤ b)))
  | .gtr => some ([], .bool (decide (a > b)))
  | .geq => some ([], .bool (decide (a ≥ b)))
  | _ => none

def aStr (op : BinOp) (a b : List UInt8) : Option (List Prop × AV) :=
  match op with
  | .add => some ([((a.length + b.length : Nat) : Int) ≤ 9223372036854775807], .str (a ++ b))
  | .eql => some ([], .bool (a == b))
  | .neq => some ([], .bool !(a == b))
  | .lss => some ([], .bool (Op.bytesLess a b))
  | .leq => some ([], .bool (Op.bytesLess a b || a == b))
  | .gtr => some ([], .bool !(Op.bytesLess a b || a == b))
  | .geq => some ([], .bool !(Op.bytesLess a b))
  | _ => none

def isPtrT (P : Program) (t : TypeId) : Bool :=
  match P.underlying t with
  | some (.pointer e) => match P.info? e with | some i => !(Nat.beq i.size 0) | none => false
  | _ => false
def isIfaceT (P : Program) (t : TypeId) : Bool := match P.underlying t with | some (.interface _) => true | _ => false
def isBoolT (P : Program) (t : TypeId) : Bool := match P.underlying t with | some .bool => true | _ => false
def isFuncT (P : Program) (t : TypeId) : Bool := match P.underlying t with | some (.func ..) => true | _ => false
def isMapT (P : Program) (t : TypeId) : Bool := match P.underlying t with | some (.map ..) => true | _ => false

/-- '==' where it is plain: of two bools, of a pointer and nil, of two pointers into one box, of an interface value and nil. -/
def aEq (P : Program) (t : TypeId) : AV → AV → Option (List Prop × Bool)
  | .bool a, .bool b => if isBoolT P t then some ([], a == b) else none
  | .nilp, .nilp => if isPtrT P t then some ([], true) else none
  | .ptr .., .nilp => if isPtrT P t then some ([], false) else none
  | .nilp, .ptr .. => if isPtrT P t then some ([], false) else none
  | .ptr i v o, .ptr j u p => if isPtrT P t && Nat.beq i j then some ([v = u], Nat.beq o p) else none
  | .iface .., .nili => if isIfaceT P t then some ([], false) else none
  | .nili, .iface .. => if isIfaceT P t then some ([], false) else none
  | .nilf, .nilf => if isFuncT P t then some ([], true) else none
  | .func .., .nilf => if isFuncT P t then some ([], false) else none
  | .map .., .nilm => if isMapT P t then some ([], false) else none
  | .nilm, .nilm => if isMapT P t then some ([], true) else none
  | _, _ => none

def isShift : BinOp → Bool | .shl | .shr => true | _ => false

def aBin (P : Program) (op : BinOp) (t : TypeId) (x y : AV) : Option (List Prop × AV) :=
  match x, y with
  | .int k a, .int k' b =>
    match op with
    | .shl => some ([0 ≤ b], .int k (k.wrap (a * 2 ^ (min b.toNat k.bits))))
    | .shr => some ([0 ≤ b], .int k (a.fdiv (2 ^ (min b.toNat k.bits))))
    | op => if kindEq k k' then aInt op k a b else none
  | .str a, .str b => aStr op a b
  | x, y =>
    match op with
    | .eql => match aEq P t x y with | some (c, b) => some (c, .bool b) | none => none
    | .neq => match aEq P t x y with | some (c, b) => some (c, .bool !b) | none => none
    | _ => none

theorem wrap_toNat (k : IntKind) (n : Nat) : (k.wrap ((n : Nat) : Int)) = k.wrap n := rfl

theorem run_binOp_int (P : Program) (w : World) (op : BinOp) (t : TypeId) (k : IntKind) (a b : Int) (C : List Prop) (v : AV) (r : Rl)
    (h : aInt op k a b = some (C, v)) (hC : AllP C) : ∃ v', (binOp op t (.int k a) (.int k b)).run P w = .ok v' w ∧ VRel r w v' v := by
  have q : ∀ {s : Sem Value} {x : Value} {y : AV}, s.run P w = .ok x w → VRel r w x y → ∃ v', s.run P w = .ok v' w ∧ VRel r w v' y := fun h1 h2 => ⟨_, h1, h2⟩
  cases op <;> simp only [aInt, Option.some.injEq, Prod.mk.injEq, reduceCtorEq] at h <;> (try (obtain ⟨rfl, rfl⟩ := h))
  case add => exact q (by simp [binOp, Op.intArith]) .int
  case sub => exact q (by simp [binOp, Op.intArith]) .int
  case mul => exact q (by simp [binOp, Op.intArith]) .int
  case quo => exact q (by have hb : b ≠ 0 := hC.1; simp [binOp, Op.intDiv, hb]) .int
  case rem => exact q (by have hb : b ≠ 0 := hC.1; simp [binOp, Op.intDiv, hb]) .int
  case and => exact q (by simp only [binOp, ne_eq, not_true, if_false, Op.intBits]; rfl) .int
  case or => exact q (by simp only [binOp, ne_eq, not_true, if_false, Op.intBits]; rfl) .int
  case xor => exact q (by simp only [binOp, ne_eq, not_true, if_false, Op.intBits]; rfl) .int
  case andNot => exact q (by simp only [binOp, ne_eq, not_true, if_false, Op.intBits]; rfl) .int
  case eql => exact q (by simp [binOp, Op.intCmp]) .bool
  case neq => exact q (by simp [binOp, Op.intCmp]) .bool
  case lss => exact q (by simp [binOp, Op.intCmp]) .bool
  case leq => exact q (by simp [binOp, Op.intCmp]) .bool
  case gtr => exact q (by simp [binOp, Op.intCmp]) .bool
  case geq => exact q (by simp [binOp, Op.intCmp]) .bool

theorem list_beq_toList (a b : ByteArray) : (a.toList == b.toList) = (a.data.toList == b.data.toList) := by rw [ByteArray.toList_eq, ByteArray.toList_eq]

theorem run_binOp_str (P : Program) (w : World) (op : BinOp) (t : TypeId) (s u : ByteArray) (C : List Prop) (v : AV) (r : Rl)
    (h : aStr op s.data.toList u.data.toList = some (C, v)) (hC : AllP C) : ∃ v', (binOp op t (.string s) (.string u)).run P w = .ok v' w ∧ VRel r w v' v := by
  have q : ∀ {z : Sem Value} {x : Value} {y : AV}, z.run P w = .ok x w → VRel r w x y → ∃ v', z.run P w = .ok v' w ∧ VRel r w v' y := fun h1 h2 => ⟨_, h1, h2⟩
  cases op <;> simp only [aStr, Option.some.injEq, Prod.mk.injEq, reduceCtorEq] at h <;> (try (obtain ⟨rfl, rfl⟩ := h))
  case add =>
    have hb : ((s.data.toList.length + u.data.toList.length : Nat) : Int) ≤ 9223372036854775807 := hC.1
    refine q (x := .string (s ++ u)) ?_ (.str (by simp))
    have hb' : ¬ (((s.size + u.size : Nat) : Int) > IntKind.i64.max) := by
      simp only [IntKind.max_i64]
      simp only [Array.length_toList] at hb
      show ¬ (((s.data.size + u.data.size : Nat) : Int) > 9223372036854775807)
      omega
    simp only [binOp, Op.stringOp]
    rw [if_neg hb']
    rfl
  case eql => exact q (by simp only [binOp, Op.stringOp, ByteArray.toList_eq]; rfl) .bool
  case neq => exact q (by simp only [binOp, Op.stringOp, ByteArray.toList_eq]; rfl) .bool
  case lss => exact q (by simp only [binOp, Op.stringOp, ByteArray.toList_eq]; rfl) .bool
  case leq => exact q (by simp only [binOp, Op.stringOp, ByteArray.toList_eq]; rfl) .bool
  case gtr => exact q (by simp only [binOp, Op.stringOp, ByteArray.toList_eq]; rfl) .bool
  case geq => exact q (by simp only [binOp, Op.stringOp, ByteArray.toList_eq]; rfl) .bool

theorem sameAddr_same (P : Program) (w : World) (b o p : Nat) : (sameAddr ⟨b, o, none⟩ ⟨b, p, none⟩).run P w = .ok (Nat.beq o p) w := by
  unfold sameAddr
  simp only [BEq.rfl, if_true, Sem.run_pure]
  congr 1
  by_cases h : o = p
  · subst h
    simp
  · have : Nat.beq o p = false := by
      cases hb : Nat.beq o p
      · rfl
      · exact absurd (Nat.eq_of_beq_eq_true hb) h
    rw [this]
    have : ¬ ((⟨b, o, none⟩ : Addr) = ⟨b, p, none⟩) := by simp [h]
    exact beq_false_of_ne this

theorem natBeq_add (a b c : Nat) : Nat.beq (c + a) (c + b) = Nat.beq a b := by
  cases h : Nat.beq a b
  · cases h2 : Nat.beq (c + a) (c + b)
    · rfl
    · have h3 := Nat.eq_of_beq_eq_true h2
      have h4 : a = b := by omega
      rw [h4] at h
      simp at h
  · rw [Nat.eq_of_beq_eq_true h]
    simp

theorem run_equalIn (P : Program) (w : World) (r : Rl) (d : Nat) (t : TypeId) (x y : Value) (x' y' : AV) (C : List Prop) (b : Bool)
    (h : aEq P t x' y' = some (C, b)) (hC : AllP C) (hx : VRel r w x x') (hy : VRel r w y y') : (Op.equalIn (d + 1) t x y).run P w = .ok b w := by
  have hpt : isPtrT P t = true → ∃ e i, P.underlying t = some (.pointer e) ∧ P.info? e = some i ∧ i.size ≠ 0 := by
    unfold isPtrT
    intro h
    split at h
    · rename_i e he
      split at h
      · rename_i i hii
        refine ⟨e, i, he, hii, fun h0 => ?_⟩
        rw [h0] at h; simp at h
      · cases h
    · cases h
  unfold aEq at h
  split at h <;> try (cases h; done)
  all_goals (split at h <;> try (cases h; done))
  all_goals (rename_i hcond; simp only [Option.some.injEq, Prod.mk.injEq] at h; obtain ⟨rfl, rfl⟩ := h)
  · cases hx; cases hy
    unfold isBoolT at hcond
    split at hcond
    · rename_i he; simp [Op.equalIn, run_underlying he]
    · cases hcond
  · cases hx; cases hy
    obtain ⟨e, i, he, _, _⟩ := hpt hcond
    simp [Op.equalIn, run_underlying he]
  · cases hx; cases hy
    obtain ⟨e, i, he, _, _⟩ := hpt hcond
    simp [Op.equalIn, run_underlying he]
  · cases hx; cases hy
    obtain ⟨e, i, he, _, _⟩ := hpt hcond
    simp [Op.equalIn, run_underlying he]
  · simp only [Bool.and_eq_true] at hcond
    obtain ⟨hc1, hc2⟩ := hcond
    obtain ⟨e, i, he, hii, h0⟩ := hpt hc1
    have hij := Nat.eq_of_beq_eq_true hc2
    have hv := hC.1
    cases hx with
    | ptr h1 =>
      cases hy with
      | ptr h2 =>
        subst hij
        rw [hv] at h1
        rw [h1] at h2
        simp only [Option.some.injEq, Prod.mk.injEq] at h2
        obtain ⟨rfl, rfl⟩ := h2
        simp only [Op.equalIn, Sem.run_bind, run_underlying he, Result.andThen_ok, sizeOf, typeInfo, run_program, hii, Sem.run_pure, ne_eq, h0, not_false_eq_true, if_true, sameAddr_same, natBeq_add]
  all_goals
    first
      | (cases hx; cases hy
         unfold isIfaceT at hcond
         split at hcond
         · rename_i he; simp [Op.equalIn, run_underlying he]
         · cases hcond)
      | (cases hx; cases hy
         unfold isFuncT at hcond
         split at hcond
         · rename_i he; simp [Op.equalIn, run_underlying he]
         · cases hcond)
      | (cases hx; cases hy
         unfold isMapT at hcond
         split at hcond
         · rename_i he; simp [Op.equalIn, run_underlying he]
         · cases hcond)

theorem run_equal (P : Program) (w : World) (r : Rl) (t : TypeId) (x y : Value) (x' y' : AV) (C : List Prop) (b : Bool)
    (h : aEq P t x' y' = some (C, b)) (hC : AllP C) (hx : VRel r w x x') (hy : VRel r w y y') : (Op.equal t x y).run P w = .ok b w :=
  run_equalIn P w r 9999 t x y x' y' C b h hC hx hy

end Go.Ab
